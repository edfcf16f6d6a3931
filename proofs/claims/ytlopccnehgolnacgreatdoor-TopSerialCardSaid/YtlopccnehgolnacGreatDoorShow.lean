import Derived.Test.YtlopccnehgolnacGreatDoorGK38
import Derived.Test.YtlopccnehgolnacGreatDoorGK18
namespace Go.Proofs.YtlopccnehgolnacGreatDoor
open Go.RowKit Rb
open Rd renaming below -> jA
set_option maxRecDepth 100000
set_option maxHeartbeats 1600000
def Z0y (b : Bk) (s : Txt) : Txt := match findD b.doms s with
 | some d => (Z4x d).1
 | none => match findT b.tabs s with
  | some t => (Z8k t).1
  | none => []
theorem rBk.doms_bd {w : World} {S : Nat -> Prop} {cs : List Value} {b : Bk} (h : rBk.rel w S cs b) : ∀ d ∈ b.doms, d.name.length <= 140737488355328 /\ InI d.lo /\ InI d.hi := by
 obtain ⟨v, u, rfl, hd, _⟩ := h
 obtain ⟨A, c, rfl, _, _, _, hE⟩ := rSl.elems hd
 intro d hm
 obtain ⟨i, hi, rfl⟩ := L1u hm
 obtain ⟨_, _, x, _, _, hx, hr, _⟩ := hE.dm hi
 rw [L0f hi] at hx
 obtain rfl := L0s hx
 exact hr
theorem Y1r {S : Nat -> Prop} {cs : List Value} {b : Bk} (s : Txt) (w : World) (hl : rBk.rel w S cs b) (hs : s.length <= 140737488355328) (hw : LibW w) (hp : PolW w) :
  Calls Tryz.prog 19 #[.agg cs.toArray, sq s] w fun e w' => e = .returned (.string ⟨(Z0y b s).toArray⟩) /\ Bw w w' := by
 have hbd := rBk.doms_bd hl
 have HL := L0 hl
 obtain ⟨v, u, rfl, hd, ht⟩ := hl
 obtain ⟨A, c, rfl, _⟩ := rSl.elems hd
 obtain ⟨B, d0, rfl, _⟩ := rSl.elems ht
 obtain ⟨W1, e1, HB1⟩ : ∃ W1, w.alloc (.cells #[.slice A b.doms.length c, .slice B b.tabs.length d0] 38) = W1 /\ Hid (Bw w W1) := ⟨_, rfl, L0 bA⟩; have k0 := ac0 e1; have k1 := ac1 e1
 have hlt : w.heap.size < W1.heap.size := L0d _ _ k0
 have HLT := L0 hlt
 have HW := L0 fun w' (hb : Bw w w') => hw.below hb
 have HP := L0 fun w' (hb : Bw w w') => hp.below hb
 have HSL := L0 hs
 clear hd ht hw hp hs hlt
 cases hfd : findD b.doms s with
 | some d =>
  have hdb := hbd d (L1s hfd)
  have HDB := L0 hdb
  have HFD := L0 (Z2h W1 (jA HL.o HB1.o) HSL.o (show dmOf (findD b.doms s) = d by rw [hfd]; rfl) (show (findD b.doms s).isSome = true by rw [hfd]; rfl))
  have HRES : Hid (Z0y b s = (Z4x d).1) := L0 (by unfold Z0y; rw [hfd])
  clear hbd hfd hdb
  go_enter Tryz.func19, Tryz.ntmps19
  go_wp2_with (first
   | (go_at_call 48; (with_reducible refine HFD.o.mono ?_); rintro e w1 ⟨rfl, hb1⟩; have HB2 := L0 (HB1.o.trans (hb1.mono HB1.o.size)); obtain ⟨W3, e3, HB3⟩ : ∃ W3, w1.alloc (.cells #[sq d.name, .int .i64 d.lo, .int .i64 d.hi] 63) = W3 /\ Hid (Bw w W3) := ⟨_, rfl, L0 (HB2.o.alloc HB2.o.size _)⟩; have j0 := ac0 e3; have j1 := ac1 e3; have j2 := ac2 e3; clear hb1)
   | (go_at_call 49; (with_reducible refine (Y6n d W3 HDB.o.1 HDB.o.2.1 HDB.o.2.2 (HW.o _ HB3.o)).mono ?_); rintro e w4 ⟨rfl, hb4⟩; have HB4 := L0 (HB3.o.trans (hb4.mono HB3.o.size)); clear hb4))
  go_ret
  exact ⟨by rw [HRES.o]; rfl, HB4.o⟩
 | none =>
  have HFD := L0 (Z2h W1 (jA HL.o HB1.o) HSL.o (show dmOf (findD b.doms s) = dm0 by rw [hfd]; rfl) (show (findD b.doms s).isSome = false by rw [hfd]; rfl))
  cases hft : findT b.tabs s with
  | some t =>
   have HFT := L0 fun (w' : World) (hb : Bw w w') => Z23 w' (jA HL.o hb) HSL.o (show tbOf (findT b.tabs s) = t by rw [hft]; rfl) (show (findT b.tabs s).isSome = true by rw [hft]; rfl)
   have HRES : Hid (Z0y b s = (Z8k t).1) := L0 (by unfold Z0y; rw [hfd]; simp only; rw [hft])
   clear hbd hfd hft
   go_enter Tryz.func19, Tryz.ntmps19
   go_wp2_with (first
    | (go_at_call 48; (with_reducible refine HFD.o.mono ?_); rintro e w1 ⟨rfl, hb1⟩; have HB2 := L0 (HB1.o.trans (hb1.mono HB1.o.size)); obtain ⟨W3, e3, HB3, q0, q1⟩ : ∃ W3, w1.alloc (.cells #[sq dm0.name, .int .i64 dm0.lo, .int .i64 dm0.hi] 63) = W3 /\ Hid (Bw w W3) /\ W3.cell? (zn w.heap.size 0) = some (.slice A b.doms.length c) /\ W3.cell? (zn w.heap.size 1) = some (.slice B b.tabs.length d0) := ⟨_, rfl, L0 (HB2.o.alloc HB2.o.size _), (bA.ce 0 (L0c HLT.o hb1.size)).trans ((hb1.ce 0 HLT.o).trans k0), (bA.ce 1 (L0c HLT.o hb1.size)).trans ((hb1.ce 1 HLT.o).trans k1)⟩; clear hb1 k0 k1)
    | (go_at_call 50; (with_reducible refine (HFT.o W3 HB3.o).mono ?_); rintro e w4 ⟨A4, c4, B4, d4, S4, rfl, hr4, hb4⟩; have HB4 := L0 (HB3.o.trans (hb4.mono HB3.o.size)); have HR4 := L0 hr4; obtain ⟨W5, e5, HB5, HR5⟩ : ∃ W5, w4.alloc (.cells #[sq t.name, .int .i64 t.pol, .bool t.comp, .slice A4 t.ins.length c4, .slice B4 t.rules.length d4] 66) = W5 /\ Hid (Bw w W5) /\ Hid (rTb.rel W5 S4 [sq t.name, .int .i64 t.pol, .bool t.comp, .slice A4 t.ins.length c4, .slice B4 t.rules.length d4] t) := ⟨_, rfl, L0 (HB4.o.alloc HB4.o.size _), L0 (Rd.alloc HR4.o _)⟩; have j0 := ac0 e5; have j1 := ac1 e5; have j2 := ac2 e5; have j3 := ac3 e5; have j4 := ac4 e5; clear hb4 hr4 q0 q1)
    | (go_at_call 51; (with_reducible refine (Y8e t W5 HR5.o (HW.o _ HB5.o) (HP.o _ HB5.o)).mono ?_); rintro e w6 ⟨rfl, hb6⟩; have HB6 := L0 (HB5.o.trans (hb6.mono HB5.o.size)); clear hb6))
   go_ret
   exact ⟨by rw [HRES.o]; rfl, HB6.o⟩
  | none =>
   have HFT := L0 fun (w' : World) (hb : Bw w w') => Z23 w' (jA HL.o hb) HSL.o (show tbOf (findT b.tabs s) = tb0 by rw [hft]; rfl) (show (findT b.tabs s).isSome = false by rw [hft]; rfl)
   have HRES : Hid (Z0y b s = []) := L0 (by unfold Z0y; rw [hfd]; simp only; rw [hft])
   clear hbd hfd hft
   go_enter Tryz.func19, Tryz.ntmps19
   go_wp2_with (first
    | (go_at_call 48; (with_reducible refine HFD.o.mono ?_); rintro e w1 ⟨rfl, hb1⟩; have HB2 := L0 (HB1.o.trans (hb1.mono HB1.o.size)); obtain ⟨W3, e3, HB3, q0, q1⟩ : ∃ W3, w1.alloc (.cells #[sq dm0.name, .int .i64 dm0.lo, .int .i64 dm0.hi] 63) = W3 /\ Hid (Bw w W3) /\ W3.cell? (zn w.heap.size 0) = some (.slice A b.doms.length c) /\ W3.cell? (zn w.heap.size 1) = some (.slice B b.tabs.length d0) := ⟨_, rfl, L0 (HB2.o.alloc HB2.o.size _), (bA.ce 0 (L0c HLT.o hb1.size)).trans ((hb1.ce 0 HLT.o).trans k0), (bA.ce 1 (L0c HLT.o hb1.size)).trans ((hb1.ce 1 HLT.o).trans k1)⟩; clear hb1 k0 k1)
    | (go_at_call 50; (with_reducible refine (HFT.o W3 HB3.o).mono ?_); rintro e w4 ⟨A4, c4, B4, d4, S4, rfl, hr4, hb4⟩; have HB4 := L0 (HB3.o.trans (hb4.mono HB3.o.size)); clear hb4 hr4))
   go_ret
   refine ⟨by rw [HRES.o]; rfl, ?_⟩
   exact HB4.o.alloc HB4.o.size _
