import Derived.Test.YtlopccnehgolnadGreatDoorGRuns40
import Derived.Test.YtlopccnehgolnadGreatDoorGRuns19
namespace Go.Proofs.YtlopccnehgolnadGreatDoor
open Go.RowKit Rb
open Go.Lib renaming hid -> hI
open Go.World renaming cell?_alloc_new -> cN
open Nat renaming lt_of_lt_of_le -> nL, le_refl -> nR
open Go.RowKit.Below renaming refl -> jA
open Rd renaming below -> jB
set_option maxRecDepth 100000
set_option maxHeartbeats 1600000
def Z2u (b : Bk) (s : Txt) : Txt := match Z2o b.doms s with
 | some d => (Z5q d).1
 | none => match Z2g b.tabs s with
  | some t => (Z9p t).1
  | none => []
theorem rBk.doms_bd {w : World} {S : Nat -> Prop} {cs : List Value} {b : Bk} (h : rBk.rel w S cs b) : ∀ d ∈ b.doms, d.name.length <= 140737488355328 /\ InI d.lo /\ InI d.hi := by
 obtain ⟨v, u, rfl, hd, _⟩ := h
 obtain ⟨A, c, rfl, _, _, _, hE⟩ := rSl.elems hd
 intro d hm
 obtain ⟨i, hi, rfl⟩ := List.getElem_of_mem hm
 obtain ⟨_, _, x, _, _, hx, hr, _⟩ := hE.dm hi
 rw [List.getElem?_eq_getElem hi] at hx
 obtain rfl := Option.some.inj hx
 exact hr
theorem Z2x {S : Nat -> Prop} {cs : List Value} {b : Bk} (s : Txt) (w : World) (hl : rBk.rel w S cs b) (hs : s.length <= 140737488355328) (hw : LibW w) (hp : PolW w) :
  Calls Tryz.prog 16 #[.agg cs.toArray, .string ⟨s.toArray⟩] w fun e w' => e = .returned (.string ⟨(Z2u b s).toArray⟩) /\ Below w.heap.size w w' := by
 have hbd := rBk.doms_bd hl
 have HL := hI hl
 obtain ⟨v, u, rfl, hd, ht⟩ := hl
 obtain ⟨A, c, rfl, _⟩ := rSl.elems hd
 obtain ⟨B, d0, rfl, _⟩ := rSl.elems ht
 obtain ⟨W1, e1, HB1, k0, k1⟩ : ∃ W1, w.alloc (.cells #[.slice A b.doms.length c, .slice B b.tabs.length d0] 46) = W1 /\ Hid (Below w.heap.size w W1) /\ W1.cell? ⟨w.heap.size, 0, none⟩ = some (.slice A b.doms.length c) /\ W1.cell? ⟨w.heap.size, 1, none⟩ = some (.slice B b.tabs.length d0) :=
  ⟨_, rfl, hI ((jA _ _).alloc (nR _) _), cN _ _ _ _, cN _ _ _ _⟩
 have hlt : w.heap.size < W1.heap.size := World.block_lt_of_cell? _ _ k0
 have HLT := hI hlt
 have HW := hI fun w' (hb : Below w.heap.size w w') => hw.below hb
 have HP := hI fun w' (hb : Below w.heap.size w w') => hp.below hb
 have HSL := hI hs
 clear hd ht hw hp hs hlt
 cases hfd : Z2o b.doms s with
 | some d =>
  have hdb := hbd d (List.mem_of_find?_eq_some hfd)
  have HDB := hI hdb
  have HFD := hI (Z0y W1 (jB HL.out HB1.out) HSL.out (show dmOf (Z2o b.doms s) = d by rw [hfd]; rfl) (show (Z2o b.doms s).isSome = true by rw [hfd]; rfl))
  have HRES : Hid (Z2u b s = (Z5q d).1) := hI (by unfold Z2u; rw [hfd])
  clear hbd hfd hdb
  go_enter Tryz.func16, Tryz.ntmps16
  go_wp2_with (first
   | (go_at_call 33; (with_reducible refine HFD.out.mono ?_); rintro e w1 ⟨rfl, hb1⟩; have HB2 := hI (HB1.out.trans (hb1.mono HB1.out.size)); obtain ⟨W3, e3, HB3, j0, j1, j2⟩ : ∃ W3, w1.alloc (.cells #[.string ⟨d.name.toArray⟩, .int .i64 d.lo, .int .i64 d.hi] 66) = W3 /\ Hid (Below w.heap.size w W3) /\ W3.cell? ⟨w1.heap.size, 0, none⟩ = some (.string ⟨d.name.toArray⟩) /\ W3.cell? ⟨w1.heap.size, 1, none⟩ = some (.int .i64 d.lo) /\ W3.cell? ⟨w1.heap.size, 2, none⟩ = some (.int .i64 d.hi) := ⟨_, rfl, hI (HB2.out.alloc HB2.out.size _), cN _ _ _ _, cN _ _ _ _, cN _ _ _ _⟩; clear hb1)
   | (go_at_call 34; (with_reducible refine (Y3z d W3 HDB.out.1 HDB.out.2.1 HDB.out.2.2 (HW.out _ HB3.out)).mono ?_); rintro e w4 ⟨rfl, hb4⟩; have HB4 := hI (HB3.out.trans (hb4.mono HB3.out.size)); clear hb4))
  go_ret
  exact ⟨by rw [HRES.out]; rfl, HB4.out⟩
 | none =>
  have HFD := hI (Z0y W1 (jB HL.out HB1.out) HSL.out (show dmOf (Z2o b.doms s) = dm0 by rw [hfd]; rfl) (show (Z2o b.doms s).isSome = false by rw [hfd]; rfl))
  cases hft : Z2g b.tabs s with
  | some t =>
   have HFT := hI fun (w' : World) (hb : Below w.heap.size w w') => Z2n w' (jB HL.out hb) HSL.out (show tbOf (Z2g b.tabs s) = t by rw [hft]; rfl) (show (Z2g b.tabs s).isSome = true by rw [hft]; rfl)
   have HRES : Hid (Z2u b s = (Z9p t).1) := hI (by unfold Z2u; rw [hfd]; simp only; rw [hft])
   clear hbd hfd hft
   go_enter Tryz.func16, Tryz.ntmps16
   go_wp2_with (first
    | (go_at_call 33; (with_reducible refine HFD.out.mono ?_); rintro e w1 ⟨rfl, hb1⟩; have HB2 := hI (HB1.out.trans (hb1.mono HB1.out.size)); obtain ⟨W3, e3, HB3, q0, q1⟩ : ∃ W3, w1.alloc (.cells #[.string ⟨dm0.name.toArray⟩, .int .i64 dm0.lo, .int .i64 dm0.hi] 66) = W3 /\ Hid (Below w.heap.size w W3) /\ W3.cell? ⟨w.heap.size, 0, none⟩ = some (.slice A b.doms.length c) /\ W3.cell? ⟨w.heap.size, 1, none⟩ = some (.slice B b.tabs.length d0) := ⟨_, rfl, hI (HB2.out.alloc HB2.out.size _), (((jA _ _).alloc (nR _) _).cell (p := ⟨w.heap.size, 0, none⟩) (nL HLT.out hb1.size)).trans ((hb1.cell (p := ⟨w.heap.size, 0, none⟩) HLT.out).trans k0), (((jA _ _).alloc (nR _) _).cell (p := ⟨w.heap.size, 1, none⟩) (nL HLT.out hb1.size)).trans ((hb1.cell (p := ⟨w.heap.size, 1, none⟩) HLT.out).trans k1)⟩; clear hb1 k0 k1)
    | (go_at_call 35; (with_reducible refine (HFT.out W3 HB3.out).mono ?_); rintro e w4 ⟨A4, c4, B4, d4, S4, rfl, hr4, hb4⟩; have HB4 := hI (HB3.out.trans (hb4.mono HB3.out.size)); have HR4 := hI hr4; obtain ⟨W5, e5, HB5, HR5, j0, j1, j2, j3, j4⟩ : ∃ W5, w4.alloc (.cells #[.string ⟨t.name.toArray⟩, .int .i64 t.pol, .bool t.comp, .slice A4 t.ins.length c4, .slice B4 t.rules.length d4] 69) = W5 /\ Hid (Below w.heap.size w W5) /\ Hid (rTb.rel W5 S4 [.string ⟨t.name.toArray⟩, .int .i64 t.pol, .bool t.comp, .slice A4 t.ins.length c4, .slice B4 t.rules.length d4] t) /\ W5.cell? ⟨w4.heap.size, 0, none⟩ = some (.string ⟨t.name.toArray⟩) /\ W5.cell? ⟨w4.heap.size, 1, none⟩ = some (.int .i64 t.pol) /\ W5.cell? ⟨w4.heap.size, 2, none⟩ = some (.bool t.comp) /\ W5.cell? ⟨w4.heap.size, 3, none⟩ = some (.slice A4 t.ins.length c4) /\ W5.cell? ⟨w4.heap.size, 4, none⟩ = some (.slice B4 t.rules.length d4) := ⟨_, rfl, hI (HB4.out.alloc HB4.out.size _), hI (Rd.alloc HR4.out _), cN _ _ _ _, cN _ _ _ _, cN _ _ _ _, cN _ _ _ _, cN _ _ _ _⟩; clear hb4 hr4 q0 q1)
    | (go_at_call 36; (with_reducible refine (Y5p t W5 HR5.out (HW.out _ HB5.out) (HP.out _ HB5.out)).mono ?_); rintro e w6 ⟨rfl, hb6⟩; have HB6 := hI (HB5.out.trans (hb6.mono HB5.out.size)); clear hb6))
   go_ret
   exact ⟨by rw [HRES.out]; rfl, HB6.out⟩
  | none =>
   have HFT := hI fun (w' : World) (hb : Below w.heap.size w w') => Z2n w' (jB HL.out hb) HSL.out (show tbOf (Z2g b.tabs s) = tb0 by rw [hft]; rfl) (show (Z2g b.tabs s).isSome = false by rw [hft]; rfl)
   have HRES : Hid (Z2u b s = []) := hI (by unfold Z2u; rw [hfd]; simp only; rw [hft])
   clear hbd hfd hft
   go_enter Tryz.func16, Tryz.ntmps16
   go_wp2_with (first
    | (go_at_call 33; (with_reducible refine HFD.out.mono ?_); rintro e w1 ⟨rfl, hb1⟩; have HB2 := hI (HB1.out.trans (hb1.mono HB1.out.size)); obtain ⟨W3, e3, HB3, q0, q1⟩ : ∃ W3, w1.alloc (.cells #[.string ⟨dm0.name.toArray⟩, .int .i64 dm0.lo, .int .i64 dm0.hi] 66) = W3 /\ Hid (Below w.heap.size w W3) /\ W3.cell? ⟨w.heap.size, 0, none⟩ = some (.slice A b.doms.length c) /\ W3.cell? ⟨w.heap.size, 1, none⟩ = some (.slice B b.tabs.length d0) := ⟨_, rfl, hI (HB2.out.alloc HB2.out.size _), (((jA _ _).alloc (nR _) _).cell (p := ⟨w.heap.size, 0, none⟩) (nL HLT.out hb1.size)).trans ((hb1.cell (p := ⟨w.heap.size, 0, none⟩) HLT.out).trans k0), (((jA _ _).alloc (nR _) _).cell (p := ⟨w.heap.size, 1, none⟩) (nL HLT.out hb1.size)).trans ((hb1.cell (p := ⟨w.heap.size, 1, none⟩) HLT.out).trans k1)⟩; clear hb1 k0 k1)
    | (go_at_call 35; (with_reducible refine (HFT.out W3 HB3.out).mono ?_); rintro e w4 ⟨A4, c4, B4, d4, S4, rfl, hr4, hb4⟩; have HB4 := hI (HB3.out.trans (hb4.mono HB3.out.size)); clear hb4 hr4))
   go_ret
   refine ⟨by rw [HRES.out]; rfl, ?_⟩
   exact HB4.out.alloc HB4.out.size _
