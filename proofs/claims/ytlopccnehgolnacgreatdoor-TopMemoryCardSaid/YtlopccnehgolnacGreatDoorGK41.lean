import Derived.Test.YtlopccnehgolnacGreatDoorGK38
import Derived.Test.YtlopccnehgolnacGreatDoorGK18
import Derived.BigQuiet
import Derived.Deep.DeepMust
namespace Go.Proofs.YtlopccnehgolnacGreatDoor
open Go.RowKit Rb
open Rd renaming below -> jA
set_option maxRecDepth 100000
set_option maxHeartbeats 1600000
def Z2w (b : Bk) (s : Txt) : Txt := match Z2q b.doms s with
 | some d => (Z5m d).1
 | none => match Z2i b.tabs s with
  | some t => (Z9w t).1
  | none => []
theorem rBk.doms_bd {w : World} {S : Nat -> Prop} {cs : List Value} {b : Bk} (h : rBk.rel w S cs b) : ∀ d ∈ b.doms, d.name.length <= 140737488355328 /\ InI d.lo /\ InI d.hi := by
 obtain ⟨v, u, rfl, hd, _⟩ := h
 obtain ⟨A, c, rfl, _, _, _, hE⟩ := rSl.elems hd
 intro d hm
 obtain ⟨i, hi, rfl⟩ := L1v hm
 obtain ⟨_, _, x, _, _, hx, hr, _⟩ := hE.dm hi
 rw [L0e hi] at hx
 obtain rfl := L0r hx
 exact hr
theorem Z14 {S : Nat -> Prop} {cs : List Value} {b : Bk} (s : Txt) (w : World) (hl : rBk.rel w S cs b) (hs : s.length <= 140737488355328) (hw : LibW w) (hp : PolW w) :
  Calls Tryz.prog 19 #[.agg cs.toArray, .string ⟨s.toArray⟩] w fun e w' => e = .returned (.string ⟨(Z2w b s).toArray⟩) /\ Below w.heap.size w w' := by
 have hbd := rBk.doms_bd hl
 have HL := L0 hl
 obtain ⟨v, u, rfl, hd, ht⟩ := hl
 obtain ⟨A, c, rfl, _⟩ := rSl.elems hd
 obtain ⟨B, d0, rfl, _⟩ := rSl.elems ht
 obtain ⟨W1, e1, HB1⟩ : ∃ W1, w.alloc (.cells #[.slice A b.doms.length c, .slice B b.tabs.length d0] 38) = W1 /\ Hid (Below w.heap.size w W1) := ⟨_, rfl, L0 bA⟩; have k0 := ac0 e1; have k1 := ac1 e1
 have hlt : w.heap.size < W1.heap.size := L0f _ _ k0
 have HLT := L0 hlt
 have HW := L0 fun w' (hb : Below w.heap.size w w') => hw.below hb
 have HP := L0 fun w' (hb : Below w.heap.size w w') => hp.below hb
 have HSL := L0 hs
 clear hd ht hw hp hs hlt
 cases hfd : Z2q b.doms s with
 | some d =>
  have hdb := hbd d (L2u hfd)
  have HDB := L0 hdb
  have HFD := L0 (Z0y W1 (jA HL.out HB1.out) HSL.out (show dmOf (Z2q b.doms s) = d by rw [hfd]; rfl) (show (Z2q b.doms s).isSome = true by rw [hfd]; rfl))
  have HRES : Hid (Z2w b s = (Z5m d).1) := L0 (by unfold Z2w; rw [hfd])
  clear hbd hfd hdb
  go_enter Tryz.func19, Tryz.ntmps19
  go_wp2_with (first
   | (go_at_call 48; (with_reducible refine HFD.out.mono ?_); rintro e w1 ⟨rfl, hb1⟩; have HB2 := L0 (HB1.out.trans (hb1.mono HB1.out.size)); obtain ⟨W3, e3, HB3⟩ : ∃ W3, w1.alloc (.cells #[.string ⟨d.name.toArray⟩, .int .i64 d.lo, .int .i64 d.hi] 63) = W3 /\ Hid (Below w.heap.size w W3) := ⟨_, rfl, L0 (HB2.out.alloc HB2.out.size _)⟩; have j0 := ac0 e3; have j1 := ac1 e3; have j2 := ac2 e3; clear hb1)
   | (go_at_call 49; (with_reducible refine (Y4a d W3 HDB.out.1 HDB.out.2.1 HDB.out.2.2 (HW.out _ HB3.out)).mono ?_); rintro e w4 ⟨rfl, hb4⟩; have HB4 := L0 (HB3.out.trans (hb4.mono HB3.out.size)); clear hb4))
  go_ret
  exact ⟨by rw [HRES.out]; rfl, HB4.out⟩
 | none =>
  have HFD := L0 (Z0y W1 (jA HL.out HB1.out) HSL.out (show dmOf (Z2q b.doms s) = dm0 by rw [hfd]; rfl) (show (Z2q b.doms s).isSome = false by rw [hfd]; rfl))
  cases hft : Z2i b.tabs s with
  | some t =>
   have HFT := L0 fun (w' : World) (hb : Below w.heap.size w w') => Z2p w' (jA HL.out hb) HSL.out (show tbOf (Z2i b.tabs s) = t by rw [hft]; rfl) (show (Z2i b.tabs s).isSome = true by rw [hft]; rfl)
   have HRES : Hid (Z2w b s = (Z9w t).1) := L0 (by unfold Z2w; rw [hfd]; simp only; rw [hft])
   clear hbd hfd hft
   go_enter Tryz.func19, Tryz.ntmps19
   go_wp2_with (first
    | (go_at_call 48; (with_reducible refine HFD.out.mono ?_); rintro e w1 ⟨rfl, hb1⟩; have HB2 := L0 (HB1.out.trans (hb1.mono HB1.out.size)); obtain ⟨W3, e3, HB3, q0, q1⟩ : ∃ W3, w1.alloc (.cells #[.string ⟨dm0.name.toArray⟩, .int .i64 dm0.lo, .int .i64 dm0.hi] 63) = W3 /\ Hid (Below w.heap.size w W3) /\ W3.cell? ⟨w.heap.size, 0, none⟩ = some (.slice A b.doms.length c) /\ W3.cell? ⟨w.heap.size, 1, none⟩ = some (.slice B b.tabs.length d0) := ⟨_, rfl, L0 (HB2.out.alloc HB2.out.size _), (bA.ce 0 (L0c HLT.out hb1.size)).trans ((hb1.ce 0 HLT.out).trans k0), (bA.ce 1 (L0c HLT.out hb1.size)).trans ((hb1.ce 1 HLT.out).trans k1)⟩; clear hb1 k0 k1)
    | (go_at_call 50; (with_reducible refine (HFT.out W3 HB3.out).mono ?_); rintro e w4 ⟨A4, c4, B4, d4, S4, rfl, hr4, hb4⟩; have HB4 := L0 (HB3.out.trans (hb4.mono HB3.out.size)); have HR4 := L0 hr4; obtain ⟨W5, e5, HB5, HR5⟩ : ∃ W5, w4.alloc (.cells #[.string ⟨t.name.toArray⟩, .int .i64 t.pol, .bool t.comp, .slice A4 t.ins.length c4, .slice B4 t.rules.length d4] 66) = W5 /\ Hid (Below w.heap.size w W5) /\ Hid (rTb.rel W5 S4 [.string ⟨t.name.toArray⟩, .int .i64 t.pol, .bool t.comp, .slice A4 t.ins.length c4, .slice B4 t.rules.length d4] t) := ⟨_, rfl, L0 (HB4.out.alloc HB4.out.size _), L0 (Rd.alloc HR4.out _)⟩; have j0 := ac0 e5; have j1 := ac1 e5; have j2 := ac2 e5; have j3 := ac3 e5; have j4 := ac4 e5; clear hb4 hr4 q0 q1)
    | (go_at_call 51; (with_reducible refine (Y5w t W5 HR5.out (HW.out _ HB5.out) (HP.out _ HB5.out)).mono ?_); rintro e w6 ⟨rfl, hb6⟩; have HB6 := L0 (HB5.out.trans (hb6.mono HB5.out.size)); clear hb6))
   go_ret
   exact ⟨by rw [HRES.out]; rfl, HB6.out⟩
  | none =>
   have HFT := L0 fun (w' : World) (hb : Below w.heap.size w w') => Z2p w' (jA HL.out hb) HSL.out (show tbOf (Z2i b.tabs s) = tb0 by rw [hft]; rfl) (show (Z2i b.tabs s).isSome = false by rw [hft]; rfl)
   have HRES : Hid (Z2w b s = []) := L0 (by unfold Z2w; rw [hfd]; simp only; rw [hft])
   clear hbd hfd hft
   go_enter Tryz.func19, Tryz.ntmps19
   go_wp2_with (first
    | (go_at_call 48; (with_reducible refine HFD.out.mono ?_); rintro e w1 ⟨rfl, hb1⟩; have HB2 := L0 (HB1.out.trans (hb1.mono HB1.out.size)); obtain ⟨W3, e3, HB3, q0, q1⟩ : ∃ W3, w1.alloc (.cells #[.string ⟨dm0.name.toArray⟩, .int .i64 dm0.lo, .int .i64 dm0.hi] 63) = W3 /\ Hid (Below w.heap.size w W3) /\ W3.cell? ⟨w.heap.size, 0, none⟩ = some (.slice A b.doms.length c) /\ W3.cell? ⟨w.heap.size, 1, none⟩ = some (.slice B b.tabs.length d0) := ⟨_, rfl, L0 (HB2.out.alloc HB2.out.size _), (bA.ce 0 (L0c HLT.out hb1.size)).trans ((hb1.ce 0 HLT.out).trans k0), (bA.ce 1 (L0c HLT.out hb1.size)).trans ((hb1.ce 1 HLT.out).trans k1)⟩; clear hb1 k0 k1)
    | (go_at_call 50; (with_reducible refine (HFT.out W3 HB3.out).mono ?_); rintro e w4 ⟨A4, c4, B4, d4, S4, rfl, hr4, hb4⟩; have HB4 := L0 (HB3.out.trans (hb4.mono HB3.out.size)); clear hb4 hr4))
   go_ret
   refine ⟨by rw [HRES.out]; rfl, ?_⟩
   exact HB4.out.alloc HB4.out.size _
theorem Z8r {S S' : Nat -> Prop} {cs cs' : List Value} (b : Bk) (w : World) (h : rBk.rel w S cs b) (h' : rBk.rel w S' cs' b) (hw : LibW w) (hp : PolW w) :
  Calls Tryz.prog 22 #[.agg cs.toArray, .agg cs'.toArray] w fun e w' => e = .returned (.bool true) /\ Below w.heap.size w w' := by
 have HL0 := L0 h
 have HL0' := L0 h'
 obtain ⟨v, u, rfl, ha, hi⟩ := h
 obtain ⟨v', u', rfl, ha', hi'⟩ := h'
 obtain ⟨A, c, rfl, _, _, hby, hE⟩ := rSl.elems ha
 obtain ⟨B, d, rfl, _, _, hby2, hI⟩ := rSl.elems hi
 obtain ⟨A', c', rfl, _, _, _, hE'⟩ := rSl.elems ha'
 obtain ⟨B', d', rfl, _, _, _, hI'⟩ := rSl.elems hi'
 have hln : b.doms.length <= 4398046511104 := by simp only [rDm] at hby; omega
 have hlm : b.tabs.length <= 1759218604441 := by simp only [rTb] at hby2; omega
 obtain ⟨X, e1, HB1, p0, p1, q0, q1⟩ : ∃ X, (w.alloc (.cells #[.slice A b.doms.length c, .slice B b.tabs.length d] 38)).alloc (.cells #[.slice A' b.doms.length c', .slice B' b.tabs.length d'] 38) = X /\ Hid (Below w.heap.size w X) /\
   X.cell? ⟨w.heap.size, 0, none⟩ = some (.slice A b.doms.length c) /\ X.cell? ⟨w.heap.size, 1, none⟩ = some (.slice B b.tabs.length d) /\ X.cell? ⟨w.heap.size + 1, 0, none⟩ = some (.slice A' b.doms.length c') /\ X.cell? ⟨w.heap.size + 1, 1, none⟩ = some (.slice B' b.tabs.length d') := by
  have z1 : (w.alloc (.cells #[.slice A b.doms.length c, .slice B b.tabs.length d] 38)).heap.size = w.heap.size + 1 := by simp
  refine ⟨_, rfl, L0 (bA.alloc (by simp) _), ?_, ?_, ?_, ?_⟩
  all_goals first
   | exact (L0j _ _ _ (by simp)).trans (L0b _ _ _ _)
   | (rw [<- z1]; exact L0b _ _ _ _)
 have HE := L0 (hE.keep (.of_below HB1.out))
 have HE' := L0 (hE'.keep (.of_below HB1.out))
 have HI := L0 (hI.keep (.of_below HB1.out))
 have HI' := L0 (hI'.keep (.of_below HB1.out))
 have HW := L0 fun w' (hb : Below w.heap.size w w') => hw.below hb
 have HP := L0 fun w' (hb : Below w.heap.size w w') => hp.below hb
 have hn1 : ((b.doms.length : Int) != (b.doms.length : Int)) = false := by simp
 have hn2 : ((b.tabs.length : Int) != (b.tabs.length : Int)) = false := by simp
 have hz0 : w.heap.size < X.heap.size := L0f _ _ p0
 have hz1 : w.heap.size + 1 < X.heap.size := L0f _ _ q0
 have HZ0 := L0 hz0
 have HZ1 := L0 hz1
 have HOLD : Hid (∀ wr, Below X.heap.size X wr -> wr.cell? ⟨w.heap.size, 0, none⟩ = some (.slice A b.doms.length c) /\ wr.cell? ⟨w.heap.size + 1, 0, none⟩ = some (.slice A' b.doms.length c') /\ wr.cell? ⟨w.heap.size, 1, none⟩ = some (.slice B b.tabs.length d) /\ wr.cell? ⟨w.heap.size + 1, 1, none⟩ = some (.slice B' b.tabs.length d')) := L0 fun wr hb =>
  ⟨(hb.ce 0 hz0).trans p0, (hb.ce 0 hz1).trans q0, (hb.ce 1 hz0).trans p1, (hb.ce 1 hz1).trans q1⟩
 clear ha hi ha' hi' hE hE' hI hI' hby hby2 hz0 hz1 hw hp
 go_enter Tryz.func22, Tryz.ntmps22
 go_wp2
 clear e1 p0 p1 q0 q1
 go_loopw [26] (fun i wr => ∃ k : Nat, k <= b.doms.length /\ i = .int .i64 k /\ Hid (Below X.heap.size X wr)) (fun i _ => b.doms.length - (intOf i).toNat)
 case atStart => exact ⟨0, L0n _, rfl, L0 (L0m _ _)⟩
 case round =>
  obtain ⟨k, hk, rfl, HB⟩ := hrel
  obtain ⟨p0, q0, p1, q1⟩ := HOLD.out wr HB.out
  by_cases hlt : k < b.doms.length
  ·obtain ⟨b1, o1, y, rfl, hb1, hx, _, g0, g1, g2⟩ := HE.out.dm hlt
   obtain ⟨b2, o2, y', rfl, hb2, hx', _, h0, h1, h2⟩ := HE'.out.dm hlt
   obtain rfl : y = y' := by rw [hx] at hx'; exact L0r hx'
   rw [<- HB.out.ce _ hb1] at g0 g1 g2
   rw [<- HB.out.ce _ hb2] at h0 h1 h2
   have hik : (k : Int) < (b.doms.length : Int) := by omega
   clear hx hx' p1 q1
   go_wp2
   go_region
   all_goals
    go_wp2
    go_roundw
    case rel => exact ⟨k + 1, by omega, by go_num, L0 HB.out.drew⟩
    case measure => simp [intOf]; omega
  ·have hik : ¬ (k : Int) < (b.doms.length : Int) := by omega
   clear p0 q0
   go_wp2
   clear p1 q1
   go_loopw [44] (fun i wr => ∃ k : Nat, k <= b.tabs.length /\ i = .int .i64 k /\ Hid (Below X.heap.size X wr)) (fun i _ => b.tabs.length - (intOf i).toNat)
   case atStart => exact ⟨0, L0n _, rfl, HB⟩
   case round =>
    clear HB
    obtain ⟨m, hm, rfl, HB⟩ := hrel
    obtain ⟨p0, q0, p1, q1⟩ := HOLD.out wr HB.out
    by_cases hlt2 : m < b.tabs.length
    ·obtain ⟨b1, o1, y, A1, c1, A2, c2, rfl, hb1, hx, hrl, g0, _, _, _, _⟩ := HI.out.tb hlt2
     obtain ⟨b2, o2, y', A3, c3, A4, c4, rfl, hb2, hx', _, h0, _, _, _, _⟩ := HI'.out.tb hlt2
     obtain rfl : y = y' := by rw [hx] at hx'; exact L0r hx'
     rw [<- HB.out.ce _ hb1] at g0
     rw [<- HB.out.ce _ hb2] at h0
     have hb1' : b1 < wr.heap.size := L0c hb1 HB.out.size
     have hb2' : b2 < wr.heap.size := L0c hb2 HB.out.size
     have hz0 : w.heap.size < wr.heap.size := L0c HZ0.out HB.out.size
     have hz1 : w.heap.size + 1 < wr.heap.size := L0c HZ1.out HB.out.size
     have hnm : y.name.length <= 140737488355328 := by obtain ⟨_, _, _, h, _⟩ := hrl; exact h
     have hik2 : (m : Int) < (b.tabs.length : Int) := by omega
     have HBW := L0 (HB1.out.trans (HB.out.mono HB1.out.size))
     have HCa := L0 fun w' (hb : Below wr.heap.size wr w') => Z14 y.name w' (jA HL0.out (HBW.out.trans (hb.mono HBW.out.size))) hnm (HW.out _ (HBW.out.trans (hb.mono HBW.out.size))) (HP.out _ (HBW.out.trans (hb.mono HBW.out.size)))
     have HCb := L0 fun w' (hb : Below wr.heap.size wr w') => Z14 y.name w' (jA HL0'.out (HBW.out.trans (hb.mono HBW.out.size))) hnm (HW.out _ (HBW.out.trans (hb.mono HBW.out.size))) (HP.out _ (HBW.out.trans (hb.mono HBW.out.size)))
     clear hx hx' hrl hnm hb1 hb2
     go_wp2
     refine wp_region_quiet_below (by kernel_rfl) (by kernel_rfl) ?_
     repeat (go_big_quiet_step (first | with_reducible exact Calls.inBelow HCa.out _ _ | with_reducible exact Calls.inBelow HCb.out _ _))
     refine wpQuiet_nil ?_
     intro _ hw'
     obtain ⟨⟨dq, osq⟩, hw''⟩ := hw'
     subst hw''
     go_wp2
     go_roundw
     case rel => exact ⟨m + 1, by omega, by go_num, L0 (HB.out.trans ((below_regrown _ _ _).mono HB.out.size))⟩
     case measure => simp [intOf]; omega
    ·have hik2 : ¬ (m : Int) < (b.tabs.length : Int) := by omega
     go_wp2
     go_ret
     exact ⟨rfl, HB1.out.trans (HB.out.mono HB1.out.size)⟩
