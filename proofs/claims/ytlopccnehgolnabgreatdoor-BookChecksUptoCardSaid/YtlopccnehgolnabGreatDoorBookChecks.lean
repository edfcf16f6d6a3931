
/- BookChecks: the walk. -/
import Derived.Test.YtlopccnehgolnabGreatDoorGrX
import Derived.Test.YtlopccnehgolnabGreatDoorGrU
import Derived.Test.YtlopccnehgolnabGreatDoorGrY
import Derived.Test.YtlopccnehgolnabGreatDoorGrW
import Derived.Test.YtlopccnehgolnabGreatDoorGrT
namespace Go.Proofs.YtlopccnehgolnabGreatDoor
open Go.RowKit Rb

theorem SameNumbers_k {S T : Nat → Prop} {v u : Value} {a : List Int} (w : World) (hl : (rSl rInt).rel w S [v] a) (hm : (rSl rInt).rel w T [u] a) :
    Calls Tryz.prog 23 #[v, u] w fun e w' => e = .returned (.bool true) ∧ Below w.heap.size w w' := by
  have h := SameNumbers_any w hl hm
  rwa [decide_eq_true rfl] at h

set_option maxRecDepth 100000 in
set_option maxHeartbeats 3200000 in
theorem BookChecks_walk {S : Nat → Prop} {cs : List Value} {b : Bk} (w : World) (hl : rBk.rel w S cs b) (hj : ∀ t ∈ b.tabs, JoinFits t.ins) :
    Calls Tryz.prog 6 #[.agg cs.toArray] w fun e w' => e = .returned (.bool true) ∧ Below w.heap.size w w' := by
  have hl' := hl
  obtain ⟨v0, u0, rfl, hd, htb⟩ := hl
  obtain ⟨A, c, rfl, _⟩ := rSl.elems hd
  obtain ⟨B, d, rfl, _⟩ := rSl.elems htb
  obtain ⟨W0, e0, HB0, c0, c1, hs0, HBK⟩ : ∃ W0, w.alloc (.cells #[.slice A b.doms.length c, .slice B b.tabs.length d] 33) = W0 ∧ Hid (Below w.heap.size w W0) ∧ W0.cell? ⟨w.heap.size, 0, none⟩ = some (.slice A b.doms.length c) ∧ W0.cell? ⟨w.heap.size, 1, none⟩ = some (.slice B b.tabs.length d) ∧ w.heap.size < W0.heap.size ∧ Hid (rBk.rel W0 S [.slice A b.doms.length c, .slice B b.tabs.length d] b) :=
    ⟨_, rfl, Lib.hid ((Below.refl _ _).alloc (Nat.le_refl _) _), World.cell?_alloc_new _ _ _ _, World.cell?_alloc_new _ _ _ _, by simp, Lib.hid (Rd.alloc hl' _)⟩
  obtain ⟨⟨nm, at_, er⟩, hck⟩ : ∃ x, checkB b = x := ⟨_, rfl⟩
  have HCK := Lib.hid hck
  have HJ := Lib.hid hj
  have HS0 := Lib.hid hs0
  have HC0 := Lib.hid c0
  have HC1 := Lib.hid c1
  have hnn : (nm == nm) = true := by simp
  have hee : (er == er) = true := by simp
  clear hl' hd htb hck hj hs0
  go_enter Tryz.func6, Tryz.ntmps6
  go_wp2_with (first
    | (go_at_call 27; go_must ((with_reducible refine (CopyBook_any W0 HBK.out).mono ?_); rintro e w1 ⟨v1, u1, rfl, hr1, hb1⟩; obtain ⟨_, _, hcs, hi1, ht1⟩ := id hr1; simp only [List.cons.injEq, and_true] at hcs; obtain ⟨rfl, rfl⟩ := hcs; obtain ⟨A1, c1', rfl, _⟩ := rSl.elems hi1; obtain ⟨B1, dd1, rfl, _⟩ := rSl.elems ht1; obtain ⟨W2, e2, HB2, HC2, HQ2, f0, f1, hs2⟩ : ∃ W2, w1.alloc (.cells #[.slice A1 b.doms.length c1', .slice B1 b.tabs.length dd1] 33) = W2 ∧ Hid (Below W0.heap.size W0 W2) ∧ Hid (rBk.rel W2 (Up (fun _ => False) W0.heap.size) [.slice A1 b.doms.length c1', .slice B1 b.tabs.length dd1] b) ∧ Hid (W0.heap.size ≤ w1.heap.size) ∧ W2.cell? ⟨w1.heap.size, 0, none⟩ = some (.slice A1 b.doms.length c1') ∧ W2.cell? ⟨w1.heap.size, 1, none⟩ = some (.slice B1 b.tabs.length dd1) ∧ w1.heap.size < W2.heap.size := ⟨_, rfl, Lib.hid (hb1.alloc hb1.size _), Lib.hid (Rd.alloc hr1 _), Lib.hid hb1.size, World.cell?_alloc_new _ _ _ _, World.cell?_alloc_new _ _ _ _, by simp⟩; have HF0 := Lib.hid f0; have HF1 := Lib.hid f1; have HS2 := Lib.hid hs2; clear hr1 hb1 hi1 ht1 hs2))
    | (go_at_call 28; go_must ((with_reducible refine (Check_at W2 HC2.out HCK.out).mono ?_); rintro e w3 ⟨Ak, ck, Sk, rfl, hk3, hb3⟩; have HB3 := Lib.hid (HB2.out.trans (hb3.mono HB2.out.size)); have HK3 := Lib.hid hk3; have d0 := (HB3.out.cell (p := ⟨w.heap.size, 0, none⟩) HS0.out).trans HC0.out; have d1 := (HB3.out.cell (p := ⟨w.heap.size, 1, none⟩) HS0.out).trans HC1.out; have HR3 := Lib.hid hb3; clear hk3 hb3 f0 f1))
    | (go_at_call 29; go_must ((with_reducible refine (CheckBook_at w3 (Rd.below HBK.out HB3.out) HCK.out).mono ?_); rintro e w4 ⟨Am, cm, Sm, rfl, hk4, hb4⟩; have HB4 := Lib.hid (HB3.out.trans (hb4.mono HB3.out.size)); have HR4 := Lib.hid (HR3.out.trans (hb4.mono HR3.out.size)); have HSN := Lib.hid (SameNumbers_k w4 (Rd.below HK3.out hb4) hk4); clear hk4 hb4 d0 d1)))
  have HCL : Hid (∀ w', Below w4.heap.size w4 w' → w'.cell? ⟨w.heap.size, 0, none⟩ = some (.slice A b.doms.length c) ∧ w'.cell? ⟨w.heap.size, 1, none⟩ = some (.slice B b.tabs.length d) ∧ w'.cell? ⟨w1.heap.size, 0, none⟩ = some (.slice A1 b.doms.length c1') ∧ w'.cell? ⟨w1.heap.size, 1, none⟩ = some (.slice B1 b.tabs.length dd1)) := Lib.hid fun w' hb => by
    have hbb := HB4.out.trans (hb.mono HB4.out.size)
    have hbc := HR4.out.trans (hb.mono HR4.out.size)
    exact ⟨(hbb.cell (p := ⟨w.heap.size, 0, none⟩) HS0.out).trans HC0.out, (hbb.cell (p := ⟨w.heap.size, 1, none⟩) HS0.out).trans HC1.out, (hbc.cell (p := ⟨w1.heap.size, 0, none⟩) HS2.out).trans HF0.out, (hbc.cell (p := ⟨w1.heap.size, 1, none⟩) HS2.out).trans HF1.out⟩
  have HSB := Lib.hid fun w' (hb : Below w4.heap.size w4 w') => SameBook_same w' (Rd.below (Rd.below HC2.out HR4.out) hb) (Rd.below (Rd.below HBK.out HB4.out) hb) HJ.out
  have HFIN : Hid (∀ w', Below w4.heap.size w4 w' → Below w.heap.size w w') := Lib.hid fun w' hb => HB0.out.trans ((HB4.out.trans (hb.mono HB4.out.size)).mono HB0.out.size)
  clear e0 e2 c0 c1
  go_wp2_with (first
    | (go_at_call 23; go_must ((with_reducible refine HSN.out.mono ?_); rintro e w7 ⟨rfl, hb7⟩; have HB7 := Lib.hid hb7; obtain ⟨a0, a1, b0, b1⟩ := HCL.out _ hb7; clear hb7))
    | (go_at_call 30; go_must ((with_reducible refine (HSB.out w7 HB7.out).mono ?_); rintro e w9 ⟨rfl, hb9⟩; have HB9 := Lib.hid (HB7.out.trans (hb9.mono HB7.out.size)); clear hb9))
    | (go_at_call 31; go_must ((with_reducible refine (booksLaw_any w9).mono ?_); rintro e w11 ⟨rfl, hb11⟩; have HB11 := Lib.hid (HB9.out.trans (hb11.mono HB9.out.size)); clear hb11)))
  go_ret
  exact ⟨by simp, HFIN.out _ HB11.out⟩

end Go.Proofs.YtlopccnehgolnabGreatDoor
