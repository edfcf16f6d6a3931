
/- TableAreas: the walk. -/
import Derived.Test.YtlopccnehgolnabDoorRefA
import Derived.Test.YtlopccnehgolnabDoorRefI
import Derived.Test.YtlopccnehgolnabDoorBoxC
import Derived.Test.YtlopccnehgolnabDoorTabT
namespace Go.Proofs.YtlopccnehgolnabDoor
open Go.RowKit Rb

theorem IsTable_b {S : Nat → Prop} {cs : List Value} {t : Tb} {b : Bool} (w : World) (hl : rTb.rel w S cs t) (h : goodT t = b) : Calls Tryd.prog 11 #[.agg cs.toArray] w fun e w' => e = .returned (.bool b) ∧ Below w.heap.size w w' := h ▸ IsTable_any w hl

theorem SameBox_same {S T : Nat → Prop} {v u : Value} {b : Bx} (w : World) (hl : rBx.rel w S [v] b) (hn : rBx.rel w T [u] b) :
    Calls Tryd.prog 16 #[v, u] w fun e w' => e = .returned (.bool true) ∧ Below w.heap.size w w' := by
  have h := SameBox_any w hl hn
  rwa [decide_eq_true rfl] at h

set_option maxRecDepth 100000 in
set_option maxHeartbeats 1600000 in
theorem TableAreas_walk {S T : Nat → Prop} {cs : List Value} {t : Tb} {u : Value} {all : Bx} (w : World) (hl : rTb.rel w S cs t) (hm : rBx.rel w T [u] all) :
    Calls Tryd.prog 5 #[.agg cs.toArray, u] w fun e w' => e = .returned (.bool true) ∧ Below w.heap.size w w' := by
  have hl0 := hl
  obtain ⟨vi, vr, rfl, hnm, hp, hi, hr⟩ := hl
  obtain ⟨A, c, rfl, _⟩ := rSl.elems hi
  obtain ⟨B, d, rfl, _, _, hr3, hF⟩ := rSl.elems hr
  have hr5 : t.rules.length ≤ 4398046511104 := by simp only [rRl] at hr3; omega
  obtain ⟨W0, e0, HB0, HT0, c0, c1, c2, c3, c4, hs0⟩ : ∃ W0, w.alloc (.cells #[.string ⟨t.name.toArray⟩, .int .i64 t.pol, .bool t.comp, .slice A t.ins.length c, .slice B t.rules.length d] 25) = W0 ∧ Hid (Below w.heap.size w W0) ∧ Hid (rTb.rel W0 S [.string ⟨t.name.toArray⟩, .int .i64 t.pol, .bool t.comp, .slice A t.ins.length c, .slice B t.rules.length d] t) ∧
      W0.cell? ⟨w.heap.size, 0, none⟩ = some (.string ⟨t.name.toArray⟩) ∧ W0.cell? ⟨w.heap.size, 1, none⟩ = some (.int .i64 t.pol) ∧ W0.cell? ⟨w.heap.size, 2, none⟩ = some (.bool t.comp) ∧ W0.cell? ⟨w.heap.size, 3, none⟩ = some (.slice A t.ins.length c) ∧ W0.cell? ⟨w.heap.size, 4, none⟩ = some (.slice B t.rules.length d) ∧ w.heap.size < W0.heap.size :=
    ⟨_, rfl, Lib.hid ((Below.refl _ _).alloc (Nat.le_refl _) _), Lib.hid (Rd.alloc hl0 _), World.cell?_alloc_new _ _ _ _, World.cell?_alloc_new _ _ _ _, World.cell?_alloc_new _ _ _ _, World.cell?_alloc_new _ _ _ _, World.cell?_alloc_new _ _ _ _, by simp⟩
  have HF := Lib.hid hF
  have HM := Lib.hid hm
  obtain ⟨AU, cU, rfl, _⟩ := rSl.elems hm
  obtain ⟨gt, hgt⟩ : ∃ r, goodT t = r := ⟨_, rfl⟩
  have HGT := Lib.hid hgt
  clear hi hr hr3 hF hl0 hm hgt hnm hp
  cases gt
  · go_enter Tryd.func5, Tryd.ntmps5
    go_wp2_with (first | (go_at_call 11; go_must ((with_reducible refine (IsTable_b W0 HT0.out HGT.out).mono ?_); rintro e w1 ⟨rfl, hb1⟩; have HB1 := Lib.hid (HB0.out.trans (hb1.mono HB0.out.size)); clear hb1)) | (go_at_call 12; go_must ((with_reducible refine (tablesLaw_any _).mono ?_); rintro e w2 ⟨rfl, hb2⟩)))
    go_ret
    exact ⟨rfl, HB1.out.trans (hb2.mono HB1.out.size)⟩
  go_enter Tryd.func5, Tryd.ntmps5
  go_wp2_with (first | (go_at_call 11; go_must ((with_reducible refine (IsTable_b W0 HT0.out HGT.out).mono ?_); rintro e w1 ⟨rfl, hb1⟩; have HB1 := Lib.hid (HB0.out.trans (hb1.mono HB0.out.size)); have d4 := (hb1.cell (p := ⟨w.heap.size, 4, none⟩) hs0).trans c4; clear hb1)))
  clear d4 e0 c0 c1 c2 c3 c4
  go_loopw [18] (fun i wr => ∃ k : Nat, k ≤ t.rules.length ∧ i = .int .i64 k ∧ Hid (Below w.heap.size w wr)) (fun i _ => t.rules.length - (intOf i).toNat)
  case atStart => exact ⟨0, Nat.zero_le _, rfl, HB1⟩
  case round =>
    clear HB1 HB0 HT0 hs0 HGT
    obtain ⟨k, hk, rfl, HB⟩ := hrel
    by_cases hlt : k < t.rules.length
    · obtain ⟨bB, off, r, q, rfl, _, hbB, hx, _, hq, h1, h2⟩ := HF.out.rl hlt
      rw [← HB.out.cell (p := ⟨bB, _, none⟩) hbB] at h1 h2
      have hq' := Rd.below hq HB.out
      obtain ⟨A2, c2, rfl, _⟩ := rSl.elems hq'
      have hik : (k : Int) < (t.rules.length : Int) := by omega
      obtain ⟨W1, e1, hB2, d0, d1, hs1⟩ : ∃ W1, wr.alloc (.cells #[.slice A2 r.cells.length c2, .int .i64 r.out] 43) = W1 ∧ Below wr.heap.size wr W1 ∧ W1.cell? ⟨wr.heap.size, 0, none⟩ = some (.slice A2 r.cells.length c2) ∧ W1.cell? ⟨wr.heap.size, 1, none⟩ = some (.int .i64 r.out) ∧ wr.heap.size < W1.heap.size :=
        ⟨_, rfl, (Below.refl _ _).alloc (Nat.le_refl _) _, World.cell?_alloc_new _ _ _ _, World.cell?_alloc_new _ _ _ _, by simp⟩
      have HBW := Lib.hid (HB.out.trans (hB2.mono HB.out.size))
      have HS1 := Lib.hid hs1
      have HM1 := Lib.hid (Rd.drew (Rd.below HM.out HBW.out))
      have HR1 := Lib.hid (Rd.drew (Rd.below hq' hB2))
      have HCB := Lib.hid (CopyBox_any W1.drew HM1.out)
      have HAR : Hid (∀ w3 z, Below W1.drew.heap.size W1.drew w3 → Own (rSl rRg) 51 w3 W1.drew.heap.size (fun _ => False) z all → Calls Tryd.prog 13 #[.agg #[.slice A2 r.cells.length c2, .int .i64 r.out], z] w3 fun e w' => ∃ x, e = .returned (.tuple #[x, .bool (someBx (areaB r all))]) ∧ (∃ T, rBx.rel w' T [x] (optBx (areaB r all))) ∧ Below w3.heap.size w3 w') := Lib.hid fun w3 z hb3 how => by
        refine (Area_any w3 (Rd.below HR1.out hb3) (how.rel (by decide))).mono ?_
        rintro e w' ⟨x, rfl, ho, hb⟩
        exact ⟨x, rfl, ⟨_, ho.rel (by decide)⟩, hb⟩
      clear hx hq hq' hB2 hs1
      obtain ⟨ok, hok⟩ : ∃ b, someBx (areaB r all) = b := ⟨_, rfl⟩
      have HOK := Lib.hid hok
      rw [hok] at HAR
      clear hok
      go_wp2
      clear e1 h1 h2
      go_region_held3 (fun w' => w'.cell? ⟨wr.heap.size, 0, none⟩ = some (.slice A2 r.cells.length c2) ∧ w'.cell? ⟨wr.heap.size, 1, none⟩ = some (.int .i64 r.out)) (go_keep) (first | (go_at_call 14; go_must ((with_reducible refine HCB.out.mono ?_); rintro e w3 ⟨z3, rfl, hown3, hb3⟩; obtain ⟨A3, c3, rfl⟩ := hown3.value; have i0 := (hb3.cell (p := ⟨wr.heap.size, 0, none⟩) HS1.out).trans d0; have i1 := (hb3.cell (p := ⟨wr.heap.size, 1, none⟩) HS1.out).trans d1; have HB3 := Lib.hid hb3; have HO3 := Lib.hid hown3; clear hb3 hown3)) | (go_at_call 13; go_must ((with_reducible refine (HAR.out w3 _ HB3.out HO3.out).mono ?_); rintro e w4 ⟨z4, rfl, ⟨T4, hr4⟩, hb4⟩; obtain ⟨A4, c4, rfl, _⟩ := rSl.elems hr4; have hb4' := HB3.out.trans (hb4.mono HB3.out.size); have l0 := (hb4'.cell (p := ⟨wr.heap.size, 0, none⟩) HS1.out).trans d0; have l1 := (hb4'.cell (p := ⟨wr.heap.size, 1, none⟩) HS1.out).trans d1; have HR4 := Lib.hid hr4; have HB4 := Lib.hid hb4'; clear hb4 hb4' hr4)))
      all_goals
        have HBX := Lib.hid ((drewN_below (Below.refl W1.heap.size W1) 1).trans HB4.out)
        have HAO := AreaOf_any w4 (Rd.below HR1.out HB4.out) (Rd.below HM1.out HB4.out)
        rw [HOK.out] at HAO
        replace HAO := Lib.hid HAO
        go_wp2_with (first | (go_at_call 15; go_must ((with_reducible refine HAO.out.mono ?_); rintro e w5 ⟨z5, rfl, hown5, hb5⟩; obtain ⟨A5, c5, rfl⟩ := hown5.value; have HO5 : Hid (rBx.rel w5 (Up (fun _ => False) w4.heap.size) [.slice A5 (optBx (areaB r all)).length c5] (optBx (areaB r all))) := Lib.hid (hown5.rel (by decide)); have HR5 := Lib.hid (Rd.below HR4.out hb5); have HB5 := Lib.hid (HBX.out.trans (hb5.mono HBX.out.size)); clear hb5 hown5)) | (go_at_call 16; go_must ((with_reducible refine (SameBox_same w5 HR5.out HO5.out).mono ?_); rintro e w6 ⟨rfl, hb6⟩; have HB6 := Lib.hid (HB5.out.trans (hb6.mono HB5.out.size)); clear hb6)))
        go_roundw
        case rel => exact ⟨k + 1, by omega, by go_num, Lib.hid (HBW.out.trans (HB6.out.mono HBW.out.size))⟩
        case measure => simp [intOf]; omega
    · go_wp2_with (first | (go_at_call 12; go_must ((with_reducible refine (tablesLaw_any _).mono ?_); rintro e w2 ⟨rfl, hb2⟩)))
      go_ret
      exact ⟨rfl, HB.out.trans (hb2.mono HB.out.size)⟩

end Go.Proofs.YtlopccnehgolnabDoor
