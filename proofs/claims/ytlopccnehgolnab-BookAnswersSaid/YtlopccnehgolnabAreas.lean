
/- The contracts of areas and Gap. -/
import Derived.Test.YtlopccnehgolnabClash
import Derived.Test.YtlopccnehgolnabBoxRests
namespace Go.Proofs.Ytlopccnehgolnab
open Go.RowKit Rb

def areasTo (rs : List Rl) (all : Bx) : List Bx := rs.flatMap fun r => if someBx (areaB r all) then [optBx (areaB r all)] else []
theorem areasTo_take {rs : List Rl} {all : Bx} {k : Nat} {r : Rl} (h : rs[k]? = some r) : areasTo (rs.take (k + 1)) all = areasTo (rs.take k) all ++ (if someBx (areaB r all) then [optBx (areaB r all)] else []) := by
  unfold areasTo
  rw [take_getElem? h, List.flatMap_append]
  simp
theorem areasTo_len (all : Bx) : ∀ rs : List Rl, (areasTo rs all).length ≤ rs.length
  | [] => by simp [areasTo]
  | r :: rs => by
    have := areasTo_len all rs
    have e : areasTo (r :: rs) all = (if someBx (areaB r all) then [optBx (areaB r all)] else []) ++ areasTo rs all := rfl
    rw [e, List.length_append, List.length_cons]
    split <;> simp <;> omega

set_option maxRecDepth 100000 in
set_option maxHeartbeats 800000 in
theorem areas_any {S T : Nat → Prop} {cs : List Value} {t : Tb} {u : Value} {all : Bx} (w : World) (hl : rTb.rel w S cs t) (hm : rBx.rel w T [u] all) (h6 : t.rules.length ≤ 6) :
    Calls Try.prog 30 #[.agg cs.toArray, u] w fun e w' => ∃ z S', e = .returned z ∧ (rSl rBx).rel w' S' [z] (areasTo t.rules all) ∧ Below w.heap.size w w' := by
  obtain ⟨vi, vr, rfl, hnm, hp, hi, hr⟩ := hl
  obtain ⟨A, c, rfl, hi1, hi2, hi3, hE⟩ := rSl.elems hi
  obtain ⟨B, d, rfl, hr1, hr2, hr3, hF⟩ := rSl.elems hr
  obtain ⟨C, g, rfl, _⟩ := rSl.elems hm
  have HALL := Lib.hid (show rBx.rel w (fun b => T b ∧ b < w.heap.size) _ _ from rBx.mono hm fun b h h' => ⟨h, h'⟩)
  obtain ⟨W0, e0, hb0, c4, hs0⟩ : ∃ W0, w.alloc (.cells #[.string ⟨t.name.toArray⟩, .int .i64 t.pol, .bool t.comp, .slice A t.ins.length c, .slice B t.rules.length d] 25) = W0 ∧ Below w.heap.size w W0 ∧
      W0.cell? ⟨w.heap.size, 4, none⟩ = some (.slice B t.rules.length d) ∧ w.heap.size < W0.heap.size :=
    ⟨_, rfl, (Below.refl _ _).alloc (Nat.le_refl _) _, World.cell?_alloc_new _ _ _ _, by simp⟩
  clear hi hr hE hi3 hr3 hm
  go_enter Try.func30, Try.ntmps30
  go_wp2
  clear e0 c4
  go_loopw [5, 13] (fun o i wr => ∃ (k : Nat) (out : List Bx), k ≤ t.rules.length ∧ i = .int .i64 k ∧ Own rBx 27 wr w.heap.size (fun b => T b ∧ b < w.heap.size) o out ∧ Hid (out = areasTo (t.rules.take k) all) ∧ Hid (out.length ≤ k) ∧ Below w.heap.size w wr) (fun _ i _ => t.rules.length - (intOf i).toNat)
  case atStart => exact ⟨0, [], Nat.zero_le _, rfl, Own.nil _ _ _ _ _, Lib.hid (by simp [areasTo]), Lib.hid (by simp), hb0⟩
  case round =>
    clear hb0
    obtain ⟨k, out, hk, rfl, hown, HO, HOL, hb⟩ := hrel
    by_cases hlt : k < t.rules.length
    · obtain ⟨bA, off, r, q, rfl, _, hbA, hx, hri, hq, g1, g2⟩ := hF.rl hlt
      rw [← hb.cell (p := ⟨bA, _, none⟩) hbA] at g1 g2
      have hik : (k : Int) < (t.rules.length : Int) := by omega
      have HT := Lib.hid (areasTo_take (all := all) hx)
      obtain ⟨A2, l2, rfl, _⟩ := rSl.elems hq
      have HQ := Lib.hid hq
      obtain ⟨W1, e1, hown1, hb1, d0, d1⟩ : ∃ W1, wr.alloc (.cells #[.slice A2 r.cells.length l2, .int .i64 r.out] 70) = W1 ∧ Own rBx 27 W1 w.heap.size (fun b => T b ∧ b < w.heap.size) u5 out ∧ Below w.heap.size w W1 ∧
          W1.cell? ⟨wr.heap.size, 0, none⟩ = some (.slice A2 r.cells.length l2) ∧ W1.cell? ⟨wr.heap.size, 1, none⟩ = some (.int .i64 r.out) :=
        ⟨_, rfl, hown.alloc _, hb.alloc hb.size _, World.cell?_alloc_new _ _ _ _, World.cell?_alloc_new _ _ _ _⟩
      clear hown hq hx
      have HQ1 := Lib.hid (Rd.below HQ.out hb1)
      have HALL1 := Lib.hid (Rd.below HALL.out hb1)
      have HLT := Lib.hid hown1.lt
      generalize har : areaB r all = ar at *
      have HAR := Lib.hid har
      clear har
      cases ar with
      | none =>
        have HT' : Hid (areasTo (t.rules.take (k + 1)) all = out) := Lib.hid (by rw [HT.out, HO.out]; simp [someBx])
        go_wp2_with (first | (go_at_call 31; go_must ((with_reducible refine (Area_none W1 HQ1.out HALL1.out HAR.out).mono ?_); rintro e w4 ⟨z9, rfl, hb4⟩)))
        go_roundw
        case rel => exact ⟨k + 1, out, by omega, by go_num, hown1.below hb4, Lib.hid HT'.out.symm, Lib.hid (by have := HOL.out; omega), hb1.trans (hb4.mono hb1.size)⟩
        case measure => simp [intOf]; omega
      | some a =>
        have HT' : Hid (areasTo (t.rules.take (k + 1)) all = out ++ [a]) := Lib.hid (by rw [HT.out, HO.out]; rfl)
        have HUP : Hid (∀ w4, Below W1.heap.size W1 w4 → ∀ b, Up (fun b => T b ∧ b < w.heap.size) W1.heap.size b → Up (fun b => T b ∧ b < w.heap.size) w.heap.size b ∧ u5.ownBlock ≠ some b) := Lib.hid (by
          rintro w4 h4 b (h | h)
          · exact ⟨.inl h, fun e => by have := HLT.out _ e; have := h.2; omega⟩
          · exact ⟨.inr (Nat.le_trans hb1.size h), fun e => by have := HLT.out _ e; omega⟩)
        have HBY : Hid ((out.length + 1) * rBx.bytes ≤ 140737488355328) := Lib.hid (by have := HOL.out; show (_ + _) * 24 ≤ _; omega)
        go_wp2_with (first | (go_at_call 31; go_must ((with_reducible refine (Area_some W1 HQ1.out HALL1.out HAR.out).mono ?_); rintro e w4 ⟨z9, rfl, how4, hb4⟩; obtain ⟨A9, l9, rfl⟩ := how4.value; have hbx := hb1.trans (hb4.mono hb1.size))) | (at_builtin; go_must (refine wpList_append_new (R := rBx) (x := a) el_Bxs rfl (.tmp 24) (.tmp 26) rfl rfl (hown1.below hb4) [.slice A9 a.length l9] rfl rfl (Up (fun b => T b ∧ b < w.heap.size) W1.heap.size) (how4.rel (by decide)) (fun b h _ => HUP.out w4 hb4 b h) HBY.out hbx.size ?_); intro v9 w9 hown9 hb9 _ _))
        go_roundw
        case rel => exact ⟨k + 1, out ++ [a], by omega, by go_num, hown9, Lib.hid HT'.out.symm, Lib.hid (by have := HOL.out; rw [List.length_append]; simp only [List.length_cons, List.length_nil]; omega), hbx.trans hb9⟩
        case measure => simp [intOf]; omega
    · have HQ : Hid (areasTo t.rules all = out) := Lib.hid (by rw [HO.out, List.take_of_length_le (by omega)])
      obtain ⟨A9, l9, rfl⟩ := hown.value
      go_wp2
      go_ret
      exact ⟨_, _, rfl, by rw [HQ.out]; exact hown.rel (by decide), hb⟩

theorem TGood_b {S : Nat → Prop} {cs : List Value} {t : Tb} {r : Bool} (w : World) (hl : rTb.rel w S cs t) (h : goodT t = r) :
    Calls Try.prog 7 #[.agg cs.toArray] w fun e w' => e = .returned (.bool r) ∧ Below w.heap.size w w' := h ▸ TGood_any w hl

def gapB (t : Tb) (all : Bx) : List Bx := if goodT t && goodBx all (t.ins.length : Int) && !decide (t.pol = 7) then restB all (areasTo t.rules all) else []

theorem areas_at {S T : Nat → Prop} {cs : List Value} {t : Tb} {u : Value} {all : Bx} {L : List Bx} (w : World) (hl : rTb.rel w S cs t) (hm : rBx.rel w T [u] all) (h6 : t.rules.length ≤ 6) (h : areasTo t.rules all = L) :
    Calls Try.prog 30 #[.agg cs.toArray, u] w fun e w' => ∃ z S', e = .returned z ∧ (rSl rBx).rel w' S' [z] L ∧ Below w.heap.size w w' := h ▸ areas_any w hl hm h6

set_option maxRecDepth 100000 in
set_option maxHeartbeats 800000 in
theorem Gap_any {S T : Nat → Prop} {cs : List Value} {t : Tb} {u : Value} {all : Bx} (w : World) (hl : rTb.rel w S cs t) (hm : rBx.rel w T [u] all) :
    Calls Try.prog 12 #[.agg cs.toArray, u] w fun e w' => ∃ z S', e = .returned (.tuple #[z, .bool (decide (0 < (gapB t all).length))]) ∧ (rSl rInt).rel w' S' [z] (leastB (gapB t all)) ∧ Below w.heap.size w w' := by
  have hl' := hl
  obtain ⟨vi, vr, rfl, hnm, hp, hi, hr⟩ := hl
  obtain ⟨A, c, rfl, _⟩ := rSl.elems hi
  obtain ⟨B, d, rfl, _⟩ := rSl.elems hr
  obtain ⟨C, g, rfl, _⟩ := rSl.elems hm
  obtain ⟨W0, e0, hb0, c0, c1, c2, c3, c4, hs0, HT, HA⟩ : ∃ W0, w.alloc (.cells #[.string ⟨t.name.toArray⟩, .int .i64 t.pol, .bool t.comp, .slice A t.ins.length c, .slice B t.rules.length d] 25) = W0 ∧ Below w.heap.size w W0 ∧
      W0.cell? ⟨w.heap.size, 0, none⟩ = some (.string ⟨t.name.toArray⟩) ∧ W0.cell? ⟨w.heap.size, 1, none⟩ = some (.int .i64 t.pol) ∧ W0.cell? ⟨w.heap.size, 2, none⟩ = some (.bool t.comp) ∧ W0.cell? ⟨w.heap.size, 3, none⟩ = some (.slice A t.ins.length c) ∧ W0.cell? ⟨w.heap.size, 4, none⟩ = some (.slice B t.rules.length d) ∧ w.heap.size < W0.heap.size ∧
      Hid (rTb.rel W0 S [.string ⟨t.name.toArray⟩, .int .i64 t.pol, .bool t.comp, .slice A t.ins.length c, .slice B t.rules.length d] t) ∧ Hid (rBx.rel W0 T [.slice C all.length g] all) :=
    ⟨_, rfl, (Below.refl _ _).alloc (Nat.le_refl _) _, World.cell?_alloc_new _ _ _ _, World.cell?_alloc_new _ _ _ _, World.cell?_alloc_new _ _ _ _, World.cell?_alloc_new _ _ _ _, World.cell?_alloc_new _ _ _ _, by simp, Lib.hid (Rd.alloc hl' _), Lib.hid (Rd.alloc hm _)⟩
  have HBW := Lib.hid hb0
  have HSZ := Lib.hid hs0
  clear hl' hi hr hm hb0 hs0 hnm hp
  cases hgt : goodT t
  · have qg := Lib.hid hgt
    have HF : Hid (gapB t all = []) := Lib.hid (by unfold gapB; rw [hgt]; rfl)
    clear hgt
    go_enter Try.func12, Try.ntmps12
    go_wp2_with (first | (go_at_call 7; go_must ((with_reducible refine (TGood_b _ HT.out qg.out).mono ?_); rintro e w1 ⟨rfl, hb1⟩; replace c0 := (hb1.cell (p := ⟨w.heap.size, 0, none⟩) HSZ.out).trans c0; replace c1 := (hb1.cell (p := ⟨w.heap.size, 1, none⟩) HSZ.out).trans c1; replace c2 := (hb1.cell (p := ⟨w.heap.size, 2, none⟩) HSZ.out).trans c2; replace c3 := (hb1.cell (p := ⟨w.heap.size, 3, none⟩) HSZ.out).trans c3; replace c4 := (hb1.cell (p := ⟨w.heap.size, 4, none⟩) HSZ.out).trans c4; (try replace HT := Lib.hid (Rd.below HT.out hb1)); (try replace HA := Lib.hid (Rd.below HA.out hb1)); (try replace HL := Lib.hid (Rd.below HL.out hb1)); (try replace HG := Lib.hid (Rd.below HG.out hb1)); (try replace HP := Lib.hid (Rd.below HP.out hb1)); replace HBW := Lib.hid (HBW.out.trans (hb1.mono HBW.out.size)); replace HSZ := Lib.hid (Nat.lt_of_lt_of_le HSZ.out hb1.size); clear hb1)))
    go_ret2
    exact ⟨_, fun _ => True, by rw [HF.out]; rfl, by rw [HF.out]; exact nil_rel _ _, HBW.out⟩
  have qg := Lib.hid hgt
  have hr6 := (goodT_head hgt).2.2.2.2.2
  cases hgb : goodBx all (t.ins.length : Int)
  · have qb := Lib.hid hgb
    have HF : Hid (gapB t all = []) := Lib.hid (by unfold gapB; rw [hgb, Bool.and_false]; rfl)
    clear hgt hgb
    go_enter Try.func12, Try.ntmps12
    go_wp2_with (first | (go_at_call 7; go_must ((with_reducible refine (TGood_b _ HT.out qg.out).mono ?_); rintro e w1 ⟨rfl, hb1⟩; replace c0 := (hb1.cell (p := ⟨w.heap.size, 0, none⟩) HSZ.out).trans c0; replace c1 := (hb1.cell (p := ⟨w.heap.size, 1, none⟩) HSZ.out).trans c1; replace c2 := (hb1.cell (p := ⟨w.heap.size, 2, none⟩) HSZ.out).trans c2; replace c3 := (hb1.cell (p := ⟨w.heap.size, 3, none⟩) HSZ.out).trans c3; replace c4 := (hb1.cell (p := ⟨w.heap.size, 4, none⟩) HSZ.out).trans c4; (try replace HT := Lib.hid (Rd.below HT.out hb1)); (try replace HA := Lib.hid (Rd.below HA.out hb1)); (try replace HL := Lib.hid (Rd.below HL.out hb1)); (try replace HG := Lib.hid (Rd.below HG.out hb1)); (try replace HP := Lib.hid (Rd.below HP.out hb1)); replace HBW := Lib.hid (HBW.out.trans (hb1.mono HBW.out.size)); replace HSZ := Lib.hid (Nat.lt_of_lt_of_le HSZ.out hb1.size); clear hb1)) | (go_at_call 8; go_must ((with_reducible refine (BGood_b _ HA.out qb.out).mono ?_); rintro e w1 ⟨rfl, hb1⟩; replace c0 := (hb1.cell (p := ⟨w.heap.size, 0, none⟩) HSZ.out).trans c0; replace c1 := (hb1.cell (p := ⟨w.heap.size, 1, none⟩) HSZ.out).trans c1; replace c2 := (hb1.cell (p := ⟨w.heap.size, 2, none⟩) HSZ.out).trans c2; replace c3 := (hb1.cell (p := ⟨w.heap.size, 3, none⟩) HSZ.out).trans c3; replace c4 := (hb1.cell (p := ⟨w.heap.size, 4, none⟩) HSZ.out).trans c4; (try replace HT := Lib.hid (Rd.below HT.out hb1)); (try replace HA := Lib.hid (Rd.below HA.out hb1)); (try replace HL := Lib.hid (Rd.below HL.out hb1)); (try replace HG := Lib.hid (Rd.below HG.out hb1)); (try replace HP := Lib.hid (Rd.below HP.out hb1)); replace HBW := Lib.hid (HBW.out.trans (hb1.mono HBW.out.size)); replace HSZ := Lib.hid (Nat.lt_of_lt_of_le HSZ.out hb1.size); clear hb1)))
    go_ret2
    exact ⟨_, fun _ => True, by rw [HF.out]; rfl, by rw [HF.out]; exact nil_rel _ _, HBW.out⟩
  have qb := Lib.hid hgb
  by_cases hp7 : t.pol = 7
  · have HF : Hid (gapB t all = []) := Lib.hid (by unfold gapB; rw [decide_eq_true hp7, Bool.not_true, Bool.and_false]; rfl)
    have hq7 : (t.pol == 7) = true := by rw [beq_iff_eq]; exact hp7
    clear hgt hgb hp7
    go_enter Try.func12, Try.ntmps12
    go_wp2_with (first | (go_at_call 7; go_must ((with_reducible refine (TGood_b _ HT.out qg.out).mono ?_); rintro e w1 ⟨rfl, hb1⟩; replace c0 := (hb1.cell (p := ⟨w.heap.size, 0, none⟩) HSZ.out).trans c0; replace c1 := (hb1.cell (p := ⟨w.heap.size, 1, none⟩) HSZ.out).trans c1; replace c2 := (hb1.cell (p := ⟨w.heap.size, 2, none⟩) HSZ.out).trans c2; replace c3 := (hb1.cell (p := ⟨w.heap.size, 3, none⟩) HSZ.out).trans c3; replace c4 := (hb1.cell (p := ⟨w.heap.size, 4, none⟩) HSZ.out).trans c4; (try replace HT := Lib.hid (Rd.below HT.out hb1)); (try replace HA := Lib.hid (Rd.below HA.out hb1)); (try replace HL := Lib.hid (Rd.below HL.out hb1)); (try replace HG := Lib.hid (Rd.below HG.out hb1)); (try replace HP := Lib.hid (Rd.below HP.out hb1)); replace HBW := Lib.hid (HBW.out.trans (hb1.mono HBW.out.size)); replace HSZ := Lib.hid (Nat.lt_of_lt_of_le HSZ.out hb1.size); clear hb1)) | (go_at_call 8; go_must ((with_reducible refine (BGood_b _ HA.out qb.out).mono ?_); rintro e w1 ⟨rfl, hb1⟩; replace c0 := (hb1.cell (p := ⟨w.heap.size, 0, none⟩) HSZ.out).trans c0; replace c1 := (hb1.cell (p := ⟨w.heap.size, 1, none⟩) HSZ.out).trans c1; replace c2 := (hb1.cell (p := ⟨w.heap.size, 2, none⟩) HSZ.out).trans c2; replace c3 := (hb1.cell (p := ⟨w.heap.size, 3, none⟩) HSZ.out).trans c3; replace c4 := (hb1.cell (p := ⟨w.heap.size, 4, none⟩) HSZ.out).trans c4; (try replace HT := Lib.hid (Rd.below HT.out hb1)); (try replace HA := Lib.hid (Rd.below HA.out hb1)); (try replace HL := Lib.hid (Rd.below HL.out hb1)); (try replace HG := Lib.hid (Rd.below HG.out hb1)); (try replace HP := Lib.hid (Rd.below HP.out hb1)); replace HBW := Lib.hid (HBW.out.trans (hb1.mono HBW.out.size)); replace HSZ := Lib.hid (Nat.lt_of_lt_of_le HSZ.out hb1.size); clear hb1)))
    go_ret2
    exact ⟨_, fun _ => True, by rw [HF.out]; rfl, by rw [HF.out]; exact nil_rel _ _, HBW.out⟩
  have hq7 : (t.pol == 7) = false := by rw [beq_eq_false_iff_ne]; exact hp7
  obtain ⟨L, hL⟩ : ∃ L, areasTo t.rules all = L := ⟨_, rfl⟩
  have hL6 : L.length ≤ 6 := by rw [← hL]; exact Nat.le_trans (areasTo_len all t.rules) hr6
  obtain ⟨G, hG⟩ : ∃ G, restB all L = G := ⟨_, rfl⟩
  have HF : Hid (gapB t all = G) := Lib.hid (by unfold gapB; rw [hgt, hgb, decide_eq_false hp7, hL, hG]; rfl)
  have qL := Lib.hid hL
  have qG := Lib.hid hG
  clear hgt hgb hp7 hL hG
  go_enter Try.func12, Try.ntmps12
  go_wp2_with (first | (go_at_call 7; go_must ((with_reducible refine (TGood_b _ HT.out qg.out).mono ?_); rintro e w1 ⟨rfl, hb1⟩; replace c0 := (hb1.cell (p := ⟨w.heap.size, 0, none⟩) HSZ.out).trans c0; replace c1 := (hb1.cell (p := ⟨w.heap.size, 1, none⟩) HSZ.out).trans c1; replace c2 := (hb1.cell (p := ⟨w.heap.size, 2, none⟩) HSZ.out).trans c2; replace c3 := (hb1.cell (p := ⟨w.heap.size, 3, none⟩) HSZ.out).trans c3; replace c4 := (hb1.cell (p := ⟨w.heap.size, 4, none⟩) HSZ.out).trans c4; (try replace HT := Lib.hid (Rd.below HT.out hb1)); (try replace HA := Lib.hid (Rd.below HA.out hb1)); (try replace HL := Lib.hid (Rd.below HL.out hb1)); (try replace HG := Lib.hid (Rd.below HG.out hb1)); (try replace HP := Lib.hid (Rd.below HP.out hb1)); replace HBW := Lib.hid (HBW.out.trans (hb1.mono HBW.out.size)); replace HSZ := Lib.hid (Nat.lt_of_lt_of_le HSZ.out hb1.size); clear hb1)) | (go_at_call 8; go_must ((with_reducible refine (BGood_b _ HA.out qb.out).mono ?_); rintro e w1 ⟨rfl, hb1⟩; replace c0 := (hb1.cell (p := ⟨w.heap.size, 0, none⟩) HSZ.out).trans c0; replace c1 := (hb1.cell (p := ⟨w.heap.size, 1, none⟩) HSZ.out).trans c1; replace c2 := (hb1.cell (p := ⟨w.heap.size, 2, none⟩) HSZ.out).trans c2; replace c3 := (hb1.cell (p := ⟨w.heap.size, 3, none⟩) HSZ.out).trans c3; replace c4 := (hb1.cell (p := ⟨w.heap.size, 4, none⟩) HSZ.out).trans c4; (try replace HT := Lib.hid (Rd.below HT.out hb1)); (try replace HA := Lib.hid (Rd.below HA.out hb1)); (try replace HL := Lib.hid (Rd.below HL.out hb1)); (try replace HG := Lib.hid (Rd.below HG.out hb1)); (try replace HP := Lib.hid (Rd.below HP.out hb1)); replace HBW := Lib.hid (HBW.out.trans (hb1.mono HBW.out.size)); replace HSZ := Lib.hid (Nat.lt_of_lt_of_le HSZ.out hb1.size); clear hb1)) | (go_at_call 30; go_must ((with_reducible refine (areas_at _ HT.out HA.out hr6 qL.out).mono ?_); rintro e w1 ⟨zp, SP, rfl, hzp, hb1⟩; obtain ⟨AAHL, llHL, rfl, _⟩ := rSl.elems hzp; have HL := Lib.hid hzp; clear hzp; replace c0 := (hb1.cell (p := ⟨w.heap.size, 0, none⟩) HSZ.out).trans c0; replace c1 := (hb1.cell (p := ⟨w.heap.size, 1, none⟩) HSZ.out).trans c1; replace c2 := (hb1.cell (p := ⟨w.heap.size, 2, none⟩) HSZ.out).trans c2; replace c3 := (hb1.cell (p := ⟨w.heap.size, 3, none⟩) HSZ.out).trans c3; replace c4 := (hb1.cell (p := ⟨w.heap.size, 4, none⟩) HSZ.out).trans c4; (try replace HT := Lib.hid (Rd.below HT.out hb1)); (try replace HA := Lib.hid (Rd.below HA.out hb1)); (try replace HG := Lib.hid (Rd.below HG.out hb1)); (try replace HP := Lib.hid (Rd.below HP.out hb1)); replace HBW := Lib.hid (HBW.out.trans (hb1.mono HBW.out.size)); replace HSZ := Lib.hid (Nat.lt_of_lt_of_le HSZ.out hb1.size); clear hb1)) | (go_at_call 29; go_must ((with_reducible refine (Rest_at _ HA.out HL.out hL6 qG.out).mono ?_); rintro e w1 ⟨zp, SP, rfl, hzp, hb1⟩; obtain ⟨AAHG, llHG, rfl, _⟩ := rSl.elems hzp; have HG := Lib.hid hzp; clear hzp; replace c0 := (hb1.cell (p := ⟨w.heap.size, 0, none⟩) HSZ.out).trans c0; replace c1 := (hb1.cell (p := ⟨w.heap.size, 1, none⟩) HSZ.out).trans c1; replace c2 := (hb1.cell (p := ⟨w.heap.size, 2, none⟩) HSZ.out).trans c2; replace c3 := (hb1.cell (p := ⟨w.heap.size, 3, none⟩) HSZ.out).trans c3; replace c4 := (hb1.cell (p := ⟨w.heap.size, 4, none⟩) HSZ.out).trans c4; (try replace HT := Lib.hid (Rd.below HT.out hb1)); (try replace HA := Lib.hid (Rd.below HA.out hb1)); (try replace HL := Lib.hid (Rd.below HL.out hb1)); (try replace HP := Lib.hid (Rd.below HP.out hb1)); replace HBW := Lib.hid (HBW.out.trans (hb1.mono HBW.out.size)); replace HSZ := Lib.hid (Nat.lt_of_lt_of_le HSZ.out hb1.size); clear hb1)) | (go_at_call 28; go_must ((with_reducible refine (least_any _ HG.out).mono ?_); rintro e w1 ⟨zp, SP, rfl, hzp, hb1⟩; obtain ⟨AAHP, llHP, rfl, _⟩ := rSl.elems hzp; have HP := Lib.hid hzp; clear hzp; replace c0 := (hb1.cell (p := ⟨w.heap.size, 0, none⟩) HSZ.out).trans c0; replace c1 := (hb1.cell (p := ⟨w.heap.size, 1, none⟩) HSZ.out).trans c1; replace c2 := (hb1.cell (p := ⟨w.heap.size, 2, none⟩) HSZ.out).trans c2; replace c3 := (hb1.cell (p := ⟨w.heap.size, 3, none⟩) HSZ.out).trans c3; replace c4 := (hb1.cell (p := ⟨w.heap.size, 4, none⟩) HSZ.out).trans c4; (try replace HT := Lib.hid (Rd.below HT.out hb1)); (try replace HA := Lib.hid (Rd.below HA.out hb1)); (try replace HL := Lib.hid (Rd.below HL.out hb1)); (try replace HG := Lib.hid (Rd.below HG.out hb1)); replace HBW := Lib.hid (HBW.out.trans (hb1.mono HBW.out.size)); replace HSZ := Lib.hid (Nat.lt_of_lt_of_le HSZ.out hb1.size); clear hb1)))
  go_ret2
  exact ⟨_, _, by rw [HF.out]; rfl, by rw [HF.out]; exact HP.out, HBW.out⟩

end Go.Proofs.Ytlopccnehgolnab
