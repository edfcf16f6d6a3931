/- The contracts of areas and Gap. The plain law of clashes: a table clashes on an input just if a box of inputs of which two rules say two things holds it. -/
import Derived.Test.YtlopccnehgolnabGreatDoorGrQ
import Derived.Test.YtlopccnehgolnabGreatDoorGrE
namespace Go.Proofs.YtlopccnehgolnabGreatDoor
open Go.RowKit Rb

def areasTo (rs : List Rl) (all : Bx) : List Bx := rs.flatMap fun r => if someBx (areaB r all) then [optBx (areaB r all)] else []
theorem areasTo_take {rs : List Rl} {all : Bx} {k : Nat} {r : Rl} (h : rs[k]? = some r) : areasTo (rs.take (k + 1)) all = areasTo (rs.take k) all ++ (if someBx (areaB r all) then [optBx (areaB r all)] else []) := by
  unfold areasTo
  rw [take_getElem? h, List.flatMap_append]
  simp
theorem areasTo_len (all : Bx) : ∀ rs : List Rl, (areasTo rs all).length ≤ rs.length
  | [] => by simp [areasTo]
  | r :: rs => by
    have := areasTo_len all rs
    have e : areasTo (r :: rs) all = (if someBx (areaB r all) then [optBx (areaB r all)] else []) ++ areasTo rs all := rfl
    rw [e, List.length_append, List.length_cons]
    split <;> simp <;> omega

set_option maxRecDepth 100000 in
set_option maxHeartbeats 800000 in
theorem areas_any {S T : Nat → Prop} {cs : List Value} {t : Tb} {u : Value} {all : Bx} (w : World) (hl : rTb.rel w S cs t) (hm : rBx.rel w T [u] all) (h6 : t.rules.length ≤ 6) :
    Calls Tryz.prog 55 #[.agg cs.toArray, u] w fun e w' => ∃ z S', e = .returned z ∧ (rSl rBx).rel w' S' [z] (areasTo t.rules all) ∧ Below w.heap.size w w' := by
  obtain ⟨vi, vr, rfl, hnm, hp, hi, hr⟩ := hl
  obtain ⟨A, c, rfl, hi1, hi2, hi3, hE⟩ := rSl.elems hi
  obtain ⟨B, d, rfl, hr1, hr2, hr3, hF⟩ := rSl.elems hr
  obtain ⟨C, g, rfl, _⟩ := rSl.elems hm
  have HALL := Lib.hid (show rBx.rel w (fun b => T b ∧ b < w.heap.size) _ _ from rBx.mono hm fun b h h' => ⟨h, h'⟩)
  obtain ⟨W0, e0, hb0, c4, hs0⟩ : ∃ W0, w.alloc (.cells #[.string ⟨t.name.toArray⟩, .int .i64 t.pol, .bool t.comp, .slice A t.ins.length c, .slice B t.rules.length d] 42) = W0 ∧ Below w.heap.size w W0 ∧
      W0.cell? ⟨w.heap.size, 4, none⟩ = some (.slice B t.rules.length d) ∧ w.heap.size < W0.heap.size :=
    ⟨_, rfl, (Below.refl _ _).alloc (Nat.le_refl _) _, World.cell?_alloc_new _ _ _ _, by simp⟩
  clear hi hr hE hi3 hr3 hm
  go_enter Tryz.func55, Tryz.ntmps55
  go_wp2
  clear e0 c4
  go_loopw [5, 13] (fun o i wr => ∃ (k : Nat) (out : List Bx), k ≤ t.rules.length ∧ i = .int .i64 k ∧ Own rBx 59 wr w.heap.size (fun b => T b ∧ b < w.heap.size) o out ∧ Hid (out = areasTo (t.rules.take k) all) ∧ Hid (out.length ≤ k) ∧ Below w.heap.size w wr) (fun _ i _ => t.rules.length - (intOf i).toNat)
  case atStart => exact ⟨0, [], Nat.zero_le _, rfl, Own.nil _ _ _ _ _, Lib.hid (by simp [areasTo]), Lib.hid (by simp), hb0⟩
  case round =>
    clear hb0
    obtain ⟨k, out, hk, rfl, hown, HO, HOL, hb⟩ := hrel
    by_cases hlt : k < t.rules.length
    · obtain ⟨bA, off, r, q, rfl, _, hbA, hx, hri, hq, g1, g2⟩ := hF.rl hlt
      rw [← hb.cell (p := ⟨bA, _, none⟩) hbA] at g1 g2
      have hik : (k : Int) < (t.rules.length : Int) := by omega
      have HT := Lib.hid (areasTo_take (all := all) hx)
      obtain ⟨A2, l2, rfl, _⟩ := rSl.elems hq
      have HQ := Lib.hid hq
      obtain ⟨W1, e1, hown1, hb1, d0, d1⟩ : ∃ W1, wr.alloc (.cells #[.slice A2 r.cells.length l2, .int .i64 r.out] 93) = W1 ∧ Own rBx 59 W1 w.heap.size (fun b => T b ∧ b < w.heap.size) u5 out ∧ Below w.heap.size w W1 ∧
          W1.cell? ⟨wr.heap.size, 0, none⟩ = some (.slice A2 r.cells.length l2) ∧ W1.cell? ⟨wr.heap.size, 1, none⟩ = some (.int .i64 r.out) :=
        ⟨_, rfl, hown.alloc _, hb.alloc hb.size _, World.cell?_alloc_new _ _ _ _, World.cell?_alloc_new _ _ _ _⟩
      clear hown hq hx
      have HQ1 := Lib.hid (Rd.below HQ.out hb1)
      have HALL1 := Lib.hid (Rd.below HALL.out hb1)
      have HLT := Lib.hid hown1.lt
      generalize har : areaB r all = ar at *
      have HAR := Lib.hid har
      clear har
      cases ar with
      | none =>
        have HT' : Hid (areasTo (t.rules.take (k + 1)) all = out) := Lib.hid (by rw [HT.out, HO.out]; simp [someBx])
        go_wp2_with (first | (go_at_call 61; go_must ((with_reducible refine (Area_none W1 HQ1.out HALL1.out HAR.out).mono ?_); rintro e w4 ⟨z9, rfl, hb4⟩)))
        go_roundw
        case rel => exact ⟨k + 1, out, by omega, by go_num, hown1.below hb4, Lib.hid HT'.out.symm, Lib.hid (by have := HOL.out; omega), hb1.trans (hb4.mono hb1.size)⟩
        case measure => simp [intOf]; omega
      | some a =>
        have HT' : Hid (areasTo (t.rules.take (k + 1)) all = out ++ [a]) := Lib.hid (by rw [HT.out, HO.out]; rfl)
        have HUP : Hid (∀ w4, Below W1.heap.size W1 w4 → ∀ b, Up (fun b => T b ∧ b < w.heap.size) W1.heap.size b → Up (fun b => T b ∧ b < w.heap.size) w.heap.size b ∧ u5.ownBlock ≠ some b) := Lib.hid (by
          rintro w4 h4 b (h | h)
          · exact ⟨.inl h, fun e => by have := HLT.out _ e; have := h.2; omega⟩
          · exact ⟨.inr (Nat.le_trans hb1.size h), fun e => by have := HLT.out _ e; omega⟩)
        have HBY : Hid ((out.length + 1) * rBx.bytes ≤ 140737488355328) := Lib.hid (by have := HOL.out; show (_ + _) * 24 ≤ _; omega)
        go_wp2_with (first | (go_at_call 61; go_must ((with_reducible refine (Area_some W1 HQ1.out HALL1.out HAR.out).mono ?_); rintro e w4 ⟨z9, rfl, how4, hb4⟩; obtain ⟨A9, l9, rfl⟩ := how4.value; have hbx := hb1.trans (hb4.mono hb1.size))) | (at_builtin; go_must (refine wpList_append_new (R := rBx) (x := a) el_Bxs rfl (.tmp 24) (.tmp 26) rfl rfl (hown1.below hb4) [.slice A9 a.length l9] rfl rfl (Up (fun b => T b ∧ b < w.heap.size) W1.heap.size) (how4.rel (by decide)) (fun b h _ => HUP.out w4 hb4 b h) HBY.out hbx.size ?_); intro v9 w9 hown9 hb9 _ _))
        go_roundw
        case rel => exact ⟨k + 1, out ++ [a], by omega, by go_num, hown9, Lib.hid HT'.out.symm, Lib.hid (by have := HOL.out; rw [List.length_append]; simp only [List.length_cons, List.length_nil]; omega), hbx.trans hb9⟩
        case measure => simp [intOf]; omega
    · have HQ : Hid (areasTo t.rules all = out) := Lib.hid (by rw [HO.out, List.take_of_length_le (by omega)])
      obtain ⟨A9, l9, rfl⟩ := hown.value
      go_wp2
      go_ret
      exact ⟨_, _, rfl, by rw [HQ.out]; exact hown.rel (by decide), hb⟩

theorem TGood_b {S : Nat → Prop} {cs : List Value} {t : Tb} {r : Bool} (w : World) (hl : rTb.rel w S cs t) (h : goodT t = r) :
    Calls Tryz.prog 51 #[.agg cs.toArray] w fun e w' => e = .returned (.bool r) ∧ Below w.heap.size w w' := h ▸ TGood_any w hl

def gapB (t : Tb) (all : Bx) : List Bx := if goodT t && goodBx all (t.ins.length : Int) && !decide (t.pol = 7) then restB all (areasTo t.rules all) else []

theorem areas_at {S T : Nat → Prop} {cs : List Value} {t : Tb} {u : Value} {all : Bx} {L : List Bx} (w : World) (hl : rTb.rel w S cs t) (hm : rBx.rel w T [u] all) (h6 : t.rules.length ≤ 6) (h : areasTo t.rules all = L) :
    Calls Tryz.prog 55 #[.agg cs.toArray, u] w fun e w' => ∃ z S', e = .returned z ∧ (rSl rBx).rel w' S' [z] L ∧ Below w.heap.size w w' := h ▸ areas_any w hl hm h6

set_option maxRecDepth 100000 in
set_option maxHeartbeats 800000 in
theorem Gap_any {S T : Nat → Prop} {cs : List Value} {t : Tb} {u : Value} {all : Bx} (w : World) (hl : rTb.rel w S cs t) (hm : rBx.rel w T [u] all) :
    Calls Tryz.prog 19 #[.agg cs.toArray, u] w fun e w' => ∃ z S', e = .returned (.tuple #[z, .bool (decide (0 < (gapB t all).length))]) ∧ (rSl rInt).rel w' S' [z] (leastB (gapB t all)) ∧ Below w.heap.size w w' := by
  have hl' := hl
  obtain ⟨vi, vr, rfl, hnm, hp, hi, hr⟩ := hl
  obtain ⟨A, c, rfl, _⟩ := rSl.elems hi
  obtain ⟨B, d, rfl, _⟩ := rSl.elems hr
  obtain ⟨C, g, rfl, _⟩ := rSl.elems hm
  obtain ⟨W0, e0, hb0, c0, c1, c2, c3, c4, hs0, HT, HA⟩ : ∃ W0, w.alloc (.cells #[.string ⟨t.name.toArray⟩, .int .i64 t.pol, .bool t.comp, .slice A t.ins.length c, .slice B t.rules.length d] 42) = W0 ∧ Below w.heap.size w W0 ∧
      W0.cell? ⟨w.heap.size, 0, none⟩ = some (.string ⟨t.name.toArray⟩) ∧ W0.cell? ⟨w.heap.size, 1, none⟩ = some (.int .i64 t.pol) ∧ W0.cell? ⟨w.heap.size, 2, none⟩ = some (.bool t.comp) ∧ W0.cell? ⟨w.heap.size, 3, none⟩ = some (.slice A t.ins.length c) ∧ W0.cell? ⟨w.heap.size, 4, none⟩ = some (.slice B t.rules.length d) ∧ w.heap.size < W0.heap.size ∧
      Hid (rTb.rel W0 S [.string ⟨t.name.toArray⟩, .int .i64 t.pol, .bool t.comp, .slice A t.ins.length c, .slice B t.rules.length d] t) ∧ Hid (rBx.rel W0 T [.slice C all.length g] all) :=
    ⟨_, rfl, (Below.refl _ _).alloc (Nat.le_refl _) _, World.cell?_alloc_new _ _ _ _, World.cell?_alloc_new _ _ _ _, World.cell?_alloc_new _ _ _ _, World.cell?_alloc_new _ _ _ _, World.cell?_alloc_new _ _ _ _, by simp, Lib.hid (Rd.alloc hl' _), Lib.hid (Rd.alloc hm _)⟩
  have HBW := Lib.hid hb0
  have HSZ := Lib.hid hs0
  clear hl' hi hr hm hb0 hs0 hnm hp
  cases hgt : goodT t
  · have qg := Lib.hid hgt
    have HF : Hid (gapB t all = []) := Lib.hid (by unfold gapB; rw [hgt]; rfl)
    clear hgt
    go_enter Tryz.func19, Tryz.ntmps19
    go_wp2_with (first | (go_at_call 51; go_must ((with_reducible refine (TGood_b _ HT.out qg.out).mono ?_); rintro e w1 ⟨rfl, hb1⟩; replace c0 := (hb1.cell (p := ⟨w.heap.size, 0, none⟩) HSZ.out).trans c0; replace c1 := (hb1.cell (p := ⟨w.heap.size, 1, none⟩) HSZ.out).trans c1; replace c2 := (hb1.cell (p := ⟨w.heap.size, 2, none⟩) HSZ.out).trans c2; replace c3 := (hb1.cell (p := ⟨w.heap.size, 3, none⟩) HSZ.out).trans c3; replace c4 := (hb1.cell (p := ⟨w.heap.size, 4, none⟩) HSZ.out).trans c4; (try replace HT := Lib.hid (Rd.below HT.out hb1)); (try replace HA := Lib.hid (Rd.below HA.out hb1)); (try replace HL := Lib.hid (Rd.below HL.out hb1)); (try replace HG := Lib.hid (Rd.below HG.out hb1)); (try replace HP := Lib.hid (Rd.below HP.out hb1)); replace HBW := Lib.hid (HBW.out.trans (hb1.mono HBW.out.size)); replace HSZ := Lib.hid (Nat.lt_of_lt_of_le HSZ.out hb1.size); clear hb1)))
    go_ret2
    exact ⟨_, fun _ => True, by rw [HF.out]; rfl, by rw [HF.out]; exact nil_rel _ _, HBW.out⟩
  have qg := Lib.hid hgt
  have hr6 := (goodT_head hgt).2.2.2.2.2
  cases hgb : goodBx all (t.ins.length : Int)
  · have qb := Lib.hid hgb
    have HF : Hid (gapB t all = []) := Lib.hid (by unfold gapB; rw [hgb, Bool.and_false]; rfl)
    clear hgt hgb
    go_enter Tryz.func19, Tryz.ntmps19
    go_wp2_with (first | (go_at_call 51; go_must ((with_reducible refine (TGood_b _ HT.out qg.out).mono ?_); rintro e w1 ⟨rfl, hb1⟩; replace c0 := (hb1.cell (p := ⟨w.heap.size, 0, none⟩) HSZ.out).trans c0; replace c1 := (hb1.cell (p := ⟨w.heap.size, 1, none⟩) HSZ.out).trans c1; replace c2 := (hb1.cell (p := ⟨w.heap.size, 2, none⟩) HSZ.out).trans c2; replace c3 := (hb1.cell (p := ⟨w.heap.size, 3, none⟩) HSZ.out).trans c3; replace c4 := (hb1.cell (p := ⟨w.heap.size, 4, none⟩) HSZ.out).trans c4; (try replace HT := Lib.hid (Rd.below HT.out hb1)); (try replace HA := Lib.hid (Rd.below HA.out hb1)); (try replace HL := Lib.hid (Rd.below HL.out hb1)); (try replace HG := Lib.hid (Rd.below HG.out hb1)); (try replace HP := Lib.hid (Rd.below HP.out hb1)); replace HBW := Lib.hid (HBW.out.trans (hb1.mono HBW.out.size)); replace HSZ := Lib.hid (Nat.lt_of_lt_of_le HSZ.out hb1.size); clear hb1)) | (go_at_call 52; go_must ((with_reducible refine (BGood_b _ HA.out qb.out).mono ?_); rintro e w1 ⟨rfl, hb1⟩; replace c0 := (hb1.cell (p := ⟨w.heap.size, 0, none⟩) HSZ.out).trans c0; replace c1 := (hb1.cell (p := ⟨w.heap.size, 1, none⟩) HSZ.out).trans c1; replace c2 := (hb1.cell (p := ⟨w.heap.size, 2, none⟩) HSZ.out).trans c2; replace c3 := (hb1.cell (p := ⟨w.heap.size, 3, none⟩) HSZ.out).trans c3; replace c4 := (hb1.cell (p := ⟨w.heap.size, 4, none⟩) HSZ.out).trans c4; (try replace HT := Lib.hid (Rd.below HT.out hb1)); (try replace HA := Lib.hid (Rd.below HA.out hb1)); (try replace HL := Lib.hid (Rd.below HL.out hb1)); (try replace HG := Lib.hid (Rd.below HG.out hb1)); (try replace HP := Lib.hid (Rd.below HP.out hb1)); replace HBW := Lib.hid (HBW.out.trans (hb1.mono HBW.out.size)); replace HSZ := Lib.hid (Nat.lt_of_lt_of_le HSZ.out hb1.size); clear hb1)))
    go_ret2
    exact ⟨_, fun _ => True, by rw [HF.out]; rfl, by rw [HF.out]; exact nil_rel _ _, HBW.out⟩
  have qb := Lib.hid hgb
  by_cases hp7 : t.pol = 7
  · have HF : Hid (gapB t all = []) := Lib.hid (by unfold gapB; rw [decide_eq_true hp7, Bool.not_true, Bool.and_false]; rfl)
    have hq7 : (t.pol == 7) = true := by rw [beq_iff_eq]; exact hp7
    clear hgt hgb hp7
    go_enter Tryz.func19, Tryz.ntmps19
    go_wp2_with (first | (go_at_call 51; go_must ((with_reducible refine (TGood_b _ HT.out qg.out).mono ?_); rintro e w1 ⟨rfl, hb1⟩; replace c0 := (hb1.cell (p := ⟨w.heap.size, 0, none⟩) HSZ.out).trans c0; replace c1 := (hb1.cell (p := ⟨w.heap.size, 1, none⟩) HSZ.out).trans c1; replace c2 := (hb1.cell (p := ⟨w.heap.size, 2, none⟩) HSZ.out).trans c2; replace c3 := (hb1.cell (p := ⟨w.heap.size, 3, none⟩) HSZ.out).trans c3; replace c4 := (hb1.cell (p := ⟨w.heap.size, 4, none⟩) HSZ.out).trans c4; (try replace HT := Lib.hid (Rd.below HT.out hb1)); (try replace HA := Lib.hid (Rd.below HA.out hb1)); (try replace HL := Lib.hid (Rd.below HL.out hb1)); (try replace HG := Lib.hid (Rd.below HG.out hb1)); (try replace HP := Lib.hid (Rd.below HP.out hb1)); replace HBW := Lib.hid (HBW.out.trans (hb1.mono HBW.out.size)); replace HSZ := Lib.hid (Nat.lt_of_lt_of_le HSZ.out hb1.size); clear hb1)) | (go_at_call 52; go_must ((with_reducible refine (BGood_b _ HA.out qb.out).mono ?_); rintro e w1 ⟨rfl, hb1⟩; replace c0 := (hb1.cell (p := ⟨w.heap.size, 0, none⟩) HSZ.out).trans c0; replace c1 := (hb1.cell (p := ⟨w.heap.size, 1, none⟩) HSZ.out).trans c1; replace c2 := (hb1.cell (p := ⟨w.heap.size, 2, none⟩) HSZ.out).trans c2; replace c3 := (hb1.cell (p := ⟨w.heap.size, 3, none⟩) HSZ.out).trans c3; replace c4 := (hb1.cell (p := ⟨w.heap.size, 4, none⟩) HSZ.out).trans c4; (try replace HT := Lib.hid (Rd.below HT.out hb1)); (try replace HA := Lib.hid (Rd.below HA.out hb1)); (try replace HL := Lib.hid (Rd.below HL.out hb1)); (try replace HG := Lib.hid (Rd.below HG.out hb1)); (try replace HP := Lib.hid (Rd.below HP.out hb1)); replace HBW := Lib.hid (HBW.out.trans (hb1.mono HBW.out.size)); replace HSZ := Lib.hid (Nat.lt_of_lt_of_le HSZ.out hb1.size); clear hb1)))
    go_ret2
    exact ⟨_, fun _ => True, by rw [HF.out]; rfl, by rw [HF.out]; exact nil_rel _ _, HBW.out⟩
  have hq7 : (t.pol == 7) = false := by rw [beq_eq_false_iff_ne]; exact hp7
  obtain ⟨L, hL⟩ : ∃ L, areasTo t.rules all = L := ⟨_, rfl⟩
  have hL6 : L.length ≤ 6 := by rw [← hL]; exact Nat.le_trans (areasTo_len all t.rules) hr6
  obtain ⟨G, hG⟩ : ∃ G, restB all L = G := ⟨_, rfl⟩
  have HF : Hid (gapB t all = G) := Lib.hid (by unfold gapB; rw [hgt, hgb, decide_eq_false hp7, hL, hG]; rfl)
  have qL := Lib.hid hL
  have qG := Lib.hid hG
  clear hgt hgb hp7 hL hG
  go_enter Tryz.func19, Tryz.ntmps19
  go_wp2_with (first | (go_at_call 51; go_must ((with_reducible refine (TGood_b _ HT.out qg.out).mono ?_); rintro e w1 ⟨rfl, hb1⟩; replace c0 := (hb1.cell (p := ⟨w.heap.size, 0, none⟩) HSZ.out).trans c0; replace c1 := (hb1.cell (p := ⟨w.heap.size, 1, none⟩) HSZ.out).trans c1; replace c2 := (hb1.cell (p := ⟨w.heap.size, 2, none⟩) HSZ.out).trans c2; replace c3 := (hb1.cell (p := ⟨w.heap.size, 3, none⟩) HSZ.out).trans c3; replace c4 := (hb1.cell (p := ⟨w.heap.size, 4, none⟩) HSZ.out).trans c4; (try replace HT := Lib.hid (Rd.below HT.out hb1)); (try replace HA := Lib.hid (Rd.below HA.out hb1)); (try replace HL := Lib.hid (Rd.below HL.out hb1)); (try replace HG := Lib.hid (Rd.below HG.out hb1)); (try replace HP := Lib.hid (Rd.below HP.out hb1)); replace HBW := Lib.hid (HBW.out.trans (hb1.mono HBW.out.size)); replace HSZ := Lib.hid (Nat.lt_of_lt_of_le HSZ.out hb1.size); clear hb1)) | (go_at_call 52; go_must ((with_reducible refine (BGood_b _ HA.out qb.out).mono ?_); rintro e w1 ⟨rfl, hb1⟩; replace c0 := (hb1.cell (p := ⟨w.heap.size, 0, none⟩) HSZ.out).trans c0; replace c1 := (hb1.cell (p := ⟨w.heap.size, 1, none⟩) HSZ.out).trans c1; replace c2 := (hb1.cell (p := ⟨w.heap.size, 2, none⟩) HSZ.out).trans c2; replace c3 := (hb1.cell (p := ⟨w.heap.size, 3, none⟩) HSZ.out).trans c3; replace c4 := (hb1.cell (p := ⟨w.heap.size, 4, none⟩) HSZ.out).trans c4; (try replace HT := Lib.hid (Rd.below HT.out hb1)); (try replace HA := Lib.hid (Rd.below HA.out hb1)); (try replace HL := Lib.hid (Rd.below HL.out hb1)); (try replace HG := Lib.hid (Rd.below HG.out hb1)); (try replace HP := Lib.hid (Rd.below HP.out hb1)); replace HBW := Lib.hid (HBW.out.trans (hb1.mono HBW.out.size)); replace HSZ := Lib.hid (Nat.lt_of_lt_of_le HSZ.out hb1.size); clear hb1)) | (go_at_call 55; go_must ((with_reducible refine (areas_at _ HT.out HA.out hr6 qL.out).mono ?_); rintro e w1 ⟨zp, SP, rfl, hzp, hb1⟩; obtain ⟨AAHL, llHL, rfl, _⟩ := rSl.elems hzp; have HL := Lib.hid hzp; clear hzp; replace c0 := (hb1.cell (p := ⟨w.heap.size, 0, none⟩) HSZ.out).trans c0; replace c1 := (hb1.cell (p := ⟨w.heap.size, 1, none⟩) HSZ.out).trans c1; replace c2 := (hb1.cell (p := ⟨w.heap.size, 2, none⟩) HSZ.out).trans c2; replace c3 := (hb1.cell (p := ⟨w.heap.size, 3, none⟩) HSZ.out).trans c3; replace c4 := (hb1.cell (p := ⟨w.heap.size, 4, none⟩) HSZ.out).trans c4; (try replace HT := Lib.hid (Rd.below HT.out hb1)); (try replace HA := Lib.hid (Rd.below HA.out hb1)); (try replace HG := Lib.hid (Rd.below HG.out hb1)); (try replace HP := Lib.hid (Rd.below HP.out hb1)); replace HBW := Lib.hid (HBW.out.trans (hb1.mono HBW.out.size)); replace HSZ := Lib.hid (Nat.lt_of_lt_of_le HSZ.out hb1.size); clear hb1)) | (go_at_call 54; go_must ((with_reducible refine (Rest_at _ HA.out HL.out hL6 qG.out).mono ?_); rintro e w1 ⟨zp, SP, rfl, hzp, hb1⟩; obtain ⟨AAHG, llHG, rfl, _⟩ := rSl.elems hzp; have HG := Lib.hid hzp; clear hzp; replace c0 := (hb1.cell (p := ⟨w.heap.size, 0, none⟩) HSZ.out).trans c0; replace c1 := (hb1.cell (p := ⟨w.heap.size, 1, none⟩) HSZ.out).trans c1; replace c2 := (hb1.cell (p := ⟨w.heap.size, 2, none⟩) HSZ.out).trans c2; replace c3 := (hb1.cell (p := ⟨w.heap.size, 3, none⟩) HSZ.out).trans c3; replace c4 := (hb1.cell (p := ⟨w.heap.size, 4, none⟩) HSZ.out).trans c4; (try replace HT := Lib.hid (Rd.below HT.out hb1)); (try replace HA := Lib.hid (Rd.below HA.out hb1)); (try replace HL := Lib.hid (Rd.below HL.out hb1)); (try replace HP := Lib.hid (Rd.below HP.out hb1)); replace HBW := Lib.hid (HBW.out.trans (hb1.mono HBW.out.size)); replace HSZ := Lib.hid (Nat.lt_of_lt_of_le HSZ.out hb1.size); clear hb1)) | (go_at_call 53; go_must ((with_reducible refine (least_any _ HG.out).mono ?_); rintro e w1 ⟨zp, SP, rfl, hzp, hb1⟩; obtain ⟨AAHP, llHP, rfl, _⟩ := rSl.elems hzp; have HP := Lib.hid hzp; clear hzp; replace c0 := (hb1.cell (p := ⟨w.heap.size, 0, none⟩) HSZ.out).trans c0; replace c1 := (hb1.cell (p := ⟨w.heap.size, 1, none⟩) HSZ.out).trans c1; replace c2 := (hb1.cell (p := ⟨w.heap.size, 2, none⟩) HSZ.out).trans c2; replace c3 := (hb1.cell (p := ⟨w.heap.size, 3, none⟩) HSZ.out).trans c3; replace c4 := (hb1.cell (p := ⟨w.heap.size, 4, none⟩) HSZ.out).trans c4; (try replace HT := Lib.hid (Rd.below HT.out hb1)); (try replace HA := Lib.hid (Rd.below HA.out hb1)); (try replace HL := Lib.hid (Rd.below HL.out hb1)); (try replace HG := Lib.hid (Rd.below HG.out hb1)); replace HBW := Lib.hid (HBW.out.trans (hb1.mono HBW.out.size)); replace HSZ := Lib.hid (Nat.lt_of_lt_of_le HSZ.out hb1.size); clear hb1)))
  go_ret2
  exact ⟨_, _, by rw [HF.out]; rfl, by rw [HF.out]; exact HP.out, HBW.out⟩

end Go.Proofs.YtlopccnehgolnabGreatDoor

namespace Go.Proofs.YtlopccnehgolnabGreatDoor
open Go.RowKit Rb

theorem cellArea_has {c : Cl} {s : List Rg} (hs : GoodS s) (n : Int) : hasL (cellArea c s) n = (hasL s n && cellHolds c n) := by
  have hn := hs.isNum n
  obtain ⟨no, rs⟩ := c
  unfold cellArea cellHolds
  have h1 := (normS_good rs).2 n
  cases no
  · by_cases h0 : rs.length = 0
    · simp [h0]
    · simp only [Bool.false_eq_true, if_false]
      rw [if_pos (by omega), bothS_has hs, h1, decide_eq_false h0]
      cases hh : hasL s n
      · rfl
      · rw [hh, Bool.and_true] at hn; rw [hn]; simp
  · simp only [if_true]
    rw [lessS_has hs, h1]
    cases hh : hasL s n
    · rfl
    · rw [hh, Bool.and_true] at hn; rw [hn]; simp
theorem cellArea_good {c : Cl} {s : List Rg} (hs : GoodS s) : GoodS (cellArea c s) := by
  unfold cellArea
  split
  · exact (lessS_good _ _).1
  · split
    · exact (bothS_good _ _).1
    · exact hs
theorem len0_has {s : List Rg} (h : s.length = 0) (n : Int) : hasL s n = false := by rw [List.eq_nil_of_length_eq_zero h]; rfl

theorem areaGo_in : ∀ {cs : List Cl} {all : Bx}, Sets all → cs.length = all.length → (∀ ns, inBx (optBx (areaGo cs all)) ns = (inBx all ns && cellsHold cs ns) ∨ areaGo cs all = none) ∧
    (areaGo cs all = none → ∀ ns, (inBx all ns && cellsHold cs ns) = false) ∧ ∀ a, areaGo cs all = some a → Sets a ∧ a.length = all.length
  | [], [], _, _ => by
    refine ⟨fun ns => .inl ?_, fun h => (by simp [areaGo] at h), fun a h => ?_⟩
    · cases ns <;> rfl
    · simp only [areaGo, Option.some.injEq] at h; subst h; exact ⟨fun _ h => by simp at h, rfl⟩
  | [], _ :: _, _, h => by simp at h
  | _ :: _, [], _, h => by simp at h
  | c :: cs, s :: all, hg, hl => by
    have hs := (hg s (by simp)).2
    obtain ⟨h1, h2, h3⟩ := areaGo_in (cs := cs) (all := all) (fun x hx => hg x (by simp [hx])) (by simpa using hl)
    have hc := fun n => cellArea_has (c := c) hs n
    by_cases h0 : (cellArea c s).length = 0
    · have e : areaGo (c :: cs) (s :: all) = none := by rw [areaGo, if_pos h0]
      refine ⟨fun _ => .inr e, fun _ ns => ?_, fun a h => (by rw [e] at h; cases h)⟩
      cases ns with
      | nil => rfl
      | cons n ns =>
        have := hc n
        rw [len0_has h0] at this
        simp only [inBx, cellsHold]
        cases hh : hasL s n
        · rfl
        · rw [hh] at this; simp only [Bool.true_and] at this; rw [← this]; simp
    · have e : areaGo (c :: cs) (s :: all) = (areaGo cs all).map (cellArea c s :: ·) := by rw [areaGo, if_neg h0]
      rw [e]
      cases ha : areaGo cs all with
      | none =>
        refine ⟨fun _ => .inr rfl, fun _ ns => ?_, fun a h => by cases h⟩
        cases ns with
        | nil => rfl
        | cons n ns =>
          have := h2 ha ns
          simp only [inBx, cellsHold]
          cases hx : inBx all ns
          · simp
          · rw [hx, Bool.true_and] at this; rw [this]; simp
      | some a =>
        refine ⟨fun ns => .inl ?_, fun h => (by cases h), fun a' h => ?_⟩
        · cases ns with
          | nil => rfl
          | cons n ns =>
            have := h1 ns
            rw [ha] at this
            rcases this with this | this
            · show (hasL (cellArea c s) n && inBx a ns) = _
              rw [show inBx a ns = _ from this, hc n]
              simp only [inBx, cellsHold]
              cases hasL s n <;> cases cellHolds c n <;> cases inBx all ns <;> cases cellsHold cs ns <;> rfl
            · cases this
        · simp only [Option.map_some, Option.some.injEq] at h
          subst h
          obtain ⟨g1, g2⟩ := h3 a ha
          exact ⟨fun x hx => by rcases List.mem_cons.1 hx with rfl | hx; exact ⟨by omega, cellArea_good hs⟩; exact g1 x hx, by simp [g2]⟩

/-- The inputs of an area: those of the domains that the rule holds of. -/
theorem areaB_some {r : Rl} {all a : Bx} (h : areaB r all = some a) : (∀ ns, inBx a ns = (inBx all ns && ruleHolds r ns)) ∧ Sets a ∧ a.length = all.length := by
  unfold areaB at h
  split at h
  case isFalse => cases h
  case isTrue hc =>
    simp only [Bool.and_eq_true, decide_eq_true_iff] at hc
    obtain ⟨h1, _, h3⟩ := areaGo_in (goodBx_iff.1 hc.2).1 hc.1
    refine ⟨fun ns => ?_, h3 a h⟩
    have := h1 ns
    rw [h] at this
    rcases this with this | this
    · exact this
    · cases this
theorem areaB_none {r : Rl} {all : Bx} (h : areaB r all = none) (hl : r.cells.length = all.length) (hg : goodBx all (all.length : Int) = true) (ns : List Int) : (inBx all ns && ruleHolds r ns) = false := by
  unfold areaB at h
  rw [decide_eq_true hl, hg] at h
  exact (areaGo_in (goodBx_iff.1 hg).1 hl).2.1 (by simpa using h) ns

theorem zipBoth_in : ∀ {a b : Bx}, Sets a → a.length = b.length → (∀ x, zipBoth a b = some x → ∀ ns, inBx x ns = (inBx a ns && inBx b ns)) ∧ (zipBoth a b = none → ∀ ns, (inBx a ns && inBx b ns) = false)
  | [], [], _, _ => by
    refine ⟨fun x h ns => ?_, fun h => by simp [zipBoth] at h⟩
    simp only [zipBoth, Option.some.injEq] at h
    subst h
    cases ns <;> rfl
  | [], _ :: _, _, h => by simp at h
  | _ :: _, [], _, h => by simp at h
  | s :: a, t :: b, hg, hl => by
    have hs := (hg s (by simp)).2
    obtain ⟨h1, h2⟩ := zipBoth_in (a := a) (b := b) (fun x hx => hg x (by simp [hx])) (by simpa using hl)
    have hc := fun n => bothS_has (b := t) hs n
    by_cases h0 : (bothS s t).length = 0
    · have e : zipBoth (s :: a) (t :: b) = none := by rw [zipBoth, if_pos h0]
      refine ⟨fun x h => (by rw [e] at h; cases h), fun _ ns => ?_⟩
      cases ns with
      | nil => rfl
      | cons n ns =>
        have := hc n
        rw [len0_has h0] at this
        simp only [inBx]
        cases hh : hasL s n
        · rfl
        · rw [hh] at this; simp only [Bool.true_and] at this; rw [← this]; simp
    · have e : zipBoth (s :: a) (t :: b) = (zipBoth a b).map (bothS s t :: ·) := by rw [zipBoth, if_neg h0]
      rw [e]
      cases ha : zipBoth a b with
      | none =>
        refine ⟨fun x h => (by cases h), fun _ ns => ?_⟩
        cases ns with
        | nil => rfl
        | cons n ns =>
          have := h2 ha ns
          simp only [inBx]
          cases hx : inBx a ns
          · simp
          · rw [hx, Bool.true_and] at this; rw [this]; simp
      | some y =>
        refine ⟨fun x h ns => ?_, fun h => by cases h⟩
        simp only [Option.map_some, Option.some.injEq] at h
        subst h
        cases ns with
        | nil => rfl
        | cons n ns =>
          simp only [inBx]
          rw [h1 y ha ns, hc n]
          cases hasL s n <;> cases hasL t n <;> cases inBx a ns <;> cases inBx b ns <;> rfl

theorem bothBx_in {a b x : Bx} (ha : Sets a) (hl : a.length = b.length) (h : bothBx a b = some x) (ns : List Int) : inBx x ns = (inBx a ns && inBx b ns) := by
  unfold bothBx at h
  split at h
  · exact (zipBoth_in ha hl).1 x h ns
  · cases h
theorem bothBx_none {a b : Bx} (ha : Sets a) (hb : Sets b) (hl : a.length = b.length) (h3 : a.length ≤ 3) (h : bothBx a b = none) (ns : List Int) : (inBx a ns && inBx b ns) = false := by
  unfold bothBx at h
  rw [goodBx_of ha rfl h3, goodBx_of hb hl.symm h3] at h
  exact (zipBoth_in ha hl).2 h ns
theorem bothBx_sets {a b x : Bx} (h : bothBx a b = some x) : Sets x := by
  unfold bothBx at h
  split at h
  · exact ((zipBoth_size a b).2 x h).1
  · cases h

/-- Two rules may both hold: they say one thing. -/
def Agree (pol : Int) (r s : Rl) : Prop := pol = 2 ∧ r.out = s.out

theorem sayLoop_low (pol : Int) (hp : pol = 1 ∨ pol = 2) : ∀ (l : List Int) (n : Int), ((sayLoop pol n l).2.2 = 0 ∧ ∀ o ∈ l, pol = 2 ∧ n = o) ∨ ((sayLoop pol n l).2.2 = 4 ∧ ∃ o ∈ l, ¬ (pol = 2 ∧ n = o))
  | [], n => .inl ⟨rfl, fun o h => by simp at h⟩
  | o :: l, n => by
    rcases hp with rfl | rfl
    · exact .inr ⟨rfl, o, by simp, by omega⟩
    · have ih := sayLoop_low 2 (.inr rfl) l n
      by_cases ho : o = n
      · subst ho
        have e : sayLoop 2 o (o :: l) = sayLoop 2 o l := by simp [sayLoop]
        rw [e]
        rcases ih with ⟨h1, h2⟩ | ⟨h1, x, h2, h3⟩
        · exact .inl ⟨h1, fun x hx => by rcases List.mem_cons.1 hx with rfl | hx; exact ⟨rfl, rfl⟩; exact h2 x hx⟩
        · exact .inr ⟨h1, x, by simp [h2], h3⟩
      · have e : sayLoop 2 n (o :: l) = (0, false, 4) := by simp [sayLoop, ho]
        rw [e]
        exact .inr ⟨rfl, o, by simp, fun h => ho h.2.symm⟩
theorem sayLoop_high (pol : Int) (hp : pol ≠ 1 ∧ pol ≠ 2) : ∀ (l : List Int) (n : Int), (sayLoop pol n l).2.2 = 0
  | [], n => rfl
  | o :: l, n => by
    have ih := sayLoop_high pol hp l
    simp only [sayLoop]
    rw [if_neg hp.1, if_neg hp.2]
    split
    · exact ih _
    · split
      · exact ih _
      · split
        · exact ih _
        · exact ih _

/-- What is said of an input: one thing, just if all rules that hold agree. -/
theorem sayO_low {pol : Int} (hp : pol = 1 ∨ pol = 2) (l : List Int) : ((sayO pol l).2.2 = 0 ∧ l.Pairwise fun x y => pol = 2 ∧ x = y) ∨ ((sayO pol l).2.2 = 4 ∧ ¬ l.Pairwise fun x y => pol = 2 ∧ x = y) := by
  cases l with
  | nil => exact .inl ⟨rfl, List.Pairwise.nil⟩
  | cons n l =>
    rcases sayLoop_low pol hp l n with ⟨h1, h2⟩ | ⟨h1, x, h2, h3⟩
    · refine .inl ⟨h1, List.pairwise_cons.2 ⟨h2, ?_⟩⟩
      clear h1
      induction l with
      | nil => exact List.Pairwise.nil
      | cons y l ih =>
        refine List.pairwise_cons.2 ⟨fun z hz => ?_, ih fun o ho => h2 o (by simp [ho])⟩
        have hy := h2 y (by simp)
        have hz' := h2 z (by simp [hz])
        exact ⟨hy.1, by rw [← hy.2, hz'.2]⟩
    · exact .inr ⟨h1, fun hP => h3 ((List.pairwise_cons.1 hP).1 x h2)⟩

theorem outs_pair (pol : Int) (rs : List Rl) (ns : List Int) : ((outsL rs ns).Pairwise fun x y => pol = 2 ∧ x = y) ↔ rs.Pairwise fun r s => ruleHolds r ns = true → ruleHolds s ns = true → Agree pol r s := by
  unfold outsL
  rw [List.pairwise_map, List.pairwise_filter]
  rfl

/-- The error that a good table gives. -/
theorem says_err {t : Tb} {ns : List Int} (hg : goodT t = true) (hl : ns.length = t.ins.length) :
    (2 < t.pol → (saysT t ns).2.2 = 0) ∧ (t.pol ≤ 2 → ((saysT t ns).2.2 = 0 ∧ t.rules.Pairwise fun r s => ruleHolds r ns = true → ruleHolds s ns = true → Agree t.pol r s) ∨
      ((saysT t ns).2.2 = 4 ∧ ¬ t.rules.Pairwise fun r s => ruleHolds r ns = true → ruleHolds s ns = true → Agree t.pol r s)) := by
  have hb := goodT_head hg
  have e : saysT t ns = if t.pol = 7 then (((outsL t.rules ns).length : Int), true, 0) else sayO t.pol (outsL t.rules ns) := by
    unfold saysT; rw [if_pos ⟨hg, hl⟩, sayL_eq]
  constructor
  · intro h2
    rw [e]
    split
    · rfl
    · cases outsL t.rules ns with
      | nil => rfl
      | cons o l => exact sayLoop_high t.pol (by omega) l o
  · intro h2
    rw [e, if_neg (by omega)]
    have := sayO_low (pol := t.pol) (by omega) (outsL t.rules ns)
    rw [outs_pair] at this
    exact this

theorem goodT_cells {t : Tb} (h : goodT t = true) {r : Rl} (hr : r ∈ t.rules) : r.cells.length = t.ins.length := by
  unfold goodT at h
  simp only [Bool.and_eq_true, List.all_eq_true] at h
  have h1 := h.2 r hr
  unfold goodRule at h1
  simp only [Bool.and_eq_true, decide_eq_true_iff] at h1
  exact h1.1.2

theorem clashOf_eq {pol : Int} {all : Bx} {r s : Rl} {x : Bx} (h : x ∈ clashOf pol all r s) : ∃ a b, areaB r all = some a ∧ areaB s all = some b ∧ ¬ Agree pol r s ∧ bothBx a b = some x := by
  unfold clashOf at h
  split at h
  case isFalse => simp at h
  case isTrue hc =>
    simp only [Bool.and_eq_true] at hc
    obtain ⟨⟨⟨h1, h2⟩, h3⟩, h4⟩ := hc
    cases ha : areaB r all with
    | none => rw [ha] at h1; cases h1
    | some a =>
      cases hb : areaB s all with
      | none => rw [hb] at h2; cases h2
      | some b =>
        rw [ha, hb] at h4 h
        cases hx : bothBx a b with
        | none => have : bothBx (optBx (some a)) (optBx (some b)) = none := hx; rw [this] at h4; cases h4
        | some y =>
          have e : bothBx (optBx (some a)) (optBx (some b)) = some y := hx
          rw [e] at h
          have : x = y := by simpa [optBx] using h
          subst this
          refine ⟨a, b, rfl, rfl, fun hA => ?_, hx⟩
          unfold Agree at hA
          simp [hA.1, hA.2] at h3

theorem mem_clashTo {t : Tb} {all x : Bx} {k : Nat} : x ∈ clashTo t all k ↔ ∃ i j r s, j < i ∧ i < k ∧ t.rules[i]? = some r ∧ t.rules[j]? = some s ∧ x ∈ clashOf t.pol all r s := by
  unfold clashTo clashRow
  rw [List.mem_flatMap]
  constructor
  · rintro ⟨i, hi, hx⟩
    rw [List.mem_range] at hi
    cases hr : t.rules[i]? with
    | none => rw [hr] at hx; simp at hx
    | some r =>
      rw [hr] at hx
      simp only [List.mem_flatMap] at hx
      obtain ⟨s, hs, hx⟩ := hx
      obtain ⟨j, hj, rfl⟩ := List.getElem_of_mem hs
      have hj' : j < i ∧ j < t.rules.length := by rw [List.length_take] at hj; omega
      exact ⟨i, j, r, t.rules[j], hj'.1, hi, hr, List.getElem?_eq_getElem hj'.2, by simpa using hx⟩
  · rintro ⟨i, j, r, s, hji, hik, hr, hs, hx⟩
    refine ⟨i, List.mem_range.2 hik, ?_⟩
    rw [hr]
    simp only [List.mem_flatMap]
    refine ⟨s, ?_, hx⟩
    have hj := (List.getElem?_eq_some_iff.1 hs).1
    rw [List.mem_iff_getElem?]
    exact ⟨j, by rw [List.getElem?_take, if_pos hji]; exact hs⟩

section
variable {t : Tb} {all : Bx} (hg : goodT t = true) (hb : goodBx all (t.ins.length : Int) = true)
include hg hb

theorem clash_box {x : Bx} (h : x ∈ clashB t all) (ns : List Int) (hx : inBx x ns = true) : inBx all ns = true ∧ (saysT t ns).2.2 = 4 := by
  unfold clashB at h
  split at h
  case isFalse => simp at h
  case isTrue hc =>
    simp only [Bool.and_eq_true, decide_eq_true_iff] at hc
    obtain ⟨i, j, r, s, hji, _, hr, hs, hxc⟩ := mem_clashTo.1 h
    obtain ⟨a, b, ha, hb', hA, hxb⟩ := clashOf_eq hxc
    obtain ⟨a1, a2, a3⟩ := areaB_some ha
    obtain ⟨b1, b2, b3⟩ := areaB_some hb'
    have hin := bothBx_in a2 (by omega) hxb ns
    rw [hx, a1, b1] at hin
    have h5 := hin.symm
    simp only [Bool.and_eq_true] at h5
    have hlen := inBx_len h5.1.1
    have h6 : (all.length : Int) = t.ins.length := (goodBx_iff.1 hb).2.1
    refine ⟨h5.1.1, ?_⟩
    rcases (says_err hg (ns := ns) (by omega)).2 hc.2 with ⟨_, hP⟩ | ⟨h4, _⟩
    · exfalso
      have hi := (List.getElem?_eq_some_iff.1 hr)
      have hj := (List.getElem?_eq_some_iff.1 hs)
      have := List.pairwise_iff_getElem.1 hP j i hj.1 hi.1 hji
      rw [hi.2, hj.2] at this
      have hag := this h5.2.2 h5.1.2
      exact hA ⟨hag.1, hag.2.symm⟩
    · exact h4

omit hg hb in
theorem clash_sets {x : Bx} (h : x ∈ clashB t all) : Sets x := by
  unfold clashB at h
  split at h
  case isFalse => simp at h
  case isTrue hc =>
    obtain ⟨i, j, r, s, _, _, _, _, hxc⟩ := mem_clashTo.1 h
    obtain ⟨a, b, _, _, _, hxb⟩ := clashOf_eq hxc
    exact bothBx_sets hxb

/-- An input of which two things are said lies in a box of a clash. -/
theorem clash_all (ns : List Int) (hin : inBx all ns = true) (h4 : (saysT t ns).2.2 ≠ 0) : ∃ x ∈ clashB t all, inBx x ns = true := by
  have h6 : (all.length : Int) = t.ins.length := (goodBx_iff.1 hb).2.1
  have hlen := inBx_len hin
  have hse := says_err hg (ns := ns) (by omega)
  have hp : t.pol ≤ 2 := by
    rcases Int.lt_or_le 2 t.pol with h | h
    · exact absurd (hse.1 h) h4
    · exact h
  rcases hse.2 hp with ⟨h0, _⟩ | ⟨_, hnP⟩
  · exact absurd h0 h4
  · apply Classical.byContradiction
    intro hno
    apply hnP
    rw [List.pairwise_iff_getElem]
    intro j i hj hi hji hsj hri
    apply Classical.byContradiction
    intro hnA
    apply hno
    have hgb : goodBx all (all.length : Int) = true := by rw [h6]; exact hb
    have hci := goodT_cells hg (List.getElem_mem hi)
    have hcj := goodT_cells hg (List.getElem_mem hj)
    cases ha : areaB t.rules[i] all with
    | none => have := areaB_none ha (by omega) hgb ns; rw [hin, hri] at this; cases this
    | some a =>
      cases hb' : areaB t.rules[j] all with
      | none => have := areaB_none hb' (by omega) hgb ns; rw [hin, hsj] at this; cases this
      | some b =>
        obtain ⟨a1, a2, a3⟩ := areaB_some ha
        obtain ⟨b1, b2, b3⟩ := areaB_some hb'
        have hl3 := (goodBx_iff.1 hb).2.2
        cases hxb : bothBx a b with
        | none => have := bothBx_none a2 b2 (by omega) (by omega) hxb ns; rw [a1, b1, hin, hri, hsj] at this; cases this
        | some x =>
          refine ⟨x, ?_, by rw [bothBx_in a2 (by omega) hxb, a1, b1, hin, hri, hsj]; rfl⟩
          unfold clashB
          rw [hg, hb, decide_eq_true hp]
          refine mem_clashTo.2 ⟨i, j, _, _, hji, hi, List.getElem?_eq_getElem hi, List.getElem?_eq_getElem hj, ?_⟩
          rw [clashOf_some ha hb' (f := true) (x := x) ?_ (by rw [hxb]; rfl) (by rw [hxb]; rfl)]
          · simp
          · rcases Classical.em (t.pol = 2) with h2 | h2
            · right; intro e; exact hnA ⟨h2, e.symm⟩
            · exact .inl h2
end

theorem leastB_mem : ∀ {l : List Bx}, l ≠ [] → ∃ b ∈ l, leastB l = pointBx b
  | [], h => absurd rfl h
  | b :: l, _ => by
    have key : ∀ (l : List Bx) (o : List Int), (l.foldl leastStep o = o) ∨ ∃ x ∈ l, l.foldl leastStep o = pointBx x := by
      intro l
      induction l with
      | nil => intro o; exact .inl rfl
      | cons y l ih =>
        intro o
        rw [List.foldl_cons]
        rcases ih (leastStep o y) with h | ⟨x, hx, h⟩
        · rw [h]
          unfold leastStep
          split
          · exact .inr ⟨y, by simp, rfl⟩
          · exact .inl rfl
        · exact .inr ⟨x, by simp [hx], h⟩
    rcases key l (pointBx b) with h | ⟨x, hx, h⟩
    · exact ⟨b, by simp, h⟩
    · exact ⟨x, by simp [hx], h⟩

/-- The least input of which two things are said. -/
theorem clash_at {t : Tb} {all : Bx} (hg : goodT t = true) (hb : goodBx all (t.ins.length : Int) = true) (h : 0 < (clashB t all).length) : inBx all (leastB (clashB t all)) = true ∧ (saysT t (leastB (clashB t all))).2.2 = 4 := by
  obtain ⟨x, hx, e⟩ := leastB_mem (l := clashB t all) (by intro e; rw [e] at h; simp at h)
  rw [e]
  exact clash_box hg hb hx _ (point_in (clash_sets hx))

end Go.Proofs.YtlopccnehgolnabGreatDoor
