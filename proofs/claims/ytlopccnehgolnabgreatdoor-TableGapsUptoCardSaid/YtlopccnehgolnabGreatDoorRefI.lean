
/- The contract of the reference's IsTable. -/
import Derived.Test.YtlopccnehgolnabGreatDoorRefN
import Derived.Test.YtlopccnehgolnabGreatDoorGrE
import Derived.Test.YtlopccnehgolnabGreatDoorGrP
import Derived.Deep.DeepCutAuto
import Derived.Deep.DeepMust
namespace Go.Proofs.YtlopccnehgolnabGreatDoor
open Go.RowKit Rb

theorem zeroBl (w : World) : (zeroValue 4).run Tryz.prog w = .ok (.bool false) w := by kernel_rfl

theorem goodIns_snoc : ∀ (l acc : List Txt) (s : Txt), goodIns acc (l ++ [s]) = (goodIns acc l && (named s && !(acc ++ l).contains s))
  | [], acc, s => by simp [goodIns]
  | a :: l, acc, s => by
    have h := goodIns_snoc l (acc ++ [a]) s
    rw [List.append_assoc, List.singleton_append] at h
    rw [List.cons_append, goodIns, goodIns, h]
    simp only [Bool.and_assoc]
theorem goodIns_take {l : List Txt} {k : Nat} {s : Txt} (h : l[k]? = some s) : goodIns [] (l.take (k + 1)) = (goodIns [] (l.take k) && (named s && !(l.take k).contains s)) := by
  rw [List.take_add_one, h, Option.toList_some, goodIns_snoc, List.nil_append]
theorem IsName_b {s : Txt} {b : Bool} (h : named s = b) (w : World) (hs : s.length ≤ 140737488355328) : Calls Tryz.prog 115 #[.string ⟨s.toArray⟩] w fun e w' => e = .returned (.bool b) ∧ Below w.heap.size w w' := h ▸ IsName_any s w hs
theorem isNumber_b {n : Int} {b : Bool} (h : isNum n = b) (w : World) : Calls Tryz.prog 116 #[.int .i64 n] w fun e w' => e = .returned (.bool b) ∧ w = w' := h ▸ isNumber_any n w
theorem seen_put {l : List Txt} {k : Nat} {s : Txt} {f : Txt → Option Value} (h : l[k]? = some s) (hf : ∀ x, f x = if (l.take k).contains x then some (.bool true) else none) (x : Txt) :
    putM f s (.bool true) x = if (l.take (k + 1)).contains x then some (.bool true) else none := by
  unfold putM
  rw [List.take_add_one, h, Option.toList_some, hf]
  by_cases hx : x = s
  · simp [hx]
  · have : (l.take k ++ [s]).contains x = (l.take k).contains x := by
      rw [Bool.eq_iff_iff]; simp [hx]
    rw [if_neg hx, this]

set_option maxRecDepth 100000 in
set_option maxHeartbeats 1600000 in
theorem IsTable_any {S : Nat → Prop} {cs : List Value} {t : Tb} (w : World) (hl : rTb.rel w S cs t) :
    Calls Tryz.prog 56 #[.agg cs.toArray] w fun e w' => e = .returned (.bool (goodT t)) ∧ Below w.heap.size w w' := by
  obtain ⟨vi, vr, rfl, hnm, hp, hi, hr⟩ := hl
  obtain ⟨A, c, rfl, hi1, hi2, hi3, hE⟩ := rSl.elems hi
  obtain ⟨B, d, rfl, hr1, hr2, hr3, hF⟩ := rSl.elems hr
  have hT : goodT t = (goodHead t && goodIns [] t.ins && t.rules.all (goodRule t.ins.length)) := rfl
  have HT := Lib.hid hT
  have hi5 : t.ins.length ≤ 8796093022208 := by simp only [rStr] at hi3; omega
  have hr5 : t.rules.length ≤ 4398046511104 := by simp only [rRl] at hr3; omega
  obtain ⟨W0, e0, HB0, HE', HF', c0, c1, c3, c4, hs0⟩ : ∃ W0, w.alloc (.cells #[.string ⟨t.name.toArray⟩, .int .i64 t.pol, .bool t.comp, .slice A t.ins.length c, .slice B t.rules.length d] 42) = W0 ∧ Hid (Below w.heap.size w W0) ∧
      Hid (Elems rStr W0 S A t.ins) ∧ Hid (Elems rRl W0 S B t.rules) ∧ W0.cell? ⟨w.heap.size, 0, none⟩ = some (.string ⟨t.name.toArray⟩) ∧ W0.cell? ⟨w.heap.size, 1, none⟩ = some (.int .i64 t.pol) ∧ W0.cell? ⟨w.heap.size, 3, none⟩ = some (.slice A t.ins.length c) ∧ W0.cell? ⟨w.heap.size, 4, none⟩ = some (.slice B t.rules.length d) ∧ w.heap.size < W0.heap.size :=
    ⟨_, rfl, Lib.hid ((Below.refl _ _).alloc (Nat.le_refl _) _), Lib.hid (hE.keep (.alloc _)), Lib.hid (hF.keep (.alloc _)), World.cell?_alloc_new _ _ _ _, World.cell?_alloc_new _ _ _ _, World.cell?_alloc_new _ _ _ _, World.cell?_alloc_new _ _ _ _, by simp⟩
  clear hi hr hE hF hT hi3 hr3
  go_enter Tryz.func56, Tryz.ntmps56
  go_upto_region 2 with fail
  go_cut [4] (fun s4 wx => s4 = .bool (goodHead t) ∧ Hid (Below W0.heap.size W0 wx))
  case first =>
    cases hN : named t.name
    · have HN := Lib.hid hN
      have HF : Hid (goodHead t = false) := Lib.hid (by rw [goodHead, hN]; rfl)
      clear hN
      go_wp2_with (first | (go_at_call 115; go_must ((with_reducible refine (IsName_b HN.out W0 hnm).mono ?_); rintro e w1 ⟨rfl, hb1⟩; have HB1 := Lib.hid hb1; clear hb1)))
      go_meet
      exact ⟨by rw [HF.out], HB1⟩
    have HN := Lib.hid hN
    cases hH : goodHead t
    · have HF : Hid (goodHead t = false) := Lib.hid hH
      have hx := head_no hH hN
      have hx' : t.pol < 1 ∨ (1 ≤ t.pol ∧ 7 < t.pol) ∨ (1 ≤ t.pol ∧ t.pol ≤ 7 ∧ (t.ins.length : Int) < 1) ∨ (1 ≤ t.pol ∧ t.pol ≤ 7 ∧ 0 < (t.ins.length : Int) ∧ 3 < (t.ins.length : Int)) ∨ (1 ≤ t.pol ∧ t.pol ≤ 7 ∧ 0 < (t.ins.length : Int) ∧ (t.ins.length : Int) ≤ 3 ∧ (t.rules.length : Int) < 1) ∨ (1 ≤ t.pol ∧ t.pol ≤ 7 ∧ 0 < (t.ins.length : Int) ∧ (t.ins.length : Int) ≤ 3 ∧ 0 < (t.rules.length : Int) ∧ 7 ≤ (t.rules.length : Int)) := by omega
      clear hN hH hx
      rcases hx' with g1 | ⟨g1, g2⟩ | ⟨g1, g2, g3⟩ | ⟨g1, g2, g3, g4⟩ | ⟨g1, g2, g3, g4, g5⟩ | ⟨g1, g2, g3, g4, g5, g6⟩
      all_goals try (have g7 : decide ((t.rules.length : Int) < 7) = false := decide_eq_false (by omega))
      all_goals
        go_wp2_with (first | (go_at_call 115; go_must ((with_reducible refine (IsName_b HN.out W0 hnm).mono ?_); rintro e w1 ⟨rfl, hb1⟩; have HB1 := Lib.hid hb1; have d1 := (hb1.cell (p := ⟨w.heap.size, 1, none⟩) hs0).trans c1; have d4 := (hb1.cell (p := ⟨w.heap.size, 4, none⟩) hs0).trans c4; clear hb1)))
        go_meet
        exact ⟨by rw [HF.out], HB1⟩
    · obtain ⟨_, k1, k2, k3, k4, k5, k6⟩ := head_yes hH
      have g1 : 0 < t.pol := by omega
      have g2 : t.pol < 8 := by omega
      have g3 : 0 < (t.ins.length : Int) := by omega
      have g4 : (t.ins.length : Int) < 4 := by omega
      have g5 : 0 < (t.rules.length : Int) := by omega
      have g6 : (t.rules.length : Int) < 7 := by omega
      have HF : Hid (goodHead t = true) := Lib.hid hH
      clear hN hH k1 k2 k3 k4 k5 k6
      go_wp2_with (first | (go_at_call 115; go_must ((with_reducible refine (IsName_b HN.out W0 hnm).mono ?_); rintro e w1 ⟨rfl, hb1⟩; have HB1 := Lib.hid hb1; have d1 := (hb1.cell (p := ⟨w.heap.size, 1, none⟩) hs0).trans c1; have d4 := (hb1.cell (p := ⟨w.heap.size, 4, none⟩) hs0).trans c4; clear hb1)))
      go_meet
      exact ⟨by rw [HF.out], HB1⟩
  case rest =>
    obtain ⟨rfl, HBx⟩ := hcut
    generalize hgh : goodHead t = gh at *
    obtain ⟨WN, eN, HBN, HN0, n3⟩ : ∃ WN, wc.alloc (.map #[] 0) = WN ∧ Hid (Below W0.heap.size W0 WN) ∧ Hid (SMap Tryz.prog 9 WN wc.heap.size 0 fun _ => none) ∧ WN.cell? ⟨w.heap.size, 3, none⟩ = some (.slice A t.ins.length c) :=
      ⟨_, rfl, Lib.hid (HBx.out.alloc HBx.out.size _), Lib.hid (SMap.made _ _ _), ((HBx.out.alloc HBx.out.size _).cell (p := ⟨w.heap.size, 3, none⟩) hs0).trans c3⟩
    have HGH := Lib.hid hgh
    have hmm := @run_makeMap Tryz.prog
    clear hgh
    go_wp2
    clear hmm
    clear n3 eN
    generalize hmb : wc.heap.size = mb at *
    have Hmb : Hid (W0.heap.size ≤ mb) := Lib.hid (by rw [← hmb]; exact HBx.out.size)
    clear hmb
    go_loopw [4, 52] (fun o i wr => ∃ (k n : Nat) (b : Bool) (f : Txt → Option Value), k ≤ t.ins.length ∧ i = .int .i64 k ∧ o = .bool b ∧ Hid (b = (gh && goodIns [] (t.ins.take k))) ∧ Hid (SMap Tryz.prog 9 wr mb n f) ∧ Hid (n ≤ k) ∧ Hid (∀ s, f s = if (t.ins.take k).contains s then some (.bool true) else none) ∧ Hid (Below W0.heap.size W0 wr)) (fun _ i _ => t.ins.length - (intOf i).toNat)
    case atStart => exact ⟨0, 0, gh, _, Nat.zero_le _, rfl, rfl, Lib.hid (by simp [goodIns]), HN0, Lib.hid (Nat.le_refl _), Lib.hid (fun s => by simp), HBN⟩
    case round =>
      obtain ⟨k, n, b, f, hk, rfl, rfl, Hb, HM, Hn, Hf, HB⟩ := hrel
      by_cases hlt : k < t.ins.length
      · obtain ⟨bB, off, s, rfl, _, hbB, hx, hsl, g0⟩ := HE'.out.str hlt
        rw [← HB.out.cell (p := ⟨bB, _, none⟩) hbB] at g0
        have hik : (k : Int) < (t.ins.length : Int) := by omega
        have HX := Lib.hid hx
        have HFN := Lib.hid (seen_put hx Hf.out)
        have HGI := Lib.hid (goodIns_take hx)
        clear hx
        cases b
        · have Hb' : Hid (false = (gh && goodIns [] (t.ins.take (k + 1)))) := Lib.hid (by rw [HGI.out, ← Bool.and_assoc, ← Hb.out]; rfl)
          go_wp2_with (first | (at_mapUpdate; go_must (refine wpList_update_txt (B := W0.heap.size) (val := .bool true) rfl (.tmp 67) (.tmp 68) (.const (.bool true)) 133 rfl Tryz.underlying133 Tryz.underlying9 rfl HM.out (by have := Hn.out; unfold maxLen; omega) rfl hsl rfl Hmb.out ?_); intro w7 hM7 hb7 hg7))
          go_roundw
          case rel => exact ⟨k + 1, n + 1, false, _, by omega, by go_num, rfl, Hb', Lib.hid hM7, Lib.hid (by have := Hn.out; omega), HFN, Lib.hid (HB.out.trans hb7)⟩
          case measure => simp [intOf]; omega
        · cases hns : named s
          · have HNS := Lib.hid hns
            have Hb' : Hid (false = (gh && goodIns [] (t.ins.take (k + 1)))) := Lib.hid (by rw [HGI.out, hns, Bool.false_and, Bool.and_false, Bool.and_false])
            clear hns
            go_wp2_with (first | (go_at_call 115; go_must ((with_reducible refine (IsName_b HNS.out wr hsl).mono ?_); rintro e w4 ⟨rfl, hb4⟩; have HB4 := Lib.hid (HB.out.trans (hb4.mono HB.out.size)); have HM4 := Lib.hid (HM.out.below hb4); clear hb4)) | (at_mapUpdate; go_must (refine wpList_update_txt (B := W0.heap.size) (val := .bool true) rfl (.tmp 67) (.tmp 68) (.const (.bool true)) 133 rfl Tryz.underlying133 Tryz.underlying9 rfl HM4.out (by have := Hn.out; unfold maxLen; omega) rfl hsl rfl Hmb.out ?_); intro w7 hM7 hb7 hg7))
            go_roundw
            case rel => exact ⟨k + 1, n + 1, false, _, by omega, by go_num, rfl, Hb', Lib.hid hM7, Lib.hid (by have := Hn.out; omega), HFN, Lib.hid (HB4.out.trans hb7)⟩
            case measure => simp [intOf]; omega
          · have HNS := Lib.hid hns
            cases hcs : (t.ins.take k).contains s
            all_goals
              have HV : Hid ((f s).getD (.bool false) = .bool ((t.ins.take k).contains s)) := Lib.hid (by rw [Hf.out, hcs]; rfl)
              rw [hcs] at HV
              have Hb' := HGI.out
              rw [hcs, hns] at Hb'
              have Hb2 := Lib.hid (congrArg (gh && ·) Hb')
              have Hb3 := Lib.hid (Hb.out)
              clear hns hcs Hb'
              go_wp2_with (first | (go_at_call 115; go_must ((with_reducible refine (IsName_b HNS.out wr hsl).mono ?_); rintro e w4 ⟨rfl, hb4⟩; have HB4 := Lib.hid (HB.out.trans (hb4.mono HB.out.size)); have HM4 := Lib.hid (HM.out.below hb4); clear hb4)) | (at_lookup; go_must (refine wpList_lookup_txt (by rfl) (.tmp 62) (.tmp 63) 133 rfl Tryz.underlying133 Tryz.underlying9 (zeroBl _) rfl HM4.out rfl hsl HV.out ?_)) | (at_mapUpdate; go_must (refine wpList_update_txt (B := W0.heap.size) (val := .bool true) rfl (.tmp 67) (.tmp 68) (.const (.bool true)) 133 rfl Tryz.underlying133 Tryz.underlying9 rfl HM4.out (by have := Hn.out; unfold maxLen; omega) rfl hsl rfl Hmb.out ?_); intro w7 hM7 hb7 hg7))
              go_roundw
              case rel => exact ⟨k + 1, n + 1, _, _, by omega, by go_num, rfl, Lib.hid (by have h2 := Hb2.out; have h3 := Hb3.out; rw [h2, ← Bool.and_assoc, ← h3]; rfl), Lib.hid hM7, Lib.hid (by have := Hn.out; omega), HFN, Lib.hid (HB4.out.trans hb7)⟩
              case measure => simp [intOf]; omega
      · have Hb2 : Hid (b = (gh && goodIns [] t.ins)) := Lib.hid (by rw [Hb.out, List.take_of_length_le (by omega)])
        have f4 := (HB.out.cell (p := ⟨w.heap.size, 4, none⟩) hs0).trans c4
        clear HE' Hb HM Hn Hf HN0 HBN HBx Hmb
        go_wp2
        clear f4
        go_loopw [4, 73] (fun o i wr => ∃ (k : Nat) (b1 : Bool), k ≤ t.rules.length ∧ i = .int .i64 k ∧ o = .bool b1 ∧ Hid (b1 = (b && (t.rules.take k).all (goodRule t.ins.length))) ∧ Hid (Below W0.heap.size W0 wr)) (fun _ i _ => t.rules.length - (intOf i).toNat)
        case atStart => exact ⟨0, b, Nat.zero_le _, rfl, rfl, Lib.hid (by simp), HB⟩
        case round =>
          obtain ⟨k, b1, hk, rfl, rfl, Hb1, HBr⟩ := hrel
          by_cases hlt : k < t.rules.length
          · obtain ⟨bB, off, r, q, rfl, _, hbB, hx, hri, hq, h1, h2⟩ := HF'.out.rl hlt
            rw [← HBr.out.cell (p := ⟨bB, _, none⟩) hbB] at h1 h2
            have hq' := Rd.below hq HBr.out
            obtain ⟨A2, c2, rfl, _, _, hl2, hE2⟩ := rSl.elems hq'
            have hik : (k : Int) < (t.rules.length : Int) := by omega
            have hl2' : r.cells.length ≤ 4398046511104 := by simp only [rCl] at hl2; omega
            have HS1 : Hid ((t.rules.take (k + 1)).all (goodRule t.ins.length) = ((t.rules.take k).all (goodRule t.ins.length) && goodRule t.ins.length r)) := Lib.hid (all_take hx)
            obtain ⟨W1, e1, HB1, HE3, d0, d1, hs1⟩ : ∃ W1, wr.alloc (.cells #[.slice A2 r.cells.length c2, .int .i64 r.out] 93) = W1 ∧ Hid (Below W0.heap.size W0 W1) ∧
                Hid (Elems rCl W1 S A2 r.cells) ∧ W1.cell? ⟨wr.heap.size, 0, none⟩ = some (.slice A2 r.cells.length c2) ∧ W1.cell? ⟨wr.heap.size, 1, none⟩ = some (.int .i64 r.out) ∧ wr.heap.size < W1.heap.size :=
              ⟨_, rfl, Lib.hid (HBr.out.alloc HBr.out.size _), Lib.hid (hE2.keep (.alloc _)), World.cell?_alloc_new _ _ _ _, World.cell?_alloc_new _ _ _ _, by simp⟩
            clear hx hq hq' hE2 hl2
            go_upto_region 13 with fail
            clear h1 h2
            go_cut [4] (fun s4 wx => s4 = .bool (b1 && (isNum r.out && decide (r.cells.length = t.ins.length))) ∧ wx = W1)
            case first =>
              cases b1
              · go_wp2
                go_meet
                exact ⟨rfl, rfl⟩
              cases hnr : isNum r.out
              · have HNR := Lib.hid hnr
                clear hnr
                go_wp2_with (first | (go_at_call 116; go_must ((with_reducible refine (isNumber_b HNR.out W1).mono ?_); rintro e w' ⟨rfl, rfl⟩)))
                go_meet
                exact ⟨by rw [HNR.out]; rfl, rfl⟩
              have HNR := Lib.hid hnr
              clear hnr
              by_cases hlen : r.cells.length = t.ins.length
              · have hne : ((r.cells.length : Int) == (t.ins.length : Int)) = true := by rw [beq_iff_eq]; omega
                have HL := Lib.hid hlen
                clear hlen
                go_wp2_with (first | (go_at_call 116; go_must ((with_reducible refine (isNumber_b HNR.out W1).mono ?_); rintro e w' ⟨rfl, rfl⟩)))
                go_meet
                exact ⟨by rw [HNR.out, HL.out]; simp, rfl⟩
              · have hne : ((r.cells.length : Int) == (t.ins.length : Int)) = false := by rw [beq_eq_false_iff_ne]; omega
                have HL := Lib.hid hlen
                clear hlen
                go_wp2_with (first | (go_at_call 116; go_must ((with_reducible refine (isNumber_b HNR.out W1).mono ?_); rintro e w' ⟨rfl, rfl⟩)))
                go_meet
                exact ⟨by rw [HNR.out]; simp [HL.out], rfl⟩
            case rest =>
              obtain ⟨rfl, hw⟩ := hcut
              subst hw
              have HS2 : Hid ((b && (t.rules.take (k + 1)).all (goodRule t.ins.length)) = ((b1 && (isNum r.out && decide (r.cells.length = t.ins.length))) && r.cells.all goodCell)) := Lib.hid (by
                rw [HS1.out, Hb1.out]
                unfold goodRule
                simp only [Bool.and_assoc])
              obtain ⟨b2, hb2⟩ : ∃ b2, (b1 && (isNum r.out && decide (r.cells.length = t.ins.length))) = b2 := ⟨_, rfl⟩
              rw [hb2] at HS2
              rw [hb2]
              clear hb2 Hb1 HS1
              go_wp2
              clear d0 d1
              generalize wr.heap.size = p at *
              go_loopw [4, 93] (fun o i wi => ∃ (j : Nat) (b3 : Bool), j ≤ r.cells.length ∧ i = .int .i64 j ∧ o = .bool b3 ∧ Hid (b3 = (b2 && (r.cells.take j).all goodCell)) ∧ Hid (Below wc.heap.size wc wi)) (fun _ i _ => r.cells.length - (intOf i).toNat)
              case atStart => exact ⟨0, b2, Nat.zero_le _, rfl, rfl, Lib.hid (by simp), Lib.hid (Below.refl _ _)⟩
              case round =>
                obtain ⟨j, b3, hj, rfl, rfl, Hb3, HBi⟩ := hrel
                by_cases hlj : j < r.cells.length
                · obtain ⟨b1', off1, cl, q1, rfl, _, hb2, hx1, hq1, g1, g2⟩ := HE3.out.cl hlj
                  rw [← HBi.out.cell (p := ⟨b1', _, none⟩) hb2] at g1 g2
                  have hj1 : (j : Int) < (r.cells.length : Int) := by omega
                  have hq2 := Rd.below hq1 HBi.out
                  obtain ⟨A5, c5, rfl, _, _, hl5, _⟩ := rSl.elems hq1
                  have hl5' : cl.rs.length ≤ 8796093022208 := by simp only [rRg] at hl5; omega
                  have HS3 : Hid ((r.cells.take (j + 1)).all goodCell = ((r.cells.take j).all goodCell && goodCell cl)) := Lib.hid (all_take hx1)
                  clear hl5 hx1
                  generalize hm : cl.rs.length = m at *
                  generalize hno : cl.no = no at *
                  obtain ⟨W2, e2, HBj, HQ3, f0, f1⟩ : ∃ W2, wr.alloc (.cells #[.bool no, .slice A5 m c5] 97) = W2 ∧ Hid (Below wc.heap.size wc W2) ∧ Hid ((rSl rRg).rel W2 S [.slice A5 m c5] cl.rs) ∧
                      W2.cell? ⟨wr.heap.size, 0, none⟩ = some (.bool no) ∧ W2.cell? ⟨wr.heap.size, 1, none⟩ = some (.slice A5 m c5) :=
                    ⟨_, rfl, Lib.hid (HBi.out.alloc HBi.out.size _), Lib.hid (Rd.alloc hq2 _), World.cell?_alloc_new _ _ _ _, World.cell?_alloc_new _ _ _ _⟩
                  clear hq1 hq2
                  have HGC : Hid (goodCell cl = (decide (m ≤ 4) && isSet cl.rs && !(no && decide (m = 0)))) := Lib.hid (by rw [← hm, ← hno]; rfl)
                  obtain ⟨is, his⟩ : ∃ is, isSet cl.rs = is := ⟨_, rfl⟩
                  have HIS := Lib.hid his
                  rw [his] at HGC
                  clear hm hno his
                  cases b3
                  · go_wp2
                    go_roundw
                    case rel => exact ⟨j + 1, false, by omega, by go_num, rfl, Lib.hid (by rw [HS3.out, ← Bool.and_assoc, ← Hb3.out]; rfl), HBj⟩
                    case measure => simp [intOf]; omega
                  have HS4 : Hid (goodCell cl = (b2 && (r.cells.take (j + 1)).all goodCell)) := Lib.hid (by rw [HS3.out, ← Bool.and_assoc, ← Hb3.out]; rfl)
                  have h5 : 5 ≤ (m : Int) ∨ ((m : Int) < 5 ∧ is = false) ∨ ((m : Int) < 5 ∧ is = true ∧ no = false) ∨ ((m : Int) < 5 ∧ is = true ∧ no = true ∧ m = 0) ∨ ((m : Int) < 5 ∧ is = true ∧ no = true ∧ 0 < m) := by
                    cases is <;> cases no <;> simp <;> omega
                  rcases h5 with h5 | ⟨h5, rfl⟩ | ⟨h5, rfl, rfl⟩ | ⟨h5, rfl, rfl, rfl⟩ | ⟨h5, rfl, rfl, h7⟩
                  · have HF : Hid (goodCell cl = false) := Lib.hid (by rw [HGC.out, show decide (m ≤ 4) = false by simp; omega]; rfl)
                    go_wp2
                    go_roundw
                    case rel => exact ⟨j + 1, false, by omega, by go_num, rfl, Lib.hid (HF.out.symm.trans HS4.out), HBj⟩
                    case measure => simp [intOf]; omega
                  · have HF : Hid (goodCell cl = false) := Lib.hid (by rw [HGC.out]; simp)
                    go_wp2_with (first | (go_at_call 117; go_must ((with_reducible refine (IsSet_b W2 HQ3.out HIS.out).mono ?_); rintro e w4 ⟨rfl, hb4⟩; have HB4 := Lib.hid (HBj.out.trans (hb4.mono HBj.out.size)); clear hb4)))
                    go_roundw
                    case rel => exact ⟨j + 1, false, by omega, by go_num, rfl, Lib.hid (HF.out.symm.trans HS4.out), HB4⟩
                    case measure => simp [intOf]; omega
                  · have HF : Hid (goodCell cl = true) := Lib.hid (by rw [HGC.out, show decide (m ≤ 4) = true by simp; omega]; rfl)
                    have hwi : wr.heap.size < W2.heap.size := World.block_lt_of_cell? _ _ f0
                    go_wp2_with (first | (go_at_call 117; go_must ((with_reducible refine (IsSet_b W2 HQ3.out HIS.out).mono ?_); rintro e w4 ⟨rfl, hb4⟩; have HB4 := Lib.hid (HBj.out.trans (hb4.mono HBj.out.size)); have k0 := (hb4.cell (p := ⟨wr.heap.size, 0, none⟩) hwi).trans f0; have k1 := (hb4.cell (p := ⟨wr.heap.size, 1, none⟩) hwi).trans f1; clear hb4)))
                    go_roundw
                    case rel => exact ⟨j + 1, true, by omega, by go_num, rfl, Lib.hid (HF.out.symm.trans HS4.out), HB4⟩
                    case measure => simp [intOf]; omega
                  · have HF : Hid (goodCell cl = false) := Lib.hid (by rw [HGC.out]; simp)
                    have hwi : wr.heap.size < W2.heap.size := World.block_lt_of_cell? _ _ f0
                    go_wp2_with (first | (go_at_call 117; go_must ((with_reducible refine (IsSet_b W2 HQ3.out HIS.out).mono ?_); rintro e w4 ⟨rfl, hb4⟩; have HB4 := Lib.hid (HBj.out.trans (hb4.mono HBj.out.size)); have k0 := (hb4.cell (p := ⟨wr.heap.size, 0, none⟩) hwi).trans f0; have k1 := (hb4.cell (p := ⟨wr.heap.size, 1, none⟩) hwi).trans f1; clear hb4)))
                    go_roundw
                    case rel => exact ⟨j + 1, false, by omega, by go_num, rfl, Lib.hid (HF.out.symm.trans HS4.out), HB4⟩
                    case measure => simp [intOf]; omega
                  · have HF : Hid (goodCell cl = true) := Lib.hid (by rw [HGC.out, show decide (m ≤ 4) = true by simp; omega, show decide (m = 0) = false by simp; omega]; rfl)
                    have hwi : wr.heap.size < W2.heap.size := World.block_lt_of_cell? _ _ f0
                    have h8 : 0 < (m : Int) := by omega
                    go_wp2_with (first | (go_at_call 117; go_must ((with_reducible refine (IsSet_b W2 HQ3.out HIS.out).mono ?_); rintro e w4 ⟨rfl, hb4⟩; have HB4 := Lib.hid (HBj.out.trans (hb4.mono HBj.out.size)); have k0 := (hb4.cell (p := ⟨wr.heap.size, 0, none⟩) hwi).trans f0; have k1 := (hb4.cell (p := ⟨wr.heap.size, 1, none⟩) hwi).trans f1; clear hb4)))
                    go_roundw
                    case rel => exact ⟨j + 1, true, by omega, by go_num, rfl, Lib.hid (HF.out.symm.trans HS4.out), HB4⟩
                    case measure => simp [intOf]; omega
                · have Hb4 : Hid (b3 = (b && (t.rules.take (k + 1)).all (goodRule t.ins.length))) := Lib.hid (by rw [Hb3.out, HS2.out, List.take_of_length_le (by omega)])
                  go_wp2
                  go_roundw
                  case rel => exact ⟨k + 1, b3, by omega, by go_num, rfl, Hb4, Lib.hid (HB1.out.trans (HBi.out.mono HB1.out.size))⟩
                  case measure => simp [intOf]; omega
          · have HF : Hid (b1 = goodT t) := Lib.hid (by rw [Hb1.out, List.take_of_length_le (by omega), Hb2.out, HT.out])
            go_wp2
            go_ret
            exact ⟨ret_bool HF.out, HB0.out.trans (HBr.out.mono HB0.out.size)⟩

end Go.Proofs.YtlopccnehgolnabGreatDoor
