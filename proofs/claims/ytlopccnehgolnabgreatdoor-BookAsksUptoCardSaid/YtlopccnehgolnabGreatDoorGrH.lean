/- The contract of the reference's IsTable. The reference's finders in a book, and IsDomain. The reference's IsDomain and hangs. -/
import Derived.Test.YtlopccnehgolnabGreatDoorRefN
import Derived.Test.YtlopccnehgolnabGreatDoorGrE
import Derived.Test.YtlopccnehgolnabGreatDoorGrF
import Derived.Test.YtlopccnehgolnabGreatDoorGrG
import Derived.Deep.DeepCutAuto
import Derived.Deep.DeepMust
namespace Go.Proofs.YtlopccnehgolnabGreatDoor
open Go.RowKit Rb

theorem zeroBl (w : World) : (zeroValue 4).run Tryz.prog w = .ok (.bool false) w := by kernel_rfl

theorem goodIns_snoc : ∀ (l acc : List Txt) (s : Txt), goodIns acc (l ++ [s]) = (goodIns acc l && (named s && !(acc ++ l).contains s))
  | [], acc, s => by simp [goodIns]
  | a :: l, acc, s => by
    have h := goodIns_snoc l (acc ++ [a]) s
    rw [List.append_assoc, List.singleton_append] at h
    rw [List.cons_append, goodIns, goodIns, h]
    simp only [Bool.and_assoc]
theorem goodIns_take {l : List Txt} {k : Nat} {s : Txt} (h : l[k]? = some s) : goodIns [] (l.take (k + 1)) = (goodIns [] (l.take k) && (named s && !(l.take k).contains s)) := by
  rw [List.take_add_one, h, Option.toList_some, goodIns_snoc, List.nil_append]
theorem IsName_b {s : Txt} {b : Bool} (h : named s = b) (w : World) (hs : s.length ≤ 140737488355328) : Calls Tryz.prog 115 #[.string ⟨s.toArray⟩] w fun e w' => e = .returned (.bool b) ∧ Below w.heap.size w w' := h ▸ IsName_any s w hs
theorem isNumber_b {n : Int} {b : Bool} (h : isNum n = b) (w : World) : Calls Tryz.prog 116 #[.int .i64 n] w fun e w' => e = .returned (.bool b) ∧ w = w' := h ▸ isNumber_any n w
theorem seen_put {l : List Txt} {k : Nat} {s : Txt} {f : Txt → Option Value} (h : l[k]? = some s) (hf : ∀ x, f x = if (l.take k).contains x then some (.bool true) else none) (x : Txt) :
    putM f s (.bool true) x = if (l.take (k + 1)).contains x then some (.bool true) else none := by
  unfold putM
  rw [List.take_add_one, h, Option.toList_some, hf]
  by_cases hx : x = s
  · simp [hx]
  · have : (l.take k ++ [s]).contains x = (l.take k).contains x := by
      rw [Bool.eq_iff_iff]; simp [hx]
    rw [if_neg hx, this]

set_option maxRecDepth 100000 in
set_option maxHeartbeats 1600000 in
theorem IsTable_any {S : Nat → Prop} {cs : List Value} {t : Tb} (w : World) (hl : rTb.rel w S cs t) :
    Calls Tryz.prog 56 #[.agg cs.toArray] w fun e w' => e = .returned (.bool (goodT t)) ∧ Below w.heap.size w w' := by
  obtain ⟨vi, vr, rfl, hnm, hp, hi, hr⟩ := hl
  obtain ⟨A, c, rfl, hi1, hi2, hi3, hE⟩ := rSl.elems hi
  obtain ⟨B, d, rfl, hr1, hr2, hr3, hF⟩ := rSl.elems hr
  have hT : goodT t = (goodHead t && goodIns [] t.ins && t.rules.all (goodRule t.ins.length)) := rfl
  have HT := Lib.hid hT
  have hi5 : t.ins.length ≤ 8796093022208 := by simp only [rStr] at hi3; omega
  have hr5 : t.rules.length ≤ 4398046511104 := by simp only [rRl] at hr3; omega
  obtain ⟨W0, e0, HB0, HE', HF', c0, c1, c3, c4, hs0⟩ : ∃ W0, w.alloc (.cells #[.string ⟨t.name.toArray⟩, .int .i64 t.pol, .bool t.comp, .slice A t.ins.length c, .slice B t.rules.length d] 42) = W0 ∧ Hid (Below w.heap.size w W0) ∧
      Hid (Elems rStr W0 S A t.ins) ∧ Hid (Elems rRl W0 S B t.rules) ∧ W0.cell? ⟨w.heap.size, 0, none⟩ = some (.string ⟨t.name.toArray⟩) ∧ W0.cell? ⟨w.heap.size, 1, none⟩ = some (.int .i64 t.pol) ∧ W0.cell? ⟨w.heap.size, 3, none⟩ = some (.slice A t.ins.length c) ∧ W0.cell? ⟨w.heap.size, 4, none⟩ = some (.slice B t.rules.length d) ∧ w.heap.size < W0.heap.size :=
    ⟨_, rfl, Lib.hid ((Below.refl _ _).alloc (Nat.le_refl _) _), Lib.hid (hE.keep (.alloc _)), Lib.hid (hF.keep (.alloc _)), World.cell?_alloc_new _ _ _ _, World.cell?_alloc_new _ _ _ _, World.cell?_alloc_new _ _ _ _, World.cell?_alloc_new _ _ _ _, by simp⟩
  clear hi hr hE hF hT hi3 hr3
  go_enter Tryz.func56, Tryz.ntmps56
  go_upto_region 2 with fail
  go_cut [4] (fun s4 wx => s4 = .bool (goodHead t) ∧ Hid (Below W0.heap.size W0 wx))
  case first =>
    cases hN : named t.name
    · have HN := Lib.hid hN
      have HF : Hid (goodHead t = false) := Lib.hid (by rw [goodHead, hN]; rfl)
      clear hN
      go_wp2_with (first | (go_at_call 115; go_must ((with_reducible refine (IsName_b HN.out W0 hnm).mono ?_); rintro e w1 ⟨rfl, hb1⟩; have HB1 := Lib.hid hb1; clear hb1)))
      go_meet
      exact ⟨by rw [HF.out], HB1⟩
    have HN := Lib.hid hN
    cases hH : goodHead t
    · have HF : Hid (goodHead t = false) := Lib.hid hH
      have hx := head_no hH hN
      have hx' : t.pol < 1 ∨ (1 ≤ t.pol ∧ 7 < t.pol) ∨ (1 ≤ t.pol ∧ t.pol ≤ 7 ∧ (t.ins.length : Int) < 1) ∨ (1 ≤ t.pol ∧ t.pol ≤ 7 ∧ 0 < (t.ins.length : Int) ∧ 3 < (t.ins.length : Int)) ∨ (1 ≤ t.pol ∧ t.pol ≤ 7 ∧ 0 < (t.ins.length : Int) ∧ (t.ins.length : Int) ≤ 3 ∧ (t.rules.length : Int) < 1) ∨ (1 ≤ t.pol ∧ t.pol ≤ 7 ∧ 0 < (t.ins.length : Int) ∧ (t.ins.length : Int) ≤ 3 ∧ 0 < (t.rules.length : Int) ∧ 7 ≤ (t.rules.length : Int)) := by omega
      clear hN hH hx
      rcases hx' with g1 | ⟨g1, g2⟩ | ⟨g1, g2, g3⟩ | ⟨g1, g2, g3, g4⟩ | ⟨g1, g2, g3, g4, g5⟩ | ⟨g1, g2, g3, g4, g5, g6⟩
      all_goals try (have g7 : decide ((t.rules.length : Int) < 7) = false := decide_eq_false (by omega))
      all_goals
        go_wp2_with (first | (go_at_call 115; go_must ((with_reducible refine (IsName_b HN.out W0 hnm).mono ?_); rintro e w1 ⟨rfl, hb1⟩; have HB1 := Lib.hid hb1; have d1 := (hb1.cell (p := ⟨w.heap.size, 1, none⟩) hs0).trans c1; have d4 := (hb1.cell (p := ⟨w.heap.size, 4, none⟩) hs0).trans c4; clear hb1)))
        go_meet
        exact ⟨by rw [HF.out], HB1⟩
    · obtain ⟨_, k1, k2, k3, k4, k5, k6⟩ := head_yes hH
      have g1 : 0 < t.pol := by omega
      have g2 : t.pol < 8 := by omega
      have g3 : 0 < (t.ins.length : Int) := by omega
      have g4 : (t.ins.length : Int) < 4 := by omega
      have g5 : 0 < (t.rules.length : Int) := by omega
      have g6 : (t.rules.length : Int) < 7 := by omega
      have HF : Hid (goodHead t = true) := Lib.hid hH
      clear hN hH k1 k2 k3 k4 k5 k6
      go_wp2_with (first | (go_at_call 115; go_must ((with_reducible refine (IsName_b HN.out W0 hnm).mono ?_); rintro e w1 ⟨rfl, hb1⟩; have HB1 := Lib.hid hb1; have d1 := (hb1.cell (p := ⟨w.heap.size, 1, none⟩) hs0).trans c1; have d4 := (hb1.cell (p := ⟨w.heap.size, 4, none⟩) hs0).trans c4; clear hb1)))
      go_meet
      exact ⟨by rw [HF.out], HB1⟩
  case rest =>
    obtain ⟨rfl, HBx⟩ := hcut
    generalize hgh : goodHead t = gh at *
    obtain ⟨WN, eN, HBN, HN0, n3⟩ : ∃ WN, wc.alloc (.map #[] 0) = WN ∧ Hid (Below W0.heap.size W0 WN) ∧ Hid (SMap Tryz.prog 9 WN wc.heap.size 0 fun _ => none) ∧ WN.cell? ⟨w.heap.size, 3, none⟩ = some (.slice A t.ins.length c) :=
      ⟨_, rfl, Lib.hid (HBx.out.alloc HBx.out.size _), Lib.hid (SMap.made _ _ _), ((HBx.out.alloc HBx.out.size _).cell (p := ⟨w.heap.size, 3, none⟩) hs0).trans c3⟩
    have HGH := Lib.hid hgh
    have hmm := @run_makeMap Tryz.prog
    clear hgh
    go_wp2
    clear hmm
    clear n3 eN
    generalize hmb : wc.heap.size = mb at *
    have Hmb : Hid (W0.heap.size ≤ mb) := Lib.hid (by rw [← hmb]; exact HBx.out.size)
    clear hmb
    go_loopw [4, 52] (fun o i wr => ∃ (k n : Nat) (b : Bool) (f : Txt → Option Value), k ≤ t.ins.length ∧ i = .int .i64 k ∧ o = .bool b ∧ Hid (b = (gh && goodIns [] (t.ins.take k))) ∧ Hid (SMap Tryz.prog 9 wr mb n f) ∧ Hid (n ≤ k) ∧ Hid (∀ s, f s = if (t.ins.take k).contains s then some (.bool true) else none) ∧ Hid (Below W0.heap.size W0 wr)) (fun _ i _ => t.ins.length - (intOf i).toNat)
    case atStart => exact ⟨0, 0, gh, _, Nat.zero_le _, rfl, rfl, Lib.hid (by simp [goodIns]), HN0, Lib.hid (Nat.le_refl _), Lib.hid (fun s => by simp), HBN⟩
    case round =>
      obtain ⟨k, n, b, f, hk, rfl, rfl, Hb, HM, Hn, Hf, HB⟩ := hrel
      by_cases hlt : k < t.ins.length
      · obtain ⟨bB, off, s, rfl, _, hbB, hx, hsl, g0⟩ := HE'.out.str hlt
        rw [← HB.out.cell (p := ⟨bB, _, none⟩) hbB] at g0
        have hik : (k : Int) < (t.ins.length : Int) := by omega
        have HX := Lib.hid hx
        have HFN := Lib.hid (seen_put hx Hf.out)
        have HGI := Lib.hid (goodIns_take hx)
        clear hx
        cases b
        · have Hb' : Hid (false = (gh && goodIns [] (t.ins.take (k + 1)))) := Lib.hid (by rw [HGI.out, ← Bool.and_assoc, ← Hb.out]; rfl)
          go_wp2_with (first | (at_mapUpdate; go_must (refine wpList_update_txt (B := W0.heap.size) (val := .bool true) rfl (.tmp 67) (.tmp 68) (.const (.bool true)) 133 rfl Tryz.underlying133 Tryz.underlying9 rfl HM.out (by have := Hn.out; unfold maxLen; omega) rfl hsl rfl Hmb.out ?_); intro w7 hM7 hb7 hg7))
          go_roundw
          case rel => exact ⟨k + 1, n + 1, false, _, by omega, by go_num, rfl, Hb', Lib.hid hM7, Lib.hid (by have := Hn.out; omega), HFN, Lib.hid (HB.out.trans hb7)⟩
          case measure => simp [intOf]; omega
        · cases hns : named s
          · have HNS := Lib.hid hns
            have Hb' : Hid (false = (gh && goodIns [] (t.ins.take (k + 1)))) := Lib.hid (by rw [HGI.out, hns, Bool.false_and, Bool.and_false, Bool.and_false])
            clear hns
            go_wp2_with (first | (go_at_call 115; go_must ((with_reducible refine (IsName_b HNS.out wr hsl).mono ?_); rintro e w4 ⟨rfl, hb4⟩; have HB4 := Lib.hid (HB.out.trans (hb4.mono HB.out.size)); have HM4 := Lib.hid (HM.out.below hb4); clear hb4)) | (at_mapUpdate; go_must (refine wpList_update_txt (B := W0.heap.size) (val := .bool true) rfl (.tmp 67) (.tmp 68) (.const (.bool true)) 133 rfl Tryz.underlying133 Tryz.underlying9 rfl HM4.out (by have := Hn.out; unfold maxLen; omega) rfl hsl rfl Hmb.out ?_); intro w7 hM7 hb7 hg7))
            go_roundw
            case rel => exact ⟨k + 1, n + 1, false, _, by omega, by go_num, rfl, Hb', Lib.hid hM7, Lib.hid (by have := Hn.out; omega), HFN, Lib.hid (HB4.out.trans hb7)⟩
            case measure => simp [intOf]; omega
          · have HNS := Lib.hid hns
            cases hcs : (t.ins.take k).contains s
            all_goals
              have HV : Hid ((f s).getD (.bool false) = .bool ((t.ins.take k).contains s)) := Lib.hid (by rw [Hf.out, hcs]; rfl)
              rw [hcs] at HV
              have Hb' := HGI.out
              rw [hcs, hns] at Hb'
              have Hb2 := Lib.hid (congrArg (gh && ·) Hb')
              have Hb3 := Lib.hid (Hb.out)
              clear hns hcs Hb'
              go_wp2_with (first | (go_at_call 115; go_must ((with_reducible refine (IsName_b HNS.out wr hsl).mono ?_); rintro e w4 ⟨rfl, hb4⟩; have HB4 := Lib.hid (HB.out.trans (hb4.mono HB.out.size)); have HM4 := Lib.hid (HM.out.below hb4); clear hb4)) | (at_lookup; go_must (refine wpList_lookup_txt (by rfl) (.tmp 62) (.tmp 63) 133 rfl Tryz.underlying133 Tryz.underlying9 (zeroBl _) rfl HM4.out rfl hsl HV.out ?_)) | (at_mapUpdate; go_must (refine wpList_update_txt (B := W0.heap.size) (val := .bool true) rfl (.tmp 67) (.tmp 68) (.const (.bool true)) 133 rfl Tryz.underlying133 Tryz.underlying9 rfl HM4.out (by have := Hn.out; unfold maxLen; omega) rfl hsl rfl Hmb.out ?_); intro w7 hM7 hb7 hg7))
              go_roundw
              case rel => exact ⟨k + 1, n + 1, _, _, by omega, by go_num, rfl, Lib.hid (by have h2 := Hb2.out; have h3 := Hb3.out; rw [h2, ← Bool.and_assoc, ← h3]; rfl), Lib.hid hM7, Lib.hid (by have := Hn.out; omega), HFN, Lib.hid (HB4.out.trans hb7)⟩
              case measure => simp [intOf]; omega
      · have Hb2 : Hid (b = (gh && goodIns [] t.ins)) := Lib.hid (by rw [Hb.out, List.take_of_length_le (by omega)])
        have f4 := (HB.out.cell (p := ⟨w.heap.size, 4, none⟩) hs0).trans c4
        clear HE' Hb HM Hn Hf HN0 HBN HBx Hmb
        go_wp2
        clear f4
        go_loopw [4, 73] (fun o i wr => ∃ (k : Nat) (b1 : Bool), k ≤ t.rules.length ∧ i = .int .i64 k ∧ o = .bool b1 ∧ Hid (b1 = (b && (t.rules.take k).all (goodRule t.ins.length))) ∧ Hid (Below W0.heap.size W0 wr)) (fun _ i _ => t.rules.length - (intOf i).toNat)
        case atStart => exact ⟨0, b, Nat.zero_le _, rfl, rfl, Lib.hid (by simp), HB⟩
        case round =>
          obtain ⟨k, b1, hk, rfl, rfl, Hb1, HBr⟩ := hrel
          by_cases hlt : k < t.rules.length
          · obtain ⟨bB, off, r, q, rfl, _, hbB, hx, hri, hq, h1, h2⟩ := HF'.out.rl hlt
            rw [← HBr.out.cell (p := ⟨bB, _, none⟩) hbB] at h1 h2
            have hq' := Rd.below hq HBr.out
            obtain ⟨A2, c2, rfl, _, _, hl2, hE2⟩ := rSl.elems hq'
            have hik : (k : Int) < (t.rules.length : Int) := by omega
            have hl2' : r.cells.length ≤ 4398046511104 := by simp only [rCl] at hl2; omega
            have HS1 : Hid ((t.rules.take (k + 1)).all (goodRule t.ins.length) = ((t.rules.take k).all (goodRule t.ins.length) && goodRule t.ins.length r)) := Lib.hid (all_take hx)
            obtain ⟨W1, e1, HB1, HE3, d0, d1, hs1⟩ : ∃ W1, wr.alloc (.cells #[.slice A2 r.cells.length c2, .int .i64 r.out] 93) = W1 ∧ Hid (Below W0.heap.size W0 W1) ∧
                Hid (Elems rCl W1 S A2 r.cells) ∧ W1.cell? ⟨wr.heap.size, 0, none⟩ = some (.slice A2 r.cells.length c2) ∧ W1.cell? ⟨wr.heap.size, 1, none⟩ = some (.int .i64 r.out) ∧ wr.heap.size < W1.heap.size :=
              ⟨_, rfl, Lib.hid (HBr.out.alloc HBr.out.size _), Lib.hid (hE2.keep (.alloc _)), World.cell?_alloc_new _ _ _ _, World.cell?_alloc_new _ _ _ _, by simp⟩
            clear hx hq hq' hE2 hl2
            go_upto_region 13 with fail
            clear h1 h2
            go_cut [4] (fun s4 wx => s4 = .bool (b1 && (isNum r.out && decide (r.cells.length = t.ins.length))) ∧ wx = W1)
            case first =>
              cases b1
              · go_wp2
                go_meet
                exact ⟨rfl, rfl⟩
              cases hnr : isNum r.out
              · have HNR := Lib.hid hnr
                clear hnr
                go_wp2_with (first | (go_at_call 116; go_must ((with_reducible refine (isNumber_b HNR.out W1).mono ?_); rintro e w' ⟨rfl, rfl⟩)))
                go_meet
                exact ⟨by rw [HNR.out]; rfl, rfl⟩
              have HNR := Lib.hid hnr
              clear hnr
              by_cases hlen : r.cells.length = t.ins.length
              · have hne : ((r.cells.length : Int) == (t.ins.length : Int)) = true := by rw [beq_iff_eq]; omega
                have HL := Lib.hid hlen
                clear hlen
                go_wp2_with (first | (go_at_call 116; go_must ((with_reducible refine (isNumber_b HNR.out W1).mono ?_); rintro e w' ⟨rfl, rfl⟩)))
                go_meet
                exact ⟨by rw [HNR.out, HL.out]; simp, rfl⟩
              · have hne : ((r.cells.length : Int) == (t.ins.length : Int)) = false := by rw [beq_eq_false_iff_ne]; omega
                have HL := Lib.hid hlen
                clear hlen
                go_wp2_with (first | (go_at_call 116; go_must ((with_reducible refine (isNumber_b HNR.out W1).mono ?_); rintro e w' ⟨rfl, rfl⟩)))
                go_meet
                exact ⟨by rw [HNR.out]; simp [HL.out], rfl⟩
            case rest =>
              obtain ⟨rfl, hw⟩ := hcut
              subst hw
              have HS2 : Hid ((b && (t.rules.take (k + 1)).all (goodRule t.ins.length)) = ((b1 && (isNum r.out && decide (r.cells.length = t.ins.length))) && r.cells.all goodCell)) := Lib.hid (by
                rw [HS1.out, Hb1.out]
                unfold goodRule
                simp only [Bool.and_assoc])
              obtain ⟨b2, hb2⟩ : ∃ b2, (b1 && (isNum r.out && decide (r.cells.length = t.ins.length))) = b2 := ⟨_, rfl⟩
              rw [hb2] at HS2
              rw [hb2]
              clear hb2 Hb1 HS1
              go_wp2
              clear d0 d1
              generalize wr.heap.size = p at *
              go_loopw [4, 93] (fun o i wi => ∃ (j : Nat) (b3 : Bool), j ≤ r.cells.length ∧ i = .int .i64 j ∧ o = .bool b3 ∧ Hid (b3 = (b2 && (r.cells.take j).all goodCell)) ∧ Hid (Below wc.heap.size wc wi)) (fun _ i _ => r.cells.length - (intOf i).toNat)
              case atStart => exact ⟨0, b2, Nat.zero_le _, rfl, rfl, Lib.hid (by simp), Lib.hid (Below.refl _ _)⟩
              case round =>
                obtain ⟨j, b3, hj, rfl, rfl, Hb3, HBi⟩ := hrel
                by_cases hlj : j < r.cells.length
                · obtain ⟨b1', off1, cl, q1, rfl, _, hb2, hx1, hq1, g1, g2⟩ := HE3.out.cl hlj
                  rw [← HBi.out.cell (p := ⟨b1', _, none⟩) hb2] at g1 g2
                  have hj1 : (j : Int) < (r.cells.length : Int) := by omega
                  have hq2 := Rd.below hq1 HBi.out
                  obtain ⟨A5, c5, rfl, _, _, hl5, _⟩ := rSl.elems hq1
                  have hl5' : cl.rs.length ≤ 8796093022208 := by simp only [rRg] at hl5; omega
                  have HS3 : Hid ((r.cells.take (j + 1)).all goodCell = ((r.cells.take j).all goodCell && goodCell cl)) := Lib.hid (all_take hx1)
                  clear hl5 hx1
                  generalize hm : cl.rs.length = m at *
                  generalize hno : cl.no = no at *
                  obtain ⟨W2, e2, HBj, HQ3, f0, f1⟩ : ∃ W2, wr.alloc (.cells #[.bool no, .slice A5 m c5] 97) = W2 ∧ Hid (Below wc.heap.size wc W2) ∧ Hid ((rSl rRg).rel W2 S [.slice A5 m c5] cl.rs) ∧
                      W2.cell? ⟨wr.heap.size, 0, none⟩ = some (.bool no) ∧ W2.cell? ⟨wr.heap.size, 1, none⟩ = some (.slice A5 m c5) :=
                    ⟨_, rfl, Lib.hid (HBi.out.alloc HBi.out.size _), Lib.hid (Rd.alloc hq2 _), World.cell?_alloc_new _ _ _ _, World.cell?_alloc_new _ _ _ _⟩
                  clear hq1 hq2
                  have HGC : Hid (goodCell cl = (decide (m ≤ 4) && isSet cl.rs && !(no && decide (m = 0)))) := Lib.hid (by rw [← hm, ← hno]; rfl)
                  obtain ⟨is, his⟩ : ∃ is, isSet cl.rs = is := ⟨_, rfl⟩
                  have HIS := Lib.hid his
                  rw [his] at HGC
                  clear hm hno his
                  cases b3
                  · go_wp2
                    go_roundw
                    case rel => exact ⟨j + 1, false, by omega, by go_num, rfl, Lib.hid (by rw [HS3.out, ← Bool.and_assoc, ← Hb3.out]; rfl), HBj⟩
                    case measure => simp [intOf]; omega
                  have HS4 : Hid (goodCell cl = (b2 && (r.cells.take (j + 1)).all goodCell)) := Lib.hid (by rw [HS3.out, ← Bool.and_assoc, ← Hb3.out]; rfl)
                  have h5 : 5 ≤ (m : Int) ∨ ((m : Int) < 5 ∧ is = false) ∨ ((m : Int) < 5 ∧ is = true ∧ no = false) ∨ ((m : Int) < 5 ∧ is = true ∧ no = true ∧ m = 0) ∨ ((m : Int) < 5 ∧ is = true ∧ no = true ∧ 0 < m) := by
                    cases is <;> cases no <;> simp <;> omega
                  rcases h5 with h5 | ⟨h5, rfl⟩ | ⟨h5, rfl, rfl⟩ | ⟨h5, rfl, rfl, rfl⟩ | ⟨h5, rfl, rfl, h7⟩
                  · have HF : Hid (goodCell cl = false) := Lib.hid (by rw [HGC.out, show decide (m ≤ 4) = false by simp; omega]; rfl)
                    go_wp2
                    go_roundw
                    case rel => exact ⟨j + 1, false, by omega, by go_num, rfl, Lib.hid (HF.out.symm.trans HS4.out), HBj⟩
                    case measure => simp [intOf]; omega
                  · have HF : Hid (goodCell cl = false) := Lib.hid (by rw [HGC.out]; simp)
                    go_wp2_with (first | (go_at_call 117; go_must ((with_reducible refine (IsSet_b W2 HQ3.out HIS.out).mono ?_); rintro e w4 ⟨rfl, hb4⟩; have HB4 := Lib.hid (HBj.out.trans (hb4.mono HBj.out.size)); clear hb4)))
                    go_roundw
                    case rel => exact ⟨j + 1, false, by omega, by go_num, rfl, Lib.hid (HF.out.symm.trans HS4.out), HB4⟩
                    case measure => simp [intOf]; omega
                  · have HF : Hid (goodCell cl = true) := Lib.hid (by rw [HGC.out, show decide (m ≤ 4) = true by simp; omega]; rfl)
                    have hwi : wr.heap.size < W2.heap.size := World.block_lt_of_cell? _ _ f0
                    go_wp2_with (first | (go_at_call 117; go_must ((with_reducible refine (IsSet_b W2 HQ3.out HIS.out).mono ?_); rintro e w4 ⟨rfl, hb4⟩; have HB4 := Lib.hid (HBj.out.trans (hb4.mono HBj.out.size)); have k0 := (hb4.cell (p := ⟨wr.heap.size, 0, none⟩) hwi).trans f0; have k1 := (hb4.cell (p := ⟨wr.heap.size, 1, none⟩) hwi).trans f1; clear hb4)))
                    go_roundw
                    case rel => exact ⟨j + 1, true, by omega, by go_num, rfl, Lib.hid (HF.out.symm.trans HS4.out), HB4⟩
                    case measure => simp [intOf]; omega
                  · have HF : Hid (goodCell cl = false) := Lib.hid (by rw [HGC.out]; simp)
                    have hwi : wr.heap.size < W2.heap.size := World.block_lt_of_cell? _ _ f0
                    go_wp2_with (first | (go_at_call 117; go_must ((with_reducible refine (IsSet_b W2 HQ3.out HIS.out).mono ?_); rintro e w4 ⟨rfl, hb4⟩; have HB4 := Lib.hid (HBj.out.trans (hb4.mono HBj.out.size)); have k0 := (hb4.cell (p := ⟨wr.heap.size, 0, none⟩) hwi).trans f0; have k1 := (hb4.cell (p := ⟨wr.heap.size, 1, none⟩) hwi).trans f1; clear hb4)))
                    go_roundw
                    case rel => exact ⟨j + 1, false, by omega, by go_num, rfl, Lib.hid (HF.out.symm.trans HS4.out), HB4⟩
                    case measure => simp [intOf]; omega
                  · have HF : Hid (goodCell cl = true) := Lib.hid (by rw [HGC.out, show decide (m ≤ 4) = true by simp; omega, show decide (m = 0) = false by simp; omega]; rfl)
                    have hwi : wr.heap.size < W2.heap.size := World.block_lt_of_cell? _ _ f0
                    have h8 : 0 < (m : Int) := by omega
                    go_wp2_with (first | (go_at_call 117; go_must ((with_reducible refine (IsSet_b W2 HQ3.out HIS.out).mono ?_); rintro e w4 ⟨rfl, hb4⟩; have HB4 := Lib.hid (HBj.out.trans (hb4.mono HBj.out.size)); have k0 := (hb4.cell (p := ⟨wr.heap.size, 0, none⟩) hwi).trans f0; have k1 := (hb4.cell (p := ⟨wr.heap.size, 1, none⟩) hwi).trans f1; clear hb4)))
                    go_roundw
                    case rel => exact ⟨j + 1, true, by omega, by go_num, rfl, Lib.hid (HF.out.symm.trans HS4.out), HB4⟩
                    case measure => simp [intOf]; omega
                · have Hb4 : Hid (b3 = (b && (t.rules.take (k + 1)).all (goodRule t.ins.length))) := Lib.hid (by rw [Hb3.out, HS2.out, List.take_of_length_le (by omega)])
                  go_wp2
                  go_roundw
                  case rel => exact ⟨k + 1, b3, by omega, by go_num, rfl, Hb4, Lib.hid (HB1.out.trans (HBi.out.mono HB1.out.size))⟩
                  case measure => simp [intOf]; omega
          · have HF : Hid (b1 = goodT t) := Lib.hid (by rw [Hb1.out, List.take_of_length_le (by omega), Hb2.out, HT.out])
            go_wp2
            go_ret
            exact ⟨ret_bool HF.out, HB0.out.trans (HBr.out.mono HB0.out.size)⟩

end Go.Proofs.YtlopccnehgolnabGreatDoor

namespace Go.Proofs.YtlopccnehgolnabGreatDoor
open Go.RowKit Rb

set_option maxRecDepth 100000 in
set_option maxHeartbeats 800000 in
theorem domainOf_any {S : Nat → Prop} {cs : List Value} {b : Bk} (s : Txt) (w : World) (hl : rBk.rel w S cs b) (_hs : s.length ≤ 140737488355328) :
    Calls Tryz.prog 72 #[.agg cs.toArray, .string ⟨s.toArray⟩] w fun e w' => e = .returned (.tuple #[.agg #[.string ⟨(dmOf (findD b.doms s)).name.toArray⟩, .int .i64 (dmOf (findD b.doms s)).lo, .int .i64 (dmOf (findD b.doms s)).hi], .bool (findD b.doms s).isSome]) ∧ Below w.heap.size w w' := by
  obtain ⟨v, u, rfl, hd, ht⟩ := hl
  obtain ⟨A, c, rfl, _, _, hbt, hF⟩ := rSl.elems hd
  obtain ⟨B, d, rfl, _⟩ := rSl.elems ht
  have hlt5 : b.doms.length ≤ 4398046511104 := by simp only [rDm] at hbt; omega
  obtain ⟨W1, e1, hb1, k1, f0, f1, f2, z0, z1, z2, hs1⟩ : ∃ W1, (w.alloc (.cells #[.slice A b.doms.length c, .slice B b.tabs.length d] 33)).alloc (.cells #[.string ⟨#[]⟩, .int .i64 0, .int .i64 0] 44) = W1 ∧ Below w.heap.size w W1 ∧
      W1.cell? ⟨w.heap.size, 0, none⟩ = some (.slice A b.doms.length c) ∧ W1.cell? ⟨w.heap.size + 1, 0, none⟩ = some (.string ⟨#[]⟩) ∧ W1.cell? ⟨w.heap.size + 1, 1, none⟩ = some (.int .i64 0) ∧ W1.cell? ⟨w.heap.size + 1, 2, none⟩ = some (.int .i64 0) ∧
      W1.frozen? ⟨w.heap.size + 1, 0, none⟩ = false ∧ W1.frozen? ⟨w.heap.size + 1, 1, none⟩ = false ∧ W1.frozen? ⟨w.heap.size + 1, 2, none⟩ = false ∧ w.heap.size + 1 < W1.heap.size := by
    have e : (w.alloc (.cells #[.slice A b.doms.length c, .slice B b.tabs.length d] 33)).heap.size = w.heap.size + 1 := by simp
    refine ⟨_, rfl, ((Below.refl _ _).alloc (Nat.le_refl _) _).alloc (by simp) _, (World.cell?_alloc_lt _ _ _ (by simp)).trans (World.cell?_alloc_new _ _ _ _), ?_, ?_, ?_, ?_, ?_, ?_, by simp⟩ <;> rw [← e] <;> first | exact World.cell?_alloc_new _ _ _ _ | simp
  clear hd ht hbt
  go_enter Tryz.func72, Tryz.ntmps72
  go_wp2
  clear e1
  generalize hq4 : w.heap.size + 1 = q4 at *
  have hq5 : w.heap.size ≤ q4 := by omega
  clear hq4
  go_loopw [10] (fun i wr => ∃ k : Nat, k ≤ b.doms.length ∧ i = .int .i64 k ∧ Hid (findD b.doms s = (b.doms.drop k).find? fun t => t.name == s) ∧ Hid (Below W1.heap.size W1 wr)) (fun i _ => b.doms.length - (intOf i).toNat)
  case atStart => exact ⟨0, Nat.zero_le _, rfl, Lib.hid rfl, Lib.hid (Below.refl _ _)⟩
  case round =>
    obtain ⟨k, hk, rfl, HI, HB⟩ := hrel
    have hbw := hb1.trans (HB.out.mono hb1.size)
    have kk := (HB.out.cell (p := ⟨w.heap.size, 0, none⟩) (by show w.heap.size < _; omega)).trans k1
    by_cases hlt : k < b.doms.length
    · obtain ⟨bB, off, x, rfl, hbB, hx, hr, g0, g1, g2⟩ := hF.dm hlt
      rw [← hbw.cell (p := ⟨bB, _, none⟩) hbB] at g0 g1 g2
      have hik : (k : Int) < (b.doms.length : Int) := by omega
      have HAT := Lib.hid (find_at (p := fun t : Dm => t.name == s) hx)
      clear hx hr
      cases hnm : (x.name == s)
      · have HI' := Lib.hid (HI.out.trans (by rw [HAT.out, if_neg (by simp [hnm])]))
        go_wp2
        go_roundw
        case rel => exact ⟨k + 1, by omega, by go_num, HI', HB⟩
        case measure => simp [intOf]; omega
      · have HF : Hid (findD b.doms s = some x) := Lib.hid (HI.out.trans (by rw [HAT.out, if_pos hnm]))
        have y0 : wr.frozen? ⟨q4, 0, none⟩ = false := (HB.out.frozen (p := ⟨q4, 0, none⟩) hs1).trans z0
        have y1 : wr.frozen? ⟨q4, 1, none⟩ = false := (HB.out.frozen (p := ⟨q4, 1, none⟩) hs1).trans z1
        have y2 : wr.frozen? ⟨q4, 2, none⟩ = false := (HB.out.frozen (p := ⟨q4, 2, none⟩) hs1).trans z2
        have p0 := (HB.out.cell (p := ⟨q4, 0, none⟩) hs1).trans f0
        have p1 := (HB.out.cell (p := ⟨q4, 1, none⟩) hs1).trans f1
        have p2 := (HB.out.cell (p := ⟨q4, 2, none⟩) hs1).trans f2
        obtain ⟨W4, e4, hB4, n0, n1, n2⟩ := store3 (.string ⟨x.name.toArray⟩) (.int .i64 x.lo) (.int .i64 x.hi) p0 p1 p2
        have HB4 := Lib.hid (hB4 _ hq5 _ hbw)
        clear hB4
        go_wp2
        refine bodyPost_ret (by simp [results, Tryz.results72, go_sem, n0, n1, n2]; rfl) rfl ?_
        exact ⟨by rw [HF.out]; rfl, HB4.out⟩
    · have HF : Hid (findD b.doms s = none) := Lib.hid (by rw [HI.out, List.drop_eq_nil_of_le (by omega)]; rfl)
      have y0 : wr.frozen? ⟨q4, 0, none⟩ = false := (HB.out.frozen (p := ⟨q4, 0, none⟩) hs1).trans z0
      have y1 : wr.frozen? ⟨q4, 1, none⟩ = false := (HB.out.frozen (p := ⟨q4, 1, none⟩) hs1).trans z1
      have y2 : wr.frozen? ⟨q4, 2, none⟩ = false := (HB.out.frozen (p := ⟨q4, 2, none⟩) hs1).trans z2
      have p0 := (HB.out.cell (p := ⟨q4, 0, none⟩) hs1).trans f0
      have p1 := (HB.out.cell (p := ⟨q4, 1, none⟩) hs1).trans f1
      have p2 := (HB.out.cell (p := ⟨q4, 2, none⟩) hs1).trans f2
      obtain ⟨W4, e4, hB4, n0, n1, n2⟩ := store3 (.string ⟨#[]⟩) (.int .i64 0) (.int .i64 0) p0 p1 p2
      have HB4 := Lib.hid (hB4 _ hq5 _ hbw)
      clear hB4
      go_wp2
      refine bodyPost_ret (by simp [results, Tryz.results72, go_sem, n0, n1, n2]; rfl) rfl ?_
      exact ⟨by rw [HF.out]; rfl, HB4.out⟩

set_option maxRecDepth 100000 in
set_option maxHeartbeats 800000 in
theorem tableNamed_any {S : Nat → Prop} {cs : List Value} {b : Bk} (s : Txt) (w : World) (hl : rBk.rel w S cs b) (_hs : s.length ≤ 140737488355328) :
    Calls Tryz.prog 78 #[.agg cs.toArray, .string ⟨s.toArray⟩] w fun e w' => ∃ cs' S', e = .returned (.tuple #[.agg (Array.mk cs'), .bool (findT b.tabs s).isSome]) ∧ rTb.rel w' S' cs' (tbOf (findT b.tabs s)) ∧ Below w.heap.size w w' := by
  obtain ⟨v, u, rfl, hd, ht⟩ := hl
  obtain ⟨A, c, rfl, _⟩ := rSl.elems hd
  obtain ⟨B, d, rfl, _, _, hbt, hF⟩ := rSl.elems ht
  have hlt5 : b.tabs.length ≤ 1759218604441 := by simp only [rTb] at hbt; omega
  obtain ⟨W1, e1, hb1, k1, f0, f1, f2, f3, f4, z0, z1, z2, z3, z4, hs1⟩ : ∃ W1, (w.alloc (.cells #[.slice A b.doms.length c, .slice B b.tabs.length d] 33)).alloc (.cells #[.string ⟨#[]⟩, .int .i64 0, .bool false, .slice none 0 0, .slice none 0 0] 42) = W1 ∧ Below w.heap.size w W1 ∧
      W1.cell? ⟨w.heap.size, 1, none⟩ = some (.slice B b.tabs.length d) ∧ W1.cell? ⟨w.heap.size + 1, 0, none⟩ = some (.string ⟨#[]⟩) ∧ W1.cell? ⟨w.heap.size + 1, 1, none⟩ = some (.int .i64 0) ∧ W1.cell? ⟨w.heap.size + 1, 2, none⟩ = some (.bool false) ∧ W1.cell? ⟨w.heap.size + 1, 3, none⟩ = some (.slice none 0 0) ∧ W1.cell? ⟨w.heap.size + 1, 4, none⟩ = some (.slice none 0 0) ∧
      W1.frozen? ⟨w.heap.size + 1, 0, none⟩ = false ∧ W1.frozen? ⟨w.heap.size + 1, 1, none⟩ = false ∧ W1.frozen? ⟨w.heap.size + 1, 2, none⟩ = false ∧ W1.frozen? ⟨w.heap.size + 1, 3, none⟩ = false ∧ W1.frozen? ⟨w.heap.size + 1, 4, none⟩ = false ∧ w.heap.size + 1 < W1.heap.size := by
    have e : (w.alloc (.cells #[.slice A b.doms.length c, .slice B b.tabs.length d] 33)).heap.size = w.heap.size + 1 := by simp
    refine ⟨_, rfl, ((Below.refl _ _).alloc (Nat.le_refl _) _).alloc (by simp) _, (World.cell?_alloc_lt _ _ _ (by simp)).trans (World.cell?_alloc_new _ _ _ _), ?_, ?_, ?_, ?_, ?_, ?_, ?_, ?_, ?_, ?_, by simp⟩ <;> rw [← e] <;> first | exact World.cell?_alloc_new _ _ _ _ | simp
  clear hd ht hbt
  go_enter Tryz.func78, Tryz.ntmps78
  go_wp2
  clear e1
  generalize hq4 : w.heap.size + 1 = q4 at *
  have hq5 : w.heap.size ≤ q4 := by omega
  clear hq4
  go_loopw [10] (fun i wr => ∃ k : Nat, k ≤ b.tabs.length ∧ i = .int .i64 k ∧ Hid (findT b.tabs s = (b.tabs.drop k).find? fun t => t.name == s) ∧ Hid (Below W1.heap.size W1 wr)) (fun i _ => b.tabs.length - (intOf i).toNat)
  case atStart => exact ⟨0, Nat.zero_le _, rfl, Lib.hid rfl, Lib.hid (Below.refl _ _)⟩
  case round =>
    obtain ⟨k, hk, rfl, HI, HB⟩ := hrel
    have hbw := hb1.trans (HB.out.mono hb1.size)
    have kk := (HB.out.cell (p := ⟨w.heap.size, 1, none⟩) (by show w.heap.size < _; omega)).trans k1
    by_cases hlt : k < b.tabs.length
    · obtain ⟨bB, off, x, A1, c1, A2, c2, rfl, hbB, hx, hr, g0, g1, g2, g3, g4⟩ := hF.tb hlt
      rw [← hbw.cell (p := ⟨bB, _, none⟩) hbB] at g0 g1 g2 g3 g4
      have hik : (k : Int) < (b.tabs.length : Int) := by omega
      have HAT := Lib.hid (find_at (p := fun t : Tb => t.name == s) hx)
      have HR := Lib.hid hr
      clear hx hr
      cases hnm : (x.name == s)
      · have HI' := Lib.hid (HI.out.trans (by rw [HAT.out, if_neg (by simp [hnm])]))
        go_wp2
        go_roundw
        case rel => exact ⟨k + 1, by omega, by go_num, HI', HB⟩
        case measure => simp [intOf]; omega
      · have HF : Hid (findT b.tabs s = some x) := Lib.hid (HI.out.trans (by rw [HAT.out, if_pos hnm]))
        have y0 : wr.frozen? ⟨q4, 0, none⟩ = false := (HB.out.frozen (p := ⟨q4, 0, none⟩) hs1).trans z0
        have y1 : wr.frozen? ⟨q4, 1, none⟩ = false := (HB.out.frozen (p := ⟨q4, 1, none⟩) hs1).trans z1
        have y2 : wr.frozen? ⟨q4, 2, none⟩ = false := (HB.out.frozen (p := ⟨q4, 2, none⟩) hs1).trans z2
        have y3 : wr.frozen? ⟨q4, 3, none⟩ = false := (HB.out.frozen (p := ⟨q4, 3, none⟩) hs1).trans z3
        have y4 : wr.frozen? ⟨q4, 4, none⟩ = false := (HB.out.frozen (p := ⟨q4, 4, none⟩) hs1).trans z4
        have p0 := (HB.out.cell (p := ⟨q4, 0, none⟩) hs1).trans f0
        have p1 := (HB.out.cell (p := ⟨q4, 1, none⟩) hs1).trans f1
        have p2 := (HB.out.cell (p := ⟨q4, 2, none⟩) hs1).trans f2
        have p3 := (HB.out.cell (p := ⟨q4, 3, none⟩) hs1).trans f3
        have p4 := (HB.out.cell (p := ⟨q4, 4, none⟩) hs1).trans f4
        obtain ⟨W4, e4, hB4, n0, n1, n2, n3, n4⟩ := store5 (.string ⟨x.name.toArray⟩) (.int .i64 x.pol) (.bool x.comp) (.slice A1 x.ins.length c1) (.slice A2 x.rules.length c2) p0 p1 p2 p3 p4
        have HB4 := Lib.hid (hB4 _ hq5 _ hbw)
        clear hB4
        go_wp2
        refine bodyPost_ret (by simp [results, Tryz.results78, go_sem, n0, n1, n2, n3, n4]; rfl) rfl ?_
        exact ⟨_, S, by rw [HF.out]; rfl, by rw [HF.out]; exact Rd.below HR.out HB4.out, HB4.out⟩
    · have HF : Hid (findT b.tabs s = none) := Lib.hid (by rw [HI.out, List.drop_eq_nil_of_le (by omega)]; rfl)
      have y0 : wr.frozen? ⟨q4, 0, none⟩ = false := (HB.out.frozen (p := ⟨q4, 0, none⟩) hs1).trans z0
      have y1 : wr.frozen? ⟨q4, 1, none⟩ = false := (HB.out.frozen (p := ⟨q4, 1, none⟩) hs1).trans z1
      have y2 : wr.frozen? ⟨q4, 2, none⟩ = false := (HB.out.frozen (p := ⟨q4, 2, none⟩) hs1).trans z2
      have y3 : wr.frozen? ⟨q4, 3, none⟩ = false := (HB.out.frozen (p := ⟨q4, 3, none⟩) hs1).trans z3
      have y4 : wr.frozen? ⟨q4, 4, none⟩ = false := (HB.out.frozen (p := ⟨q4, 4, none⟩) hs1).trans z4
      have p0 := (HB.out.cell (p := ⟨q4, 0, none⟩) hs1).trans f0
      have p1 := (HB.out.cell (p := ⟨q4, 1, none⟩) hs1).trans f1
      have p2 := (HB.out.cell (p := ⟨q4, 2, none⟩) hs1).trans f2
      have p3 := (HB.out.cell (p := ⟨q4, 3, none⟩) hs1).trans f3
      have p4 := (HB.out.cell (p := ⟨q4, 4, none⟩) hs1).trans f4
      obtain ⟨W4, e4, hB4, n0, n1, n2, n3, n4⟩ := store5 (.string ⟨#[]⟩) (.int .i64 0) (.bool false) (.slice none 0 0) (.slice none 0 0) p0 p1 p2 p3 p4
      have HB4 := Lib.hid (hB4 _ hq5 _ hbw)
      clear hB4
      go_wp2
      refine bodyPost_ret (by simp [results, Tryz.results78, go_sem, n0, n1, n2, n3, n4]; rfl) rfl ?_
      exact ⟨_, fun _ => True, by rw [HF.out]; rfl, by rw [HF.out]; exact tb0_rel _, HB4.out⟩

end Go.Proofs.YtlopccnehgolnabGreatDoor

namespace Go.Proofs.YtlopccnehgolnabGreatDoor
open Go.RowKit Rb

theorem tableNamed_at {S : Nat → Prop} {cs : List Value} {b : Bk} {s : Txt} {t : Tb} {is : Bool} (w : World) (hl : rBk.rel w S cs b) (hs : s.length ≤ 140737488355328) (h1 : tbOf (findT b.tabs s) = t) (h2 : (findT b.tabs s).isSome = is) :
    Calls Tryz.prog 78 #[.agg cs.toArray, .string ⟨s.toArray⟩] w fun e w' => ∃ A c B d S', e = .returned (.tuple #[.agg #[.string ⟨t.name.toArray⟩, .int .i64 t.pol, .bool t.comp, .slice A t.ins.length c, .slice B t.rules.length d], .bool is]) ∧ rTb.rel w' S' [.string ⟨t.name.toArray⟩, .int .i64 t.pol, .bool t.comp, .slice A t.ins.length c, .slice B t.rules.length d] t ∧ Below w.heap.size w w' := by
  subst h1 h2
  refine (tableNamed_any s w hl hs).mono ?_
  rintro e w' ⟨cs', S', rfl, hr, hb⟩
  have hr' := hr
  obtain ⟨v, u, rfl, _, _, h1, h2⟩ := hr
  obtain ⟨A1, c1, rfl, _⟩ := rSl.elems h1
  obtain ⟨A2, c2, rfl, _⟩ := rSl.elems h2
  exact ⟨A1, c1, A2, c2, S', rfl, hr', hb⟩

theorem goodD_eq (d : Dm) : (named d.name && isNum d.lo && isNum d.hi && decide (d.lo ≤ d.hi)) = goodD d := by
  unfold goodD isNum MX
  rw [Bool.eq_iff_iff]
  simp only [Bool.and_eq_true, decide_eq_true_eq]
  constructor
  · rintro ⟨⟨⟨h1, h2⟩, h3⟩, h4⟩; refine ⟨h1, ?_, h4, ?_⟩ <;> omega
  · rintro ⟨h1, h2, h3, h4⟩; refine ⟨⟨⟨h1, ?_⟩, ?_⟩, h3⟩ <;> omega

theorem IsDomain_any (d : Dm) (w : World) (hs : d.name.length ≤ 140737488355328) :
    Calls Tryz.prog 71 #[.agg #[.string ⟨d.name.toArray⟩, .int .i64 d.lo, .int .i64 d.hi]] w fun e w' => e = .returned (.bool (goodD d)) ∧ Below w.heap.size w w' := by
  obtain ⟨W0, e0, hb0, c0, c1, c2, hs0⟩ : ∃ W0, w.alloc (.cells #[.string ⟨d.name.toArray⟩, .int .i64 d.lo, .int .i64 d.hi] 44) = W0 ∧ Below w.heap.size w W0 ∧ W0.cell? ⟨w.heap.size, 0, none⟩ = some (.string ⟨d.name.toArray⟩) ∧ W0.cell? ⟨w.heap.size, 1, none⟩ = some (.int .i64 d.lo) ∧ W0.cell? ⟨w.heap.size, 2, none⟩ = some (.int .i64 d.hi) ∧ w.heap.size < W0.heap.size :=
    ⟨_, rfl, (Below.refl _ _).alloc (Nat.le_refl _) _, World.cell?_alloc_new _ _ _ _, World.cell?_alloc_new _ _ _ _, World.cell?_alloc_new _ _ _ _, by simp⟩
  have HB0 := Lib.hid hb0
  have HQ := Lib.hid (goodD_eq d)
  obtain ⟨n1, h1⟩ : ∃ x, named d.name = x := ⟨_, rfl⟩
  obtain ⟨n2, h2⟩ : ∃ x, isNum d.lo = x := ⟨_, rfl⟩
  obtain ⟨n3, h3⟩ : ∃ x, isNum d.hi = x := ⟨_, rfl⟩
  have HN1 := Lib.hid h1
  have HN2 := Lib.hid h2
  have HN3 := Lib.hid h3
  rw [h1, h2, h3] at HQ
  clear h1 h2 h3 hb0
  cases n1 <;> cases n2 <;> cases n3
  all_goals
    go_enter Tryz.func71, Tryz.ntmps71
    go_wp2_with (first
      | (go_at_call 115; go_must ((with_reducible refine (IsName_b HN1.out _ hs).mono ?_); rintro e w1 ⟨rfl, hb1⟩; have d0 := (hb1.cell (p := ⟨w.heap.size, 0, none⟩) hs0).trans c0; have d1 := (hb1.cell (p := ⟨w.heap.size, 1, none⟩) hs0).trans c1; have d2 := (hb1.cell (p := ⟨w.heap.size, 2, none⟩) hs0).trans c2; have HB1 := Lib.hid (HB0.out.trans (hb1.mono HB0.out.size)); clear hb1))
      | (go_at_call 116; first | ((with_reducible refine (isNumber_b HN2.out _).mono ?_); rintro e w2 ⟨rfl, rfl⟩) | ((with_reducible refine (isNumber_b HN3.out _).mono ?_); rintro e w2 ⟨rfl, rfl⟩)))
    go_ret
    refine ⟨?_, HB1.out⟩
    rw [← HQ.out]
    first | rfl | (congr 2; simp)

def hangsN (b : Bk) : Nat → Txt → Txt → Bool
  | 0, a, on => (tbOf (findT b.tabs a)).ins.any fun s => (findT b.tabs s).isSome && s == on
  | n + 1, a, on => (tbOf (findT b.tabs a)).ins.any fun s => (findT b.tabs s).isSome && (s == on || hangsN b n s on)

theorem any_at {α : Type} {p : α → Bool} {l : List α} {k : Nat} {x : α} (h : l[k]? = some x) : (l.drop k).any p = (p x || (l.drop (k + 1)).any p) := by
  rw [drop_cons h, List.any_cons]

set_option maxRecDepth 100000 in
set_option maxHeartbeats 1600000 in
theorem hangs_any {S : Nat → Prop} {cs : List Value} {b : Bk} : ∀ (n : Nat) (a on : Txt) (w : World), n ≤ 100 → rBk.rel w S cs b → a.length ≤ 140737488355328 → on.length ≤ 140737488355328 →
    Calls Tryz.prog 77 #[.agg cs.toArray, .string ⟨a.toArray⟩, .string ⟨on.toArray⟩, .int .i64 n] w fun e w' => e = .returned (.bool (hangsN b n a on)) ∧ Below w.heap.size w w' := by
  intro n
  induction n with
  | zero =>
    intro a on w hn hl ha ho
    have hl0 := hl
    obtain ⟨v, u, rfl, hd, ht⟩ := hl
    obtain ⟨A, c, rfl, _⟩ := rSl.elems hd
    obtain ⟨B, d, rfl, _⟩ := rSl.elems ht
    obtain ⟨W0, e0, HB0, HK, c0, c1, hs0⟩ : ∃ W0, w.alloc (.cells #[.slice A b.doms.length c, .slice B b.tabs.length d] 33) = W0 ∧ Hid (Below w.heap.size w W0) ∧ Hid (rBk.rel W0 S [.slice A b.doms.length c, .slice B b.tabs.length d] b) ∧ W0.cell? ⟨w.heap.size, 0, none⟩ = some (.slice A b.doms.length c) ∧ W0.cell? ⟨w.heap.size, 1, none⟩ = some (.slice B b.tabs.length d) ∧ w.heap.size < W0.heap.size :=
      ⟨_, rfl, Lib.hid ((Below.refl _ _).alloc (Nat.le_refl _) _), Lib.hid (Rd.alloc hl0 _), World.cell?_alloc_new _ _ _ _, World.cell?_alloc_new _ _ _ _, by simp⟩
    obtain ⟨t, ht⟩ : ∃ t, tbOf (findT b.tabs a) = t := ⟨_, rfl⟩
    obtain ⟨is, hi⟩ : ∃ x, (findT b.tabs a).isSome = x := ⟨_, rfl⟩
    have HT := Lib.hid ht
    have HIS := Lib.hid hi
    have HS0 := Lib.hid hs0
    have HC0 := Lib.hid c0
    have HC1 := Lib.hid c1
    obtain ⟨p, hp⟩ : ∃ p : Txt → Bool, p = fun s => (findT b.tabs s).isSome && s == on := ⟨_, rfl⟩
    have HP := Lib.hid hp
    have HG : Hid (hangsN b (0) a on = t.ins.any p) := Lib.hid (by rw [← ht, hp]; rfl)
    clear hl0 hd ht hi hs0 hp
    go_enter Tryz.func77, Tryz.ntmps77
    go_wp2_with (first | (go_at_call 78; go_must ((with_reducible refine (tableNamed_at W0 HK.out ha HT.out HIS.out).mono ?_); rintro e w1 ⟨A1, c1', B1, d1, S1, rfl, hr1, hb1⟩; have HB1 := Lib.hid hb1; obtain ⟨W2, e2, HB2, HR2, f3⟩ : ∃ W2, w1.alloc (.cells #[.string ⟨t.name.toArray⟩, .int .i64 t.pol, .bool t.comp, .slice A1 t.ins.length c1', .slice B1 t.rules.length d1] 42) = W2 ∧ Hid (Below W0.heap.size W0 W2) ∧ Hid (rTb.rel W2 S1 [.string ⟨t.name.toArray⟩, .int .i64 t.pol, .bool t.comp, .slice A1 t.ins.length c1', .slice B1 t.rules.length d1] t) ∧ W2.cell? ⟨w1.heap.size, 3, none⟩ = some (.slice A1 t.ins.length c1') := ⟨_, rfl, Lib.hid (hb1.alloc hb1.size _), Lib.hid (Rd.alloc hr1 _), World.cell?_alloc_new _ _ _ _⟩; clear hb1 hr1)))
    obtain ⟨HE, hil⟩ : Hid (Elems rStr W2 S1 A1 t.ins) ∧ t.ins.length ≤ 17592186044416 := by
      obtain ⟨vi, vr, e, _, _, hi, _⟩ := HR2.out
      obtain ⟨rfl, rfl⟩ : Value.slice A1 t.ins.length c1' = vi ∧ Value.slice B1 t.rules.length d1 = vr := by simpa using e
      obtain ⟨A', c', e', _, _, h3, hE⟩ := rSl.elems hi
      injection e' with e1 e2 e3
      subst e1
      exact ⟨Lib.hid hE, by simp only [rStr] at h3; omega⟩
    clear e0 e2 c0 c1 f3
    go_loopw [24] (fun i wr => ∃ k : Nat, k ≤ t.ins.length ∧ i = .int .i64 k ∧ Hid (hangsN b (0) a on = (t.ins.drop k).any p) ∧ Hid (Below W2.heap.size W2 wr)) (fun i _ => t.ins.length - (intOf i).toNat)
    case atStart => exact ⟨0, Nat.zero_le _, rfl, HG, Lib.hid (Below.refl _ _)⟩
    case round =>
      clear HG HT HIS
      obtain ⟨k, hk, rfl, HI, HB⟩ := hrel
      have HBR : Hid (Below W0.heap.size W0 wr) := Lib.hid (HB2.out.trans (HB.out.mono HB2.out.size))
      have HFIN : Hid (Below w.heap.size w wr) := Lib.hid (HB0.out.trans (HBR.out.mono HB0.out.size))
      have d0 := (HBR.out.cell (p := ⟨w.heap.size, 0, none⟩) HS0.out).trans HC0.out
      have d1' := (HBR.out.cell (p := ⟨w.heap.size, 1, none⟩) HS0.out).trans HC1.out
      by_cases hlt : k < t.ins.length
      · obtain ⟨bB, off, s, rfl, _, hbB, hx, hsl, g1⟩ := HE.out.str hlt
        have g2 := (HB.out.cell (p := ⟨bB, off + k, none⟩) hbB).trans g1
        have hik : (k : Int) < (t.ins.length : Int) := by omega
        have HKR := Lib.hid (Rd.below HK.out HBR.out)
        have HAT := Lib.hid (any_at (p := p) hx)
        obtain ⟨t2, ht2⟩ : ∃ t, tbOf (findT b.tabs s) = t := ⟨_, rfl⟩
        obtain ⟨is2, hi2⟩ : ∃ x, (findT b.tabs s).isSome = x := ⟨_, rfl⟩
        have HT2 := Lib.hid ht2
        have HI2 := Lib.hid hi2
        clear ht2 hi2 hx g1
        cases is2
        · have HN : Hid (hangsN b (0) a on = (t.ins.drop (k + 1)).any p) := Lib.hid (by rw [HI.out, HAT.out, show p s = false by rw [HP.out]; simp [HI2.out]]; rfl)
          go_wp2_with (first | (go_at_call 78; go_must ((with_reducible refine (tableNamed_at wr HKR.out hsl HT2.out HI2.out).mono ?_); rintro e w4 ⟨A4, c4, B4, d4, S4, rfl, hr4, hb4⟩; have HB4 := Lib.hid (HB.out.trans ((hb4.alloc hb4.size (.cells #[.string ⟨t2.name.toArray⟩, .int .i64 t2.pol, .bool t2.comp, .slice A4 t2.ins.length c4, .slice B4 t2.rules.length d4] 42)).mono HB.out.size)); clear hr4 hb4)))
          go_roundw
          case rel => exact ⟨k + 1, by omega, by go_num, HN, HB4⟩
          case measure => simp [intOf]; omega
        cases hso : s == on
        · have HSO := Lib.hid hso
          have HN : Hid (hangsN b (0) a on = (t.ins.drop (k + 1)).any p) := Lib.hid (by rw [HI.out, HAT.out, show p s = false by rw [HP.out]; simp [HI2.out, HSO.out]]; rfl)
          go_wp2_with (first | (go_at_call 78; go_must ((with_reducible refine (tableNamed_at wr HKR.out hsl HT2.out HI2.out).mono ?_); rintro e w4 ⟨A4, c4, B4, d4, S4, rfl, hr4, hb4⟩; obtain ⟨W5, e5, HB5⟩ : ∃ W5, w4.alloc (.cells #[.string ⟨t2.name.toArray⟩, .int .i64 t2.pol, .bool t2.comp, .slice A4 t2.ins.length c4, .slice B4 t2.rules.length d4] 42) = W5 ∧ Hid (Below wr.heap.size wr W5) := ⟨_, rfl, Lib.hid (hb4.alloc hb4.size _)⟩; have q0 := (HB5.out.cell (p := ⟨w.heap.size, 0, none⟩) (Nat.lt_of_lt_of_le HS0.out HBR.out.size)).trans d0; have q1 := (HB5.out.cell (p := ⟨w.heap.size, 1, none⟩) (Nat.lt_of_lt_of_le HS0.out HBR.out.size)).trans d1'; clear hr4 hb4)))
          go_roundw
          case rel => exact ⟨k + 1, by omega, by go_num, HN, Lib.hid (HB.out.trans (HB5.out.mono HB.out.size))⟩
          case measure => simp [intOf]; omega
        · have HSO := Lib.hid hso
          have HY : Hid (hangsN b (0) a on = true) := Lib.hid (by rw [HI.out, HAT.out, show p s = true by rw [HP.out]; simp [HI2.out, HSO.out]]; rfl)
          go_wp2_with (first | (go_at_call 78; go_must ((with_reducible refine (tableNamed_at wr HKR.out hsl HT2.out HI2.out).mono ?_); rintro e w4 ⟨A4, c4, B4, d4, S4, rfl, hr4, hb4⟩; obtain ⟨W5, e5, HB5⟩ : ∃ W5, w4.alloc (.cells #[.string ⟨t2.name.toArray⟩, .int .i64 t2.pol, .bool t2.comp, .slice A4 t2.ins.length c4, .slice B4 t2.rules.length d4] 42) = W5 ∧ Hid (Below wr.heap.size wr W5) := ⟨_, rfl, Lib.hid (hb4.alloc hb4.size _)⟩; have q0 := (HB5.out.cell (p := ⟨w.heap.size, 0, none⟩) (Nat.lt_of_lt_of_le HS0.out HBR.out.size)).trans d0; have q1 := (HB5.out.cell (p := ⟨w.heap.size, 1, none⟩) (Nat.lt_of_lt_of_le HS0.out HBR.out.size)).trans d1'; clear hr4 hb4)))
          go_ret
          exact ⟨by rw [HY.out]; rfl, HFIN.out.trans (HB5.out.mono HFIN.out.size)⟩
      · have HN : Hid (hangsN b (0) a on = false) := Lib.hid (by rw [HI.out, List.drop_eq_nil_of_le (show t.ins.length ≤ k by omega)]; rfl)
        go_wp2
        go_ret
        exact ⟨by rw [HN.out]; rfl, HFIN.out⟩
  | succ n ih =>
    intro a on w hn hl ha ho
    have hl0 := hl
    obtain ⟨v, u, rfl, hd, ht⟩ := hl
    obtain ⟨A, c, rfl, _⟩ := rSl.elems hd
    obtain ⟨B, d, rfl, _⟩ := rSl.elems ht
    obtain ⟨W0, e0, HB0, HK, c0, c1, hs0⟩ : ∃ W0, w.alloc (.cells #[.slice A b.doms.length c, .slice B b.tabs.length d] 33) = W0 ∧ Hid (Below w.heap.size w W0) ∧ Hid (rBk.rel W0 S [.slice A b.doms.length c, .slice B b.tabs.length d] b) ∧ W0.cell? ⟨w.heap.size, 0, none⟩ = some (.slice A b.doms.length c) ∧ W0.cell? ⟨w.heap.size, 1, none⟩ = some (.slice B b.tabs.length d) ∧ w.heap.size < W0.heap.size :=
      ⟨_, rfl, Lib.hid ((Below.refl _ _).alloc (Nat.le_refl _) _), Lib.hid (Rd.alloc hl0 _), World.cell?_alloc_new _ _ _ _, World.cell?_alloc_new _ _ _ _, by simp⟩
    obtain ⟨t, ht⟩ : ∃ t, tbOf (findT b.tabs a) = t := ⟨_, rfl⟩
    obtain ⟨is, hi⟩ : ∃ x, (findT b.tabs a).isSome = x := ⟨_, rfl⟩
    have HT := Lib.hid ht
    have HIS := Lib.hid hi
    have HS0 := Lib.hid hs0
    have HC0 := Lib.hid c0
    have HC1 := Lib.hid c1
    obtain ⟨p, hp⟩ : ∃ p : Txt → Bool, p = fun s => (findT b.tabs s).isSome && (s == on || hangsN b n s on) := ⟨_, rfl⟩
    have HP := Lib.hid hp
    have HG : Hid (hangsN b (n + 1) a on = t.ins.any p) := Lib.hid (by rw [← ht, hp]; rfl)
    have HIH := Lib.hid fun a w hl ha => ih a on w (by omega) hl ha ho
    have hwn : IntKind.i64.wrap (((n + 1 : Nat) : Int) - 1) = n := (IntWalk.i64_in _ (by omega)).trans (by omega)
    have hwn2 : IntKind.i64.wrap ((n : Int) + 1 - 1) = n := (IntWalk.i64_in _ (by omega)).trans (by omega)
    have hpos : (0 : Int) < (n : Int) + 1 := by omega
    clear ih
    clear hl0 hd ht hi hs0 hp
    go_enter Tryz.func77, Tryz.ntmps77
    go_wp2_with (first | (go_at_call 78; go_must ((with_reducible refine (tableNamed_at W0 HK.out ha HT.out HIS.out).mono ?_); rintro e w1 ⟨A1, c1', B1, d1, S1, rfl, hr1, hb1⟩; have HB1 := Lib.hid hb1; obtain ⟨W2, e2, HB2, HR2, f3⟩ : ∃ W2, w1.alloc (.cells #[.string ⟨t.name.toArray⟩, .int .i64 t.pol, .bool t.comp, .slice A1 t.ins.length c1', .slice B1 t.rules.length d1] 42) = W2 ∧ Hid (Below W0.heap.size W0 W2) ∧ Hid (rTb.rel W2 S1 [.string ⟨t.name.toArray⟩, .int .i64 t.pol, .bool t.comp, .slice A1 t.ins.length c1', .slice B1 t.rules.length d1] t) ∧ W2.cell? ⟨w1.heap.size, 3, none⟩ = some (.slice A1 t.ins.length c1') := ⟨_, rfl, Lib.hid (hb1.alloc hb1.size _), Lib.hid (Rd.alloc hr1 _), World.cell?_alloc_new _ _ _ _⟩; clear hb1 hr1)))
    obtain ⟨HE, hil⟩ : Hid (Elems rStr W2 S1 A1 t.ins) ∧ t.ins.length ≤ 17592186044416 := by
      obtain ⟨vi, vr, e, _, _, hi, _⟩ := HR2.out
      obtain ⟨rfl, rfl⟩ : Value.slice A1 t.ins.length c1' = vi ∧ Value.slice B1 t.rules.length d1 = vr := by simpa using e
      obtain ⟨A', c', e', _, _, h3, hE⟩ := rSl.elems hi
      injection e' with e1 e2 e3
      subst e1
      exact ⟨Lib.hid hE, by simp only [rStr] at h3; omega⟩
    clear e0 e2 c0 c1 f3
    go_loopw [24] (fun i wr => ∃ k : Nat, k ≤ t.ins.length ∧ i = .int .i64 k ∧ Hid (hangsN b (n + 1) a on = (t.ins.drop k).any p) ∧ Hid (Below W2.heap.size W2 wr)) (fun i _ => t.ins.length - (intOf i).toNat)
    case atStart => exact ⟨0, Nat.zero_le _, rfl, HG, Lib.hid (Below.refl _ _)⟩
    case round =>
      clear HG HT HIS
      obtain ⟨k, hk, rfl, HI, HB⟩ := hrel
      have HBR : Hid (Below W0.heap.size W0 wr) := Lib.hid (HB2.out.trans (HB.out.mono HB2.out.size))
      have HFIN : Hid (Below w.heap.size w wr) := Lib.hid (HB0.out.trans (HBR.out.mono HB0.out.size))
      have d0 := (HBR.out.cell (p := ⟨w.heap.size, 0, none⟩) HS0.out).trans HC0.out
      have d1' := (HBR.out.cell (p := ⟨w.heap.size, 1, none⟩) HS0.out).trans HC1.out
      by_cases hlt : k < t.ins.length
      · obtain ⟨bB, off, s, rfl, _, hbB, hx, hsl, g1⟩ := HE.out.str hlt
        have g2 := (HB.out.cell (p := ⟨bB, off + k, none⟩) hbB).trans g1
        have hik : (k : Int) < (t.ins.length : Int) := by omega
        have HKR := Lib.hid (Rd.below HK.out HBR.out)
        have HAT := Lib.hid (any_at (p := p) hx)
        obtain ⟨t2, ht2⟩ : ∃ t, tbOf (findT b.tabs s) = t := ⟨_, rfl⟩
        obtain ⟨is2, hi2⟩ : ∃ x, (findT b.tabs s).isSome = x := ⟨_, rfl⟩
        have HT2 := Lib.hid ht2
        have HI2 := Lib.hid hi2
        clear ht2 hi2 hx g1
        cases is2
        · have HN : Hid (hangsN b (n + 1) a on = (t.ins.drop (k + 1)).any p) := Lib.hid (by rw [HI.out, HAT.out, show p s = false by rw [HP.out]; simp [HI2.out]]; rfl)
          go_wp2_with (first | (go_at_call 78; go_must ((with_reducible refine (tableNamed_at wr HKR.out hsl HT2.out HI2.out).mono ?_); rintro e w4 ⟨A4, c4, B4, d4, S4, rfl, hr4, hb4⟩; have HB4 := Lib.hid (HB.out.trans ((hb4.alloc hb4.size (.cells #[.string ⟨t2.name.toArray⟩, .int .i64 t2.pol, .bool t2.comp, .slice A4 t2.ins.length c4, .slice B4 t2.rules.length d4] 42)).mono HB.out.size)); clear hr4 hb4)))
          go_roundw
          case rel => exact ⟨k + 1, by omega, by go_num, HN, HB4⟩
          case measure => simp [intOf]; omega
        cases hso : s == on
        · have HSO := Lib.hid hso
          have HCA := Lib.hid fun w' (hb : Below wr.heap.size wr w') => HIH.out s w' (Rd.below HKR.out hb) hsl
          cases hr : hangsN b n s on
          · have HSR := Lib.hid hr
            rw [hr] at HCA
            clear hr
            have HN : Hid (hangsN b (n + 1) a on = (t.ins.drop (k + 1)).any p) := Lib.hid (by rw [HI.out, HAT.out, show p s = false by rw [HP.out]; simp [HI2.out, HSO.out, HSR.out]]; rfl)
            go_wp2_with (first | (go_at_call 78; go_must ((with_reducible refine (tableNamed_at wr HKR.out hsl HT2.out HI2.out).mono ?_); rintro e w4 ⟨A4, c4, B4, d4, S4, rfl, hr4, hb4⟩; obtain ⟨W5, e5, HB5⟩ : ∃ W5, w4.alloc (.cells #[.string ⟨t2.name.toArray⟩, .int .i64 t2.pol, .bool t2.comp, .slice A4 t2.ins.length c4, .slice B4 t2.rules.length d4] 42) = W5 ∧ Hid (Below wr.heap.size wr W5) := ⟨_, rfl, Lib.hid (hb4.alloc hb4.size _)⟩; have q0 := (HB5.out.cell (p := ⟨w.heap.size, 0, none⟩) (Nat.lt_of_lt_of_le HS0.out HBR.out.size)).trans d0; have q1 := (HB5.out.cell (p := ⟨w.heap.size, 1, none⟩) (Nat.lt_of_lt_of_le HS0.out HBR.out.size)).trans d1'; clear hr4 hb4)) | (go_at_call 77; go_must ((with_reducible refine (HCA.out W5 HB5.out).mono ?_); rintro e w6 ⟨rfl, hb6⟩; have HB6 := Lib.hid (HB5.out.trans (hb6.mono HB5.out.size)); clear hb6)))
            go_roundw
            case rel => exact ⟨k + 1, by omega, by go_num, HN, Lib.hid (HB.out.trans (HB6.out.mono HB.out.size))⟩
            case measure => simp [intOf]; omega
          · have HSR := Lib.hid hr
            rw [hr] at HCA
            clear hr
            have HY : Hid (hangsN b (n + 1) a on = true) := Lib.hid (by rw [HI.out, HAT.out, show p s = true by rw [HP.out]; simp [HI2.out, HSO.out, HSR.out]]; rfl)
            go_wp2_with (first | (go_at_call 78; go_must ((with_reducible refine (tableNamed_at wr HKR.out hsl HT2.out HI2.out).mono ?_); rintro e w4 ⟨A4, c4, B4, d4, S4, rfl, hr4, hb4⟩; obtain ⟨W5, e5, HB5⟩ : ∃ W5, w4.alloc (.cells #[.string ⟨t2.name.toArray⟩, .int .i64 t2.pol, .bool t2.comp, .slice A4 t2.ins.length c4, .slice B4 t2.rules.length d4] 42) = W5 ∧ Hid (Below wr.heap.size wr W5) := ⟨_, rfl, Lib.hid (hb4.alloc hb4.size _)⟩; have q0 := (HB5.out.cell (p := ⟨w.heap.size, 0, none⟩) (Nat.lt_of_lt_of_le HS0.out HBR.out.size)).trans d0; have q1 := (HB5.out.cell (p := ⟨w.heap.size, 1, none⟩) (Nat.lt_of_lt_of_le HS0.out HBR.out.size)).trans d1'; clear hr4 hb4)) | (go_at_call 77; go_must ((with_reducible refine (HCA.out W5 HB5.out).mono ?_); rintro e w6 ⟨rfl, hb6⟩; have HB6 := Lib.hid (HB5.out.trans (hb6.mono HB5.out.size)); clear hb6)))
            go_ret
            exact ⟨by rw [HY.out]; rfl, HFIN.out.trans (HB6.out.mono HFIN.out.size)⟩
        · have HSO := Lib.hid hso
          have HY : Hid (hangsN b (n + 1) a on = true) := Lib.hid (by rw [HI.out, HAT.out, show p s = true by rw [HP.out]; simp [HI2.out, HSO.out]]; rfl)
          go_wp2_with (first | (go_at_call 78; go_must ((with_reducible refine (tableNamed_at wr HKR.out hsl HT2.out HI2.out).mono ?_); rintro e w4 ⟨A4, c4, B4, d4, S4, rfl, hr4, hb4⟩; obtain ⟨W5, e5, HB5⟩ : ∃ W5, w4.alloc (.cells #[.string ⟨t2.name.toArray⟩, .int .i64 t2.pol, .bool t2.comp, .slice A4 t2.ins.length c4, .slice B4 t2.rules.length d4] 42) = W5 ∧ Hid (Below wr.heap.size wr W5) := ⟨_, rfl, Lib.hid (hb4.alloc hb4.size _)⟩; have q0 := (HB5.out.cell (p := ⟨w.heap.size, 0, none⟩) (Nat.lt_of_lt_of_le HS0.out HBR.out.size)).trans d0; have q1 := (HB5.out.cell (p := ⟨w.heap.size, 1, none⟩) (Nat.lt_of_lt_of_le HS0.out HBR.out.size)).trans d1'; clear hr4 hb4)))
          go_ret
          exact ⟨by rw [HY.out]; rfl, HFIN.out.trans (HB5.out.mono HFIN.out.size)⟩
      · have HN : Hid (hangsN b (n + 1) a on = false) := Lib.hid (by rw [HI.out, List.drop_eq_nil_of_le (show t.ins.length ≤ k by omega)]; rfl)
        go_wp2
        go_ret
        exact ⟨by rw [HN.out]; rfl, HFIN.out⟩

end Go.Proofs.YtlopccnehgolnabGreatDoor
