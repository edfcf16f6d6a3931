
/- TextOnce: the walk. -/
import Derived.Test.YtlopccnehgolnabDoorTextBack
namespace Go.Proofs.YtlopccnehgolnabDoor
open Go.RowKit Rb

theorem parse_cases (s : Txt) : (∃ e : Int, e ≠ 0 ∧ parseR s = ⟨dm0, tb0, false, e⟩) ∨ (∃ d, goodD d = true ∧ parseR s = ⟨d, tb0, false, 0⟩) ∨ ∃ t, goodT t = true ∧ parseR s = ⟨dm0, t, true, 0⟩ := by
  unfold parseR
  split
  · exact .inl ⟨5, by decide, rfl⟩
  · split
    · split
      · exact .inl ⟨1, by decide, rfl⟩
      · rename_i h
        refine .inr (.inl ⟨_, ?_, rfl⟩)
        simp only [not_or] at h
        simpa using h.2.2
    · split
      · split
        · exact .inl ⟨1, by decide, rfl⟩
        · rename_i h
          refine .inr (.inr ⟨_, ?_, rfl⟩)
          simp only [not_or] at h
          simpa using h.2.2
      · exact .inl ⟨1, by decide, rfl⟩
theorem ParseG {s : Txt} {d : Dm} {t : Tb} {is : Bool} {x : Int} (h : parseR s = ⟨d, t, is, x⟩) (w : World) (hs : s.length ≤ 140737488355328) (hw : LibW w) (hp : PolW w) :
    Calls Tryd.prog 7 #[.string ⟨s.toArray⟩] w fun e w' => ∃ A c B d', e = .returned (.tuple #[.agg #[.string ⟨d.name.toArray⟩, .int .i64 d.lo, .int .i64 d.hi], .agg #[.string ⟨t.name.toArray⟩, .int .i64 t.pol, .bool t.comp, .slice A t.ins.length c, .slice B t.rules.length d'], .bool is, .int .i64 x]) ∧
      rTb.rel w' (Up (fun _ => False) w.heap.size) [.string ⟨t.name.toArray⟩, .int .i64 t.pol, .bool t.comp, .slice A t.ins.length c, .slice B t.rules.length d'] t ∧ Below w.heap.size w w' := by
  refine (Parse_any s w hs hw hp).mono ?_
  rintro e w' ⟨v, u, rfl, hr, hb⟩
  rw [h] at hr ⊢
  have hr' := hr
  obtain ⟨_, _, e1, _, _, hi, hrr⟩ := hr'
  simp only [List.cons.injEq, and_true, true_and] at e1
  obtain ⟨rfl, rfl⟩ := e1
  obtain ⟨A, c, e2, _⟩ := rSl.elems hi
  obtain ⟨B, d', e3, _⟩ := rSl.elems hrr
  subst e2 e3
  exact ⟨A, c, B, d', rfl, hr, hb⟩
theorem ParseZ {s : Txt} {d : Dm} {x : Int} (h : parseR s = ⟨d, tb0, false, x⟩) (w : World) (hs : s.length ≤ 140737488355328) (hw : LibW w) (hp : PolW w) :
    Calls Tryd.prog 7 #[.string ⟨s.toArray⟩] w fun e w' => ∃ A c B d', e = .returned (.tuple #[.agg #[.string ⟨d.name.toArray⟩, .int .i64 d.lo, .int .i64 d.hi], .agg #[.string ⟨#[]⟩, .int .i64 0, .bool false, .slice A 0 c, .slice B 0 d'], .bool false, .int .i64 x]) ∧
      rTb.rel w' (Up (fun _ => False) w.heap.size) [.string ⟨#[]⟩, .int .i64 0, .bool false, .slice A 0 c, .slice B 0 d'] tb0 ∧ Below w.heap.size w w' := ParseG h w hs hw hp
theorem ParseY {s : Txt} {t : Tb} (h : parseR s = ⟨dm0, t, true, 0⟩) (w : World) (hs : s.length ≤ 140737488355328) (hw : LibW w) (hp : PolW w) :
    Calls Tryd.prog 7 #[.string ⟨s.toArray⟩] w fun e w' => ∃ A c B d', e = .returned (.tuple #[.agg #[.string ⟨#[]⟩, .int .i64 0, .int .i64 0], .agg #[.string ⟨t.name.toArray⟩, .int .i64 t.pol, .bool t.comp, .slice A t.ins.length c, .slice B t.rules.length d'], .bool true, .int .i64 0]) ∧
      rTb.rel w' (Up (fun _ => False) w.heap.size) [.string ⟨t.name.toArray⟩, .int .i64 t.pol, .bool t.comp, .slice A t.ins.length c, .slice B t.rules.length d'] t ∧ Below w.heap.size w w' := ParseG h w hs hw hp
theorem tb0_le : tb0.name.length ≤ 140737488355328 := by decide

set_option maxRecDepth 100000 in
set_option maxHeartbeats 6400000 in
theorem TextOnce_walk (s : Txt) (w : World) (hs : s.length ≤ 140737488355328) (hw : LibW w) (hp : PolW w) :
    Calls Tryd.prog 4 #[.string ⟨s.toArray⟩] w fun e w' => e = .returned (.bool true) ∧ Below w.heap.size w w' := by
  have HW := Lib.hid fun w' (hb : Below w.heap.size w w') => hw.below hb
  have HP := Lib.hid fun w' (hb : Below w.heap.size w w') => hp.below hb
  have HTX := Lib.hid fun w' (hb : Below w.heap.size w w') => texts_any w' (hw.below hb) (hp.below hb)
  have HW0 := Lib.hid hw
  have HP0 := Lib.hid hp
  have HSL := Lib.hid hs
  rcases parse_cases s with ⟨x, hx, hps⟩ | ⟨d, hd, hps⟩ | ⟨t, ht, hps⟩
  · have HPS := Lib.hid hps
    have hx0 : (x == 0) = false := beq_eq_false_iff_ne.2 hx
    have hx1 : (x != 0) = true := bne_iff_ne.2 hx
    clear hps hw hp hs
    go_enter Tryd.func4, Tryd.ntmps4
    go_wp2_with (first
      | (go_at_call 7; go_must ((with_reducible refine (ParseZ HPS.out w HSL.out HW0.out HP0.out).mono ?_); rintro e w1 ⟨A1, c1, B1, d1, rfl, hr1, hb1⟩; have HB1 := Lib.hid hb1; have HR1 := Lib.hid hr1; clear hb1 hr1; obtain ⟨W2, e2, HPB, HB2, HX1⟩ := PrB.start w1 27 25; obtain ⟨W3, e3, n0, n1, n2, m0, m1, m2, m3, m4, HB3, _⟩ := HPB.out.store dm0 [] 0 false (.slice A1 0 c1) (.slice B1 0 d1); have a0 := HPB.out.a0; have a1 := HPB.out.a1; have a2 := HPB.out.a2; have b0 := HPB.out.b0; have b1 := HPB.out.b1; have b2 := HPB.out.b2; have b3 := HPB.out.b3; have b4 := HPB.out.b4; have x0 := HPB.out.x 0; have x1 := HPB.out.x 1; have x2 := HPB.out.x 2; have y0 := HPB.out.y 0; have y1 := HPB.out.y 1; have y2 := HPB.out.y 2; have y3 := HPB.out.y 3; have y4 := HPB.out.y 4; have HBW := Lib.hid (HB3.out _ HB1.out.size _ (HB1.out.trans (HB2.out.mono HB1.out.size))); have HU := Lib.hid (HB3.out w1.heap.size (Nat.le_refl _) w1 HB2.out); have HR := Lib.hid (Rd.below HR1.out HU.out); simp only [dm0] at e3 n0 n1 n2))
      | (go_at_call 8; go_must ((with_reducible refine (sameTb_eq tb0 W3 HR.out (tb0_rel W3)).mono ?_); rintro e w4 ⟨rfl, hb4⟩; have HB4 := Lib.hid (HBW.out.trans (hb4.mono HBW.out.size)); clear hb4))
      | (go_at_call 10; go_must ((with_reducible refine (HTX.out w4 HB4.out).mono ?_); rintro e w9 ⟨rfl, hb9⟩; have HB9 := Lib.hid (HB4.out.trans (hb9.mono HB4.out.size)); clear hb9)))
    go_ret
    exact ⟨rfl, HB9.out⟩
  · have HPS := Lib.hid hps
    have HGD := Lib.hid hd
    have HDL : Hid ((domTxt d).length ≤ 140737488355328) := Lib.hid (by obtain ⟨q1, q2, q3⟩ := goodD_nums HGD.out; have z1 := named_len q1; have z2 := itoa_len8 _ q2; have z3 := itoa_len8 _ q3; unfold domTxt; simp only [List.length_append, List.length_cons, List.length_nil]; omega)
    have HD : Hid (∀ w', Below w.heap.size w w' → Calls Tryd.prog 9 #[.agg #[.string ⟨d.name.toArray⟩, .int .i64 d.lo, .int .i64 d.hi]] w' fun e w'' => e = .returned (.tuple #[.string ⟨(domTxt d).toArray⟩, .int .i64 0]) ∧ Below w'.heap.size w' w'') := Lib.hid fun w' hb => by
      obtain ⟨q1, q2, q3⟩ := goodD_nums HGD.out
      have z1 := named_len q1
      have h := Domain_any d w' (by omega) (by have := (isNum_iff _).1 q2; exact ⟨by omega, by omega⟩) (by have := (isNum_iff _).1 q3; exact ⟨by omega, by omega⟩) (hw.below hb)
      unfold domainT at h
      rw [if_pos HGD.out] at h
      exact h
    clear hps hw hp hs hd
    go_enter Tryd.func4, Tryd.ntmps4
    go_wp2_with (first
      | (go_at_call 7; first | ((with_reducible refine (ParseZ HPS.out w HSL.out HW0.out HP0.out).mono ?_); rintro e w1 ⟨A1, c1, B1, d1, rfl, hr1, hb1⟩; have HB1 := Lib.hid hb1; have HR1 := Lib.hid hr1; clear hb1 hr1; obtain ⟨W2, e2, HPB, HB2, HX1⟩ := PrB.start w1 27 25; obtain ⟨W3, e3, n0, n1, n2, m0, m1, m2, m3, m4, HB3, _⟩ := HPB.out.store d [] 0 false (.slice A1 0 c1) (.slice B1 0 d1); have a0 := HPB.out.a0; have a1 := HPB.out.a1; have a2 := HPB.out.a2; have b0 := HPB.out.b0; have b1 := HPB.out.b1; have b2 := HPB.out.b2; have b3 := HPB.out.b3; have b4 := HPB.out.b4; have x0 := HPB.out.x 0; have x1 := HPB.out.x 1; have x2 := HPB.out.x 2; have y0 := HPB.out.y 0; have y1 := HPB.out.y 1; have y2 := HPB.out.y 2; have y3 := HPB.out.y 3; have y4 := HPB.out.y 4; have HBW := Lib.hid (HB3.out _ HB1.out.size _ (HB1.out.trans (HB2.out.mono HB1.out.size))); have HU := Lib.hid (HB3.out w1.heap.size (Nat.le_refl _) w1 HB2.out); have HR := Lib.hid (Rd.below HR1.out HU.out); have HQ := Lib.hid (show w1.heap.size + 1 < W3.heap.size from World.block_lt_of_cell? _ _ m0)) | (go_must ((with_reducible refine (ParseZ (parse_domain HGD.out) w5 HDL.out (HW.out _ HB5.out) (HP.out _ HB5.out)).mono ?_); rintro e w7 ⟨A2, c2, B2, d2, rfl, hr7, hb7⟩; have HB7 := Lib.hid (HB5.out.trans (hb7.mono HB5.out.size)); have HR7 := Lib.hid hr7; have HRA := Lib.hid (Rd.below HR5.out hb7); have HQ7 := Lib.hid (Nat.lt_of_lt_of_le HQ5.out hb7.size); replace n0 := (hb7.cell (p := ⟨w1.heap.size, 0, none⟩) (Nat.lt_of_succ_lt HQ5.out)).trans n0; replace n1 := (hb7.cell (p := ⟨w1.heap.size, 1, none⟩) (Nat.lt_of_succ_lt HQ5.out)).trans n1; replace n2 := (hb7.cell (p := ⟨w1.heap.size, 2, none⟩) (Nat.lt_of_succ_lt HQ5.out)).trans n2; replace m0 := (hb7.cell (p := ⟨w1.heap.size + 1, 0, none⟩) HQ5.out).trans m0; replace m1 := (hb7.cell (p := ⟨w1.heap.size + 1, 1, none⟩) HQ5.out).trans m1; replace m2 := (hb7.cell (p := ⟨w1.heap.size + 1, 2, none⟩) HQ5.out).trans m2; replace m3 := (hb7.cell (p := ⟨w1.heap.size + 1, 3, none⟩) HQ5.out).trans m3; replace m4 := (hb7.cell (p := ⟨w1.heap.size + 1, 4, none⟩) HQ5.out).trans m4; clear hb7 hr7; obtain ⟨W7, e7, HPC, HB27, HX7⟩ := PrB.start w7 27 25; obtain ⟨W8, e8, o0, o1, o2, q0, q1, q2, q3, q4, HB8, _⟩ := HPC.out.store d [] 0 false (.slice A2 0 c2) (.slice B2 0 d2); have a0 := HPC.out.a0; have a1 := HPC.out.a1; have a2 := HPC.out.a2; have b0 := HPC.out.b0; have b1 := HPC.out.b1; have b2 := HPC.out.b2; have b3 := HPC.out.b3; have b4 := HPC.out.b4; have x0 := HPC.out.x 0; have x1 := HPC.out.x 1; have x2 := HPC.out.x 2; have y0 := HPC.out.y 0; have y1 := HPC.out.y 1; have y2 := HPC.out.y 2; have y3 := HPC.out.y 3; have y4 := HPC.out.y 4; have HBV := Lib.hid (HB8.out _ HB7.out.size _ (HB7.out.trans (HB27.out.mono HB7.out.size))); have HV := Lib.hid (HB8.out w7.heap.size (Nat.le_refl _) w7 HB27.out); replace n0 := (HV.out.cell (p := ⟨w1.heap.size, 0, none⟩) (Nat.lt_of_succ_lt HQ7.out)).trans n0; replace n1 := (HV.out.cell (p := ⟨w1.heap.size, 1, none⟩) (Nat.lt_of_succ_lt HQ7.out)).trans n1; replace n2 := (HV.out.cell (p := ⟨w1.heap.size, 2, none⟩) (Nat.lt_of_succ_lt HQ7.out)).trans n2; replace m0 := (HV.out.cell (p := ⟨w1.heap.size + 1, 0, none⟩) HQ7.out).trans m0; replace m1 := (HV.out.cell (p := ⟨w1.heap.size + 1, 1, none⟩) HQ7.out).trans m1; replace m2 := (HV.out.cell (p := ⟨w1.heap.size + 1, 2, none⟩) HQ7.out).trans m2; replace m3 := (HV.out.cell (p := ⟨w1.heap.size + 1, 3, none⟩) HQ7.out).trans m3; replace m4 := (HV.out.cell (p := ⟨w1.heap.size + 1, 4, none⟩) HQ7.out).trans m4; have HRB := Lib.hid (Rd.below HRA.out HV.out); have HRC := Lib.hid (Rd.below HR7.out HV.out))))
      | (go_at_call 10; go_must ((with_reducible refine (HTX.out W3 HBW.out).mono ?_); rintro e w4 ⟨rfl, hb4⟩; have HB4 := Lib.hid (HBW.out.trans (hb4.mono HBW.out.size)); have HR4 := Lib.hid (Rd.below HR.out hb4); have HQ4 := Lib.hid (Nat.lt_of_lt_of_le HQ.out hb4.size); replace n0 := (hb4.cell (p := ⟨w1.heap.size, 0, none⟩) (Nat.lt_of_succ_lt HQ.out)).trans n0; replace n1 := (hb4.cell (p := ⟨w1.heap.size, 1, none⟩) (Nat.lt_of_succ_lt HQ.out)).trans n1; replace n2 := (hb4.cell (p := ⟨w1.heap.size, 2, none⟩) (Nat.lt_of_succ_lt HQ.out)).trans n2; replace m0 := (hb4.cell (p := ⟨w1.heap.size + 1, 0, none⟩) HQ.out).trans m0; replace m1 := (hb4.cell (p := ⟨w1.heap.size + 1, 1, none⟩) HQ.out).trans m1; replace m2 := (hb4.cell (p := ⟨w1.heap.size + 1, 2, none⟩) HQ.out).trans m2; replace m3 := (hb4.cell (p := ⟨w1.heap.size + 1, 3, none⟩) HQ.out).trans m3; replace m4 := (hb4.cell (p := ⟨w1.heap.size + 1, 4, none⟩) HQ.out).trans m4; clear hb4; clear a0 a1 a2 b0 b1 b2 b3 b4 x0 x1 x2 y0 y1 y2 y3 y4 e2 e3))
      | (go_at_call 9; go_must ((with_reducible refine (HD.out w4 HB4.out).mono ?_); rintro e w5 ⟨rfl, hb5⟩; have HB5 := Lib.hid (HB4.out.trans (hb5.mono HB4.out.size)); have HR5 := Lib.hid (Rd.below HR4.out hb5); have HQ5 := Lib.hid (Nat.lt_of_lt_of_le HQ4.out hb5.size); replace n0 := (hb5.cell (p := ⟨w1.heap.size, 0, none⟩) (Nat.lt_of_succ_lt HQ4.out)).trans n0; replace n1 := (hb5.cell (p := ⟨w1.heap.size, 1, none⟩) (Nat.lt_of_succ_lt HQ4.out)).trans n1; replace n2 := (hb5.cell (p := ⟨w1.heap.size, 2, none⟩) (Nat.lt_of_succ_lt HQ4.out)).trans n2; replace m0 := (hb5.cell (p := ⟨w1.heap.size + 1, 0, none⟩) HQ4.out).trans m0; replace m1 := (hb5.cell (p := ⟨w1.heap.size + 1, 1, none⟩) HQ4.out).trans m1; replace m2 := (hb5.cell (p := ⟨w1.heap.size + 1, 2, none⟩) HQ4.out).trans m2; replace m3 := (hb5.cell (p := ⟨w1.heap.size + 1, 3, none⟩) HQ4.out).trans m3; replace m4 := (hb5.cell (p := ⟨w1.heap.size + 1, 4, none⟩) HQ4.out).trans m4; clear hb5))
      | (go_at_call 8; go_must ((with_reducible refine (sameTb_eq tb0 W8 HRB.out HRC.out).mono ?_); rintro e w9 ⟨rfl, hb9⟩; have HB9 := Lib.hid (HBV.out.trans (hb9.mono HBV.out.size)); clear hb9)))
    go_ret
    exact ⟨rfl, HB9.out⟩
  · have HPS := Lib.hid hps
    have HGT := Lib.hid ht
    have HDL : Hid ((tableTxt t).length ≤ 140737488355328) := Lib.hid (by have := tableTxt_len HGT.out; omega)
    have HD : Hid (∀ w', Below w.heap.size w w' → Calls Tryd.prog 9 #[.agg #[.string ⟨#[]⟩, .int .i64 0, .int .i64 0]] w' fun e w'' => e = .returned (.tuple #[.string ⟨#[]⟩, .int .i64 1]) ∧ Below w'.heap.size w' w'') := Lib.hid fun w' hb => by
      have h := Domain_any dm0 w' (by decide) ⟨by decide, by decide⟩ ⟨by decide, by decide⟩ (hw.below hb)
      have e : domainT dm0 = ([], 1) := by unfold domainT; rw [if_neg (by decide)]
      rw [e] at h
      exact h
    clear hps hw hp hs ht
    go_enter Tryd.func4, Tryd.ntmps4
    go_wp2_with (first
      | (go_at_call 7; first | ((with_reducible refine (ParseY HPS.out w HSL.out HW0.out HP0.out).mono ?_); rintro e w1 ⟨A1, c1, B1, d1, rfl, hr1, hb1⟩; have HB1 := Lib.hid hb1; have HR1 := Lib.hid hr1; clear hb1 hr1; obtain ⟨W2, e2, HPB, HB2, HX1⟩ := PrB.start w1 27 25; obtain ⟨W3, e3, n0, n1, n2, m0, m1, m2, m3, m4, HB3, _⟩ := HPB.out.store dm0 t.name t.pol t.comp (.slice A1 t.ins.length c1) (.slice B1 t.rules.length d1); have a0 := HPB.out.a0; have a1 := HPB.out.a1; have a2 := HPB.out.a2; have b0 := HPB.out.b0; have b1 := HPB.out.b1; have b2 := HPB.out.b2; have b3 := HPB.out.b3; have b4 := HPB.out.b4; have x0 := HPB.out.x 0; have x1 := HPB.out.x 1; have x2 := HPB.out.x 2; have y0 := HPB.out.y 0; have y1 := HPB.out.y 1; have y2 := HPB.out.y 2; have y3 := HPB.out.y 3; have y4 := HPB.out.y 4; have HBW := Lib.hid (HB3.out _ HB1.out.size _ (HB1.out.trans (HB2.out.mono HB1.out.size))); have HU := Lib.hid (HB3.out w1.heap.size (Nat.le_refl _) w1 HB2.out); have HR := Lib.hid (Rd.below HR1.out HU.out); have HQ := Lib.hid (show w1.heap.size + 1 < W3.heap.size from World.block_lt_of_cell? _ _ m0); simp only [dm0] at e3 n0 n1 n2) | (go_must ((with_reducible refine (ParseY (parse_table HGT.out) w6 HDL.out (HW.out _ HB6.out) (HP.out _ HB6.out)).mono ?_); rintro e w7 ⟨A2, c2, B2, d2, rfl, hr7, hb7⟩; have HB7 := Lib.hid (HB6.out.trans (hb7.mono HB6.out.size)); have HR7 := Lib.hid hr7; have HRA := Lib.hid (Rd.below HR6.out hb7); have HQ7 := Lib.hid (Nat.lt_of_lt_of_le HQ6.out hb7.size); replace n0 := (hb7.cell (p := ⟨w1.heap.size, 0, none⟩) (Nat.lt_of_succ_lt HQ6.out)).trans n0; replace n1 := (hb7.cell (p := ⟨w1.heap.size, 1, none⟩) (Nat.lt_of_succ_lt HQ6.out)).trans n1; replace n2 := (hb7.cell (p := ⟨w1.heap.size, 2, none⟩) (Nat.lt_of_succ_lt HQ6.out)).trans n2; replace m0 := (hb7.cell (p := ⟨w1.heap.size + 1, 0, none⟩) HQ6.out).trans m0; replace m1 := (hb7.cell (p := ⟨w1.heap.size + 1, 1, none⟩) HQ6.out).trans m1; replace m2 := (hb7.cell (p := ⟨w1.heap.size + 1, 2, none⟩) HQ6.out).trans m2; replace m3 := (hb7.cell (p := ⟨w1.heap.size + 1, 3, none⟩) HQ6.out).trans m3; replace m4 := (hb7.cell (p := ⟨w1.heap.size + 1, 4, none⟩) HQ6.out).trans m4; clear hb7 hr7; obtain ⟨W7, e7, HPC, HB27, HX7⟩ := PrB.start w7 27 25; obtain ⟨W8, e8, o0, o1, o2, q0, q1, q2, q3, q4, HB8, _⟩ := HPC.out.store dm0 t.name t.pol t.comp (.slice A2 t.ins.length c2) (.slice B2 t.rules.length d2); have a0 := HPC.out.a0; have a1 := HPC.out.a1; have a2 := HPC.out.a2; have b0 := HPC.out.b0; have b1 := HPC.out.b1; have b2 := HPC.out.b2; have b3 := HPC.out.b3; have b4 := HPC.out.b4; have x0 := HPC.out.x 0; have x1 := HPC.out.x 1; have x2 := HPC.out.x 2; have y0 := HPC.out.y 0; have y1 := HPC.out.y 1; have y2 := HPC.out.y 2; have y3 := HPC.out.y 3; have y4 := HPC.out.y 4; have HBV := Lib.hid (HB8.out _ HB7.out.size _ (HB7.out.trans (HB27.out.mono HB7.out.size))); simp only [dm0] at e8 o0 o1 o2; have HV := Lib.hid (HB8.out w7.heap.size (Nat.le_refl _) w7 HB27.out); replace n0 := (HV.out.cell (p := ⟨w1.heap.size, 0, none⟩) (Nat.lt_of_succ_lt HQ7.out)).trans n0; replace n1 := (HV.out.cell (p := ⟨w1.heap.size, 1, none⟩) (Nat.lt_of_succ_lt HQ7.out)).trans n1; replace n2 := (HV.out.cell (p := ⟨w1.heap.size, 2, none⟩) (Nat.lt_of_succ_lt HQ7.out)).trans n2; replace m0 := (HV.out.cell (p := ⟨w1.heap.size + 1, 0, none⟩) HQ7.out).trans m0; replace m1 := (HV.out.cell (p := ⟨w1.heap.size + 1, 1, none⟩) HQ7.out).trans m1; replace m2 := (HV.out.cell (p := ⟨w1.heap.size + 1, 2, none⟩) HQ7.out).trans m2; replace m3 := (HV.out.cell (p := ⟨w1.heap.size + 1, 3, none⟩) HQ7.out).trans m3; replace m4 := (HV.out.cell (p := ⟨w1.heap.size + 1, 4, none⟩) HQ7.out).trans m4; have HRB := Lib.hid (Rd.below HRA.out HV.out); have HRC := Lib.hid (Rd.below HR7.out HV.out))))
      | (go_at_call 10; go_must ((with_reducible refine (HTX.out W3 HBW.out).mono ?_); rintro e w4 ⟨rfl, hb4⟩; have HB4 := Lib.hid (HBW.out.trans (hb4.mono HBW.out.size)); have HR4 := Lib.hid (Rd.below HR.out hb4); have HQ4 := Lib.hid (Nat.lt_of_lt_of_le HQ.out hb4.size); replace n0 := (hb4.cell (p := ⟨w1.heap.size, 0, none⟩) (Nat.lt_of_succ_lt HQ.out)).trans n0; replace n1 := (hb4.cell (p := ⟨w1.heap.size, 1, none⟩) (Nat.lt_of_succ_lt HQ.out)).trans n1; replace n2 := (hb4.cell (p := ⟨w1.heap.size, 2, none⟩) (Nat.lt_of_succ_lt HQ.out)).trans n2; replace m0 := (hb4.cell (p := ⟨w1.heap.size + 1, 0, none⟩) HQ.out).trans m0; replace m1 := (hb4.cell (p := ⟨w1.heap.size + 1, 1, none⟩) HQ.out).trans m1; replace m2 := (hb4.cell (p := ⟨w1.heap.size + 1, 2, none⟩) HQ.out).trans m2; replace m3 := (hb4.cell (p := ⟨w1.heap.size + 1, 3, none⟩) HQ.out).trans m3; replace m4 := (hb4.cell (p := ⟨w1.heap.size + 1, 4, none⟩) HQ.out).trans m4; clear hb4; clear a0 a1 a2 b0 b1 b2 b3 b4 x0 x1 x2 y0 y1 y2 y3 y4 e2 e3))
      | (go_at_call 9; go_must ((with_reducible refine (HD.out w4 HB4.out).mono ?_); rintro e w5 ⟨rfl, hb5⟩; have HB5 := Lib.hid (HB4.out.trans (hb5.mono HB4.out.size)); have HR5 := Lib.hid (Rd.below HR4.out hb5); have HQ5 := Lib.hid (Nat.lt_of_lt_of_le HQ4.out hb5.size); replace n0 := (hb5.cell (p := ⟨w1.heap.size, 0, none⟩) (Nat.lt_of_succ_lt HQ4.out)).trans n0; replace n1 := (hb5.cell (p := ⟨w1.heap.size, 1, none⟩) (Nat.lt_of_succ_lt HQ4.out)).trans n1; replace n2 := (hb5.cell (p := ⟨w1.heap.size, 2, none⟩) (Nat.lt_of_succ_lt HQ4.out)).trans n2; replace m0 := (hb5.cell (p := ⟨w1.heap.size + 1, 0, none⟩) HQ4.out).trans m0; replace m1 := (hb5.cell (p := ⟨w1.heap.size + 1, 1, none⟩) HQ4.out).trans m1; replace m2 := (hb5.cell (p := ⟨w1.heap.size + 1, 2, none⟩) HQ4.out).trans m2; replace m3 := (hb5.cell (p := ⟨w1.heap.size + 1, 3, none⟩) HQ4.out).trans m3; replace m4 := (hb5.cell (p := ⟨w1.heap.size + 1, 4, none⟩) HQ4.out).trans m4; clear hb5))
      | (go_at_call 6; go_must ((with_reducible refine (Table_any t w5 HR5.out HGT.out (HW.out _ HB5.out) (HP.out _ HB5.out)).mono ?_); rintro e w6 ⟨rfl, hb6⟩; have HB6 := Lib.hid (HB5.out.trans (hb6.mono HB5.out.size)); have HR6 := Lib.hid (Rd.below HR5.out hb6); have HQ6 := Lib.hid (Nat.lt_of_lt_of_le HQ5.out hb6.size); replace n0 := (hb6.cell (p := ⟨w1.heap.size, 0, none⟩) (Nat.lt_of_succ_lt HQ5.out)).trans n0; replace n1 := (hb6.cell (p := ⟨w1.heap.size, 1, none⟩) (Nat.lt_of_succ_lt HQ5.out)).trans n1; replace n2 := (hb6.cell (p := ⟨w1.heap.size, 2, none⟩) (Nat.lt_of_succ_lt HQ5.out)).trans n2; replace m0 := (hb6.cell (p := ⟨w1.heap.size + 1, 0, none⟩) HQ5.out).trans m0; replace m1 := (hb6.cell (p := ⟨w1.heap.size + 1, 1, none⟩) HQ5.out).trans m1; replace m2 := (hb6.cell (p := ⟨w1.heap.size + 1, 2, none⟩) HQ5.out).trans m2; replace m3 := (hb6.cell (p := ⟨w1.heap.size + 1, 3, none⟩) HQ5.out).trans m3; replace m4 := (hb6.cell (p := ⟨w1.heap.size + 1, 4, none⟩) HQ5.out).trans m4; clear hb6))
      | (go_at_call 8; go_must ((with_reducible refine (sameTb_eq t W8 HRB.out HRC.out).mono ?_); rintro e w9 ⟨rfl, hb9⟩; have HB9 := Lib.hid (HBV.out.trans (hb9.mono HBV.out.size)); clear hb9)))
    go_ret
    exact ⟨rfl, HB9.out⟩

end Go.Proofs.YtlopccnehgolnabDoor
