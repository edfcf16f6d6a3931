
/- TableGaps: the walk. -/
import Derived.Test.YtlopccnehgolnabGreatDoorGrQ
import Derived.Test.YtlopccnehgolnabGreatDoorSameT
namespace Go.Proofs.YtlopccnehgolnabGreatDoor
open Go.RowKit Rb

theorem SameBox_g {S T : Nat → Prop} {v u : Value} {b : Bx} (w : World) (hl : rBx.rel w S [v] b) (hn : rBx.rel w T [u] b) :
    Calls Tryz.prog 25 #[v, u] w fun e w' => e = .returned (.bool true) ∧ Below w.heap.size w w' := by
  have h := SameBox_any w hl hn
  rwa [decide_eq_true rfl] at h
theorem SameNumbers_g {S T : Nat → Prop} {v u : Value} {a : List Int} (w : World) (hl : (rSl rInt).rel w S [v] a) (hm : (rSl rInt).rel w T [u] a) :
    Calls Tryz.prog 23 #[v, u] w fun e w' => e = .returned (.bool true) ∧ Below w.heap.size w w' := by
  have h := SameNumbers_any w hl hm
  rwa [decide_eq_true rfl] at h

/-- The cells of a table's box. -/
def GpBox (w : World) (q : Nat) (t : Tb) (v u : Value) : Prop :=
  w.cell? ⟨q, 0, none⟩ = some (.string ⟨t.name.toArray⟩) ∧ w.cell? ⟨q, 1, none⟩ = some (.int .i64 t.pol) ∧ w.cell? ⟨q, 2, none⟩ = some (.bool t.comp) ∧ w.cell? ⟨q, 3, none⟩ = some v ∧ w.cell? ⟨q, 4, none⟩ = some u
theorem GpBox.below {w w' : World} {q : Nat} {t : Tb} {v u : Value} {B : Nat} (h : GpBox w q t v u) (hb : Below B w w') (hq : q < B) : GpBox w' q t v u :=
  ⟨(hb.cell (p := ⟨q, 0, none⟩) hq).trans h.1, (hb.cell (p := ⟨q, 1, none⟩) hq).trans h.2.1, (hb.cell (p := ⟨q, 2, none⟩) hq).trans h.2.2.1, (hb.cell (p := ⟨q, 3, none⟩) hq).trans h.2.2.2.1, (hb.cell (p := ⟨q, 4, none⟩) hq).trans h.2.2.2.2⟩

set_option maxRecDepth 100000 in
set_option maxHeartbeats 3200000 in
theorem TableGaps_walk {S T : Nat → Prop} {cs : List Value} {t : Tb} {u : Value} {all : Bx} (w : World) (hl : rTb.rel w S cs t) (hm : rBx.rel w T [u] all) (hj : JoinFits t.ins) :
    Calls Tryz.prog 5 #[.agg cs.toArray, u] w fun e w' => e = .returned (.bool true) ∧ Below w.heap.size w w' := by
  have hl0 := hl
  obtain ⟨vi, vr, rfl, hnm, _, hi, hr⟩ := hl
  obtain ⟨A, c, rfl, _⟩ := rSl.elems hi
  obtain ⟨B, d, rfl, _⟩ := rSl.elems hr
  obtain ⟨W0, e0, HB0, HT0, HM0, c0, c1, c2, c3, c4, hs0⟩ : ∃ W0, w.alloc (.cells #[.string ⟨t.name.toArray⟩, .int .i64 t.pol, .bool t.comp, .slice A t.ins.length c, .slice B t.rules.length d] 42) = W0 ∧ Hid (Below w.heap.size w W0) ∧ Hid (rTb.rel W0 S [.string ⟨t.name.toArray⟩, .int .i64 t.pol, .bool t.comp, .slice A t.ins.length c, .slice B t.rules.length d] t) ∧ Hid (rBx.rel W0 T [u] all) ∧
      W0.cell? ⟨w.heap.size, 0, none⟩ = some (.string ⟨t.name.toArray⟩) ∧ W0.cell? ⟨w.heap.size, 1, none⟩ = some (.int .i64 t.pol) ∧ W0.cell? ⟨w.heap.size, 2, none⟩ = some (.bool t.comp) ∧ W0.cell? ⟨w.heap.size, 3, none⟩ = some (.slice A t.ins.length c) ∧ W0.cell? ⟨w.heap.size, 4, none⟩ = some (.slice B t.rules.length d) ∧ w.heap.size < W0.heap.size :=
    ⟨_, rfl, Lib.hid ((Below.refl _ _).alloc (Nat.le_refl _) _), Lib.hid (Rd.alloc hl0 _), Lib.hid (Rd.alloc hm _), World.cell?_alloc_new _ _ _ _, World.cell?_alloc_new _ _ _ _, World.cell?_alloc_new _ _ _ _, World.cell?_alloc_new _ _ _ _, World.cell?_alloc_new _ _ _ _, by simp⟩
  obtain ⟨AU, cU, rfl, _⟩ := rSl.elems hm
  have HJ := Lib.hid hj
  have HS0 := Lib.hid hs0
  have HBX : Hid (GpBox W0 w.heap.size t (.slice A t.ins.length c) (.slice B t.rules.length d)) := Lib.hid ⟨c0, c1, c2, c3, c4⟩
  obtain ⟨f1, hf1⟩ : ∃ f, decide (0 < (gapB t all).length) = f := ⟨_, rfl⟩
  obtain ⟨f2, hf2⟩ : ∃ f, decide (0 < (clashB t all).length) = f := ⟨_, rfl⟩
  have HG1 := Lib.hid (fun (S T : Nat → Prop) (cs : List Value) (u : Value) (w : World) (hl : rTb.rel w S cs t) (hm : rBx.rel w T [u] all) => hf1 ▸ Gap_any w hl hm)
  have HG2 := Lib.hid (fun (S T : Nat → Prop) (cs : List Value) (u : Value) (w : World) (hl : rTb.rel w S cs t) (hm : rBx.rel w T [u] all) => hf1 ▸ GapOf_any w hl hm)
  have HG3 := Lib.hid (fun (S T : Nat → Prop) (cs : List Value) (u : Value) (w : World) (hl : rTb.rel w S cs t) (hm : rBx.rel w T [u] all) => hf2 ▸ Clash_any w hl hm)
  have HG4 := Lib.hid (fun (S T : Nat → Prop) (cs : List Value) (u : Value) (w : World) (hl : rTb.rel w S cs t) (hm : rBx.rel w T [u] all) => hf2 ▸ ClashOf_any w hl hm)
  clear hf1 hf2 hi hr hl0 hm hj hnm hs0
  generalize leastB (gapB t all) = p1 at *
  generalize leastB (clashB t all) = p2 at *
  go_enter Tryz.func5, Tryz.ntmps5
  go_wp2_with (first
    | (go_at_call 17; go_must ((with_reducible refine (CopyTable_any W0 HT0.out).mono ?_); rintro e w1 ⟨vi, vr, rfl, hr1, hb1⟩; obtain ⟨vi', vr', hcs, _, _, hi', hr'⟩ := id hr1; simp only [List.cons.injEq, true_and, and_true] at hcs; obtain ⟨rfl, rfl⟩ := hcs; obtain ⟨A1, c1', rfl, _⟩ := rSl.elems hi'; obtain ⟨B1, d1, rfl, _⟩ := rSl.elems hr'; have HB1 := Lib.hid hb1; have HR1 := Lib.hid hr1; clear hb1 hr1 hi' hr'))
    | (go_at_call 18; go_must ((with_reducible refine (CopyBox_any w1 (Rd.below HM0.out HB1.out)).mono ?_); rintro e w1b ⟨z1, rfl, hown1, hb1⟩; obtain ⟨AX, cX, rfl⟩ := hown1.value; obtain ⟨W2, e2, HB2, HT2, HM2, HQ2, HC2, HX2, f0, f1', f2', f3, f4, hs2⟩ : ∃ W2, w1b.alloc (.cells #[.string ⟨t.name.toArray⟩, .int .i64 t.pol, .bool t.comp, .slice A1 t.ins.length c1', .slice B1 t.rules.length d1] 42) = W2 ∧ Hid (Below W0.heap.size W0 W2) ∧ Hid (rTb.rel W2 S [.string ⟨t.name.toArray⟩, .int .i64 t.pol, .bool t.comp, .slice A t.ins.length c, .slice B t.rules.length d] t) ∧ Hid (rBx.rel W2 T [.slice AU all.length cU] all) ∧ Hid (GpBox W2 w.heap.size t (.slice A t.ins.length c) (.slice B t.rules.length d) ∧ w.heap.size < W2.heap.size) ∧ Hid (rTb.rel W2 (Up (fun _ => False) W0.heap.size) [.string ⟨t.name.toArray⟩, .int .i64 t.pol, .bool t.comp, .slice A1 t.ins.length c1', .slice B1 t.rules.length d1] t) ∧ Hid (rBx.rel W2 (Up (fun _ => False) w1.heap.size) [.slice AX all.length cX] all) ∧ W2.cell? ⟨w1b.heap.size, 0, none⟩ = some (.string ⟨t.name.toArray⟩) ∧ W2.cell? ⟨w1b.heap.size, 1, none⟩ = some (.int .i64 t.pol) ∧ W2.cell? ⟨w1b.heap.size, 2, none⟩ = some (.bool t.comp) ∧ W2.cell? ⟨w1b.heap.size, 3, none⟩ = some (.slice A1 t.ins.length c1') ∧ W2.cell? ⟨w1b.heap.size, 4, none⟩ = some (.slice B1 t.rules.length d1) ∧ w1b.heap.size < W2.heap.size := ⟨_, rfl, Lib.hid ((HB1.out.trans (hb1.mono HB1.out.size)).alloc (Nat.le_trans HB1.out.size hb1.size) _), Lib.hid (Rd.alloc (Rd.below (Rd.below HT0.out HB1.out) hb1) _), Lib.hid (Rd.alloc (Rd.below (Rd.below HM0.out HB1.out) hb1) _), Lib.hid ⟨HBX.out.below ((HB1.out.trans (hb1.mono HB1.out.size)).alloc (Nat.le_trans HB1.out.size hb1.size) _) HS0.out, by have := HB1.out.size; have := hb1.size; have := HS0.out; simp; omega⟩, Lib.hid (Rd.alloc (Rd.below HR1.out hb1) _), Lib.hid (Rd.alloc (hown1.rel (by decide)) _), World.cell?_alloc_new _ _ _ _, World.cell?_alloc_new _ _ _ _, World.cell?_alloc_new _ _ _ _, World.cell?_alloc_new _ _ _ _, World.cell?_alloc_new _ _ _ _, by simp⟩; have HF2 : Hid (GpBox W2 w1b.heap.size t (.slice A1 t.ins.length c1') (.slice B1 t.rules.length d1)) := Lib.hid ⟨f0, f1', f2', f3, f4⟩; have HS2 := Lib.hid hs2; clear hb1 hown1 hs2))
    | (go_at_call 19; go_must ((with_reducible refine (HG1.out _ _ _ _ W2 HC2.out HX2.out).mono ?_); rintro e w3 ⟨z3, T3, rfl, hz3, hb3⟩; obtain ⟨A3, l3, rfl, _⟩ := rSl.elems hz3; have HZ3 := Lib.hid hz3; have HB3 := Lib.hid hb3; obtain ⟨g0, g1, g2, g3, g4⟩ := HQ2.out.1.below hb3 HQ2.out.2; clear hb3 hz3 f0 f1' f2' f3 f4))
    | (go_at_call 20; go_must ((with_reducible refine (HG2.out _ _ _ _ w3 (Rd.below HT2.out HB3.out) (Rd.below HM2.out HB3.out)).mono ?_); rintro e w4 ⟨z4, T4, rfl, hz4, hb4⟩; obtain ⟨A4, l4, rfl, _⟩ := rSl.elems hz4; have HZ4 := Lib.hid hz4; have hb4' := HB3.out.trans (hb4.mono HB3.out.size); have HZ3' := Lib.hid (Rd.below HZ3.out hb4); have HB4 := Lib.hid hb4'; obtain ⟨h0, h1, h2, h3, h4⟩ := HF2.out.below hb4' HS2.out; clear hb4 hb4' hz4 g0 g1 g2 g3 g4))
    | (go_at_call 21; go_must ((with_reducible refine (HG3.out _ _ _ _ w4 (Rd.below HC2.out HB4.out) (Rd.below HX2.out HB4.out)).mono ?_); rintro e w5 ⟨z5, T5, rfl, hz5, hb5⟩; obtain ⟨A5, l5, rfl, _⟩ := rSl.elems hz5; have HZ5 := Lib.hid hz5; have hb5' := HB4.out.trans (hb5.mono HB4.out.size); have HZ4' := Lib.hid (Rd.below HZ4.out hb5); have HZ35 := Lib.hid (Rd.below HZ3'.out hb5); have HB5 := Lib.hid hb5'; obtain ⟨g0, g1, g2, g3, g4⟩ := HQ2.out.1.below hb5' HQ2.out.2; clear hb5 hb5' hz5 h0 h1 h2 h3 h4))
    | (go_at_call 22; go_must ((with_reducible refine (HG4.out _ _ _ _ w5 (Rd.below HT2.out HB5.out) (Rd.below HM2.out HB5.out)).mono ?_); rintro e w6 ⟨z6, T6, rfl, hz6, hb6⟩; obtain ⟨A6, l6, rfl, _⟩ := rSl.elems hz6; have HZ6 := Lib.hid hz6; have hb6' := HB5.out.trans (hb6.mono HB5.out.size); have HZ56 := Lib.hid (Rd.below HZ5.out hb6); have HB6 := Lib.hid hb6'; have HSN1 := Lib.hid (SameNumbers_g w6 (Rd.below HZ35.out hb6) (Rd.below HZ4'.out hb6)); clear hb6 hb6' hz6 g0 g1 g2 g3 g4)))
  have HSN2 := Lib.hid fun w' (hb : Below w6.heap.size w6 w') => SameNumbers_g w' (Rd.below HZ56.out hb) (Rd.below HZ6.out hb)
  have HSTb := Lib.hid fun w' (hb : Below w6.heap.size w6 w') => SameTable_same w' (Rd.below (Rd.below HC2.out HB6.out) hb) (Rd.below (Rd.below HT2.out HB6.out) hb) HJ.out
  have HSBx := Lib.hid fun w' (hb : Below w6.heap.size w6 w') => SameBox_g w' (Rd.below (Rd.below HX2.out HB6.out) hb) (Rd.below (Rd.below HM2.out HB6.out) hb)
  have HCL : Hid (∀ w', Below w6.heap.size w6 w' → GpBox w' w.heap.size t (.slice A t.ins.length c) (.slice B t.rules.length d) ∧ GpBox w' w1b.heap.size t (.slice A1 t.ins.length c1') (.slice B1 t.rules.length d1)) := Lib.hid fun w' hb => by
    have hbb := HB6.out.trans (hb.mono HB6.out.size)
    exact ⟨HQ2.out.1.below hbb HQ2.out.2, HF2.out.below hbb HS2.out⟩
  have HFIN : Hid (∀ w', Below w6.heap.size w6 w' → Below w.heap.size w w') := Lib.hid fun w' hb => HB0.out.trans ((HB2.out.trans ((HB6.out.trans (hb.mono HB6.out.size)).mono HB2.out.size)).mono HB0.out.size)
  clear e0 e2
  go_wp2_with (first
    | (go_at_call 23; first
      | ((with_reducible refine HSN1.out.mono ?_); rintro e w7 ⟨rfl, hb7⟩; have HB7 := Lib.hid hb7; clear hb7)
      | ((with_reducible refine (HSN2.out w7 HB7.out).mono ?_); rintro e w8 ⟨rfl, hb8⟩; have HB8 := Lib.hid (HB7.out.trans (hb8.mono HB7.out.size)); obtain ⟨⟨a0, a1, a2, a3, a4⟩, ⟨b0, b1, b2, b3, b4⟩⟩ := HCL.out _ HB8.out; clear hb8))
    | (go_at_call 24; go_must ((with_reducible refine (HSTb.out w8 HB8.out).mono ?_); rintro e w9 ⟨rfl, hb9⟩; have HB9 := Lib.hid (HB8.out.trans (hb9.mono HB8.out.size)); clear hb9))
    | (go_at_call 25; go_must ((with_reducible refine (HSBx.out w9 HB9.out).mono ?_); rintro e w10 ⟨rfl, hb10⟩; have HB10 := Lib.hid (HB9.out.trans (hb10.mono HB9.out.size)); clear hb10))
    | (go_at_call 26; go_must ((with_reducible refine (tablesLaw_any w10).mono ?_); rintro e w11 ⟨rfl, hb11⟩; have HB11 := Lib.hid (HB10.out.trans (hb11.mono HB10.out.size)); clear hb11)))
  go_ret
  exact ⟨by simp, HFIN.out _ HB11.out⟩

end Go.Proofs.YtlopccnehgolnabGreatDoor
