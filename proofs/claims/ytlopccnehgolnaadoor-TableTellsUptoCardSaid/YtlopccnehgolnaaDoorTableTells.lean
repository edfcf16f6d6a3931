
/- TableTells: the walk. -/
import Derived.Test.YtlopccnehgolnaaDoorSameT
import Derived.Test.YtlopccnehgolnaaDoorRefY
import Derived.Test.YtlopccnehgolnaaDoorRefS
import Derived.Test.YtlopccnehgolnaaDoorRefM
import Derived.Test.YtlopccnehgolnaaDoorTabM
import Derived.Test.YtlopccnehgolnaaDoorTabT
import Derived.Deep.RegionHeld3
namespace Go.Proofs.YtlopccnehgolnaaDoor
open Go.RowKit Rb

theorem SaysOf_m {S T : Nat → Prop} {cs : List Value} {t : Tb} {u : Value} {ns : List Int} {r : Int} {o : Bool} {e : Int} (w : World) (hl : rTb.rel w S cs t) (hn : (rSl rInt).rel w T [u] ns) (h : saysT t ns = (r, o, e)) :
    Calls Tryd.prog 6 #[.agg cs.toArray, u] w fun x w' => x = .returned (.tuple #[.int .i64 r, .bool o, .int .i64 e]) ∧ Below w.heap.size w w' := by
  have := SaysOf_any w hl hn
  rw [h] at this
  exact this
theorem Says_m' {S T : Nat → Prop} {cs : List Value} {t : Tb} {u : Value} {ns : List Int} {r : Int} {o : Bool} {e : Int} (w : World) (hl : rTb.rel w S cs t) (hn : (rSl rInt).rel w T [u] ns) (h : saysT t ns = (r, o, e)) :
    Calls Tryd.prog 5 #[.agg cs.toArray, u] w fun x w' => x = .returned (.tuple #[.int .i64 r, .bool o, .int .i64 e]) ∧ Below w.heap.size w w' := by
  have := Says_any w hl hn
  rw [h] at this
  exact this
theorem SameNumbers_same {S T : Nat → Prop} {v u : Value} {a : List Int} (w : World) (hl : (rSl rInt).rel w S [v] a) (hm : (rSl rInt).rel w T [u] a) :
    Calls Tryd.prog 11 #[v, u] w fun e w' => e = .returned (.bool true) ∧ Below w.heap.size w w' := by
  have h := SameNumbers_any w hl hm
  rwa [decide_eq_true rfl] at h
theorem TGood_b' {S : Nat → Prop} {cs : List Value} {t : Tb} {r : Bool} (w : World) (hl : rTb.rel w S cs t) (h : goodT t = r) :
    Calls Tryd.prog 7 #[.agg cs.toArray] w fun e w' => e = .returned (.bool r) ∧ Below w.heap.size w w' := h ▸ TGood_any w hl

/-- The cells of a table's box. -/
def TbBox (w : World) (q : Nat) (t : Tb) (v u : Value) : Prop :=
  w.cell? ⟨q, 0, none⟩ = some (.string ⟨t.name.toArray⟩) ∧ w.cell? ⟨q, 1, none⟩ = some (.int .i64 t.pol) ∧ w.cell? ⟨q, 2, none⟩ = some (.bool t.comp) ∧ w.cell? ⟨q, 3, none⟩ = some v ∧ w.cell? ⟨q, 4, none⟩ = some u
theorem TbBox.below {w w' : World} {q : Nat} {t : Tb} {v u : Value} {B : Nat} (h : TbBox w q t v u) (hb : Below B w w') (hq : q < B) : TbBox w' q t v u :=
  ⟨(hb.cell (p := ⟨q, 0, none⟩) hq).trans h.1, (hb.cell (p := ⟨q, 1, none⟩) hq).trans h.2.1, (hb.cell (p := ⟨q, 2, none⟩) hq).trans h.2.2.1, (hb.cell (p := ⟨q, 3, none⟩) hq).trans h.2.2.2.1, (hb.cell (p := ⟨q, 4, none⟩) hq).trans h.2.2.2.2⟩

set_option maxRecDepth 100000 in
set_option maxHeartbeats 3200000 in
theorem TableTells_walk {S T : Nat → Prop} {cs : List Value} {t : Tb} {u : Value} {ns : List Int} (n : Int) (w : World) (hl : rTb.rel w S cs t) (hn : (rSl rInt).rel w T [u] ns) (hj : JoinFits t.ins) :
    Calls Tryd.prog 3 #[.agg cs.toArray, u, .int .i64 n] w fun e w' => e = .returned (.bool true) ∧ Below w.heap.size w w' := by
  have hl0 := hl
  obtain ⟨vi, vr, rfl, hnm, _, hi, hr⟩ := hl
  obtain ⟨A, c, rfl, _⟩ := rSl.elems hi
  obtain ⟨B, d, rfl, _, _, hr3, _⟩ := rSl.elems hr
  obtain ⟨AU, cU, rfl, _⟩ := rSl.elems hn
  have hr5 : t.rules.length ≤ 4398046511104 := by simp only [rRl] at hr3; omega
  obtain ⟨W0, e0, HB0, HT0, c0, c1, c2, c3, c4, hs0⟩ : ∃ W0, w.alloc (.cells #[.string ⟨t.name.toArray⟩, .int .i64 t.pol, .bool t.comp, .slice A t.ins.length c, .slice B t.rules.length d] 25) = W0 ∧ Hid (Below w.heap.size w W0) ∧ Hid (rTb.rel W0 S [.string ⟨t.name.toArray⟩, .int .i64 t.pol, .bool t.comp, .slice A t.ins.length c, .slice B t.rules.length d] t) ∧
      W0.cell? ⟨w.heap.size, 0, none⟩ = some (.string ⟨t.name.toArray⟩) ∧ W0.cell? ⟨w.heap.size, 1, none⟩ = some (.int .i64 t.pol) ∧ W0.cell? ⟨w.heap.size, 2, none⟩ = some (.bool t.comp) ∧ W0.cell? ⟨w.heap.size, 3, none⟩ = some (.slice A t.ins.length c) ∧ W0.cell? ⟨w.heap.size, 4, none⟩ = some (.slice B t.rules.length d) ∧ w.heap.size < W0.heap.size :=
    ⟨_, rfl, Lib.hid ((Below.refl _ _).alloc (Nat.le_refl _) _), Lib.hid (Rd.alloc hl0 _), World.cell?_alloc_new _ _ _ _, World.cell?_alloc_new _ _ _ _, World.cell?_alloc_new _ _ _ _, World.cell?_alloc_new _ _ _ _, World.cell?_alloc_new _ _ _ _, by simp⟩
  have HN := Lib.hid (Rd.below hn HB0.out)
  have HJ := Lib.hid hj
  have HNM := Lib.hid hnm
  have HS0 := Lib.hid hs0
  have HBX : Hid (TbBox W0 w.heap.size t (.slice A t.ins.length c) (.slice B t.rules.length d)) := Lib.hid ⟨c0, c1, c2, c3, c4⟩
  obtain ⟨⟨r, ok, er⟩, hsy⟩ : ∃ x, saysT t ns = x := ⟨_, rfl⟩
  have HSY := Lib.hid hsy
  obtain ⟨g, hg⟩ : ∃ g, goodT t = g := ⟨_, rfl⟩
  have HG := Lib.hid hg
  obtain ⟨nmd, hnmd⟩ : ∃ b, named t.name = b := ⟨_, rfl⟩
  have HNA := Lib.hid hnmd
  clear hi hr hr3 hl0 hn hj hnm hsy hg hnmd hs0
  go_enter Tryd.func3, Tryd.ntmps3
  go_wp2_with (first | (go_at_call 4; go_must ((with_reducible refine (CopyTable_any W0 HT0.out).mono ?_); rintro e w1 ⟨vi, vr, rfl, hr1, hb1⟩; obtain ⟨vi', vr', hcs, _, _, hi', hr'⟩ := id hr1; simp only [List.cons.injEq, true_and, and_true] at hcs; obtain ⟨rfl, rfl⟩ := hcs; obtain ⟨A1, c1', rfl, _⟩ := rSl.elems hi'; obtain ⟨B1, d1, rfl, _⟩ := rSl.elems hr'; obtain ⟨W2, e2, HB2, HT2, HQ2, HC2, HN2, f0, f1, f2, f3, f4, hs2⟩ : ∃ W2, w1.alloc (.cells #[.string ⟨t.name.toArray⟩, .int .i64 t.pol, .bool t.comp, .slice A1 t.ins.length c1', .slice B1 t.rules.length d1] 25) = W2 ∧ Hid (Below w.heap.size w W2) ∧ Hid (rTb.rel W2 S [.string ⟨t.name.toArray⟩, .int .i64 t.pol, .bool t.comp, .slice A t.ins.length c, .slice B t.rules.length d] t) ∧ Hid (TbBox W2 w.heap.size t (.slice A t.ins.length c) (.slice B t.rules.length d) ∧ w.heap.size < W2.heap.size) ∧ Hid (rTb.rel W2 (Up (fun _ => False) W0.heap.size) [.string ⟨t.name.toArray⟩, .int .i64 t.pol, .bool t.comp, .slice A1 t.ins.length c1', .slice B1 t.rules.length d1] t) ∧ Hid ((rSl rInt).rel W2 T [.slice AU ns.length cU] ns) ∧ W2.cell? ⟨w1.heap.size, 0, none⟩ = some (.string ⟨t.name.toArray⟩) ∧ W2.cell? ⟨w1.heap.size, 1, none⟩ = some (.int .i64 t.pol) ∧ W2.cell? ⟨w1.heap.size, 2, none⟩ = some (.bool t.comp) ∧ W2.cell? ⟨w1.heap.size, 3, none⟩ = some (.slice A1 t.ins.length c1') ∧ W2.cell? ⟨w1.heap.size, 4, none⟩ = some (.slice B1 t.rules.length d1) ∧ w1.heap.size < W2.heap.size := ⟨_, rfl, Lib.hid ((HB0.out.trans (hb1.mono HB0.out.size)).alloc (Nat.le_trans HB0.out.size hb1.size) _), Lib.hid (Rd.alloc (Rd.below HT0.out hb1) _), Lib.hid ⟨HBX.out.below (hb1.alloc (Nat.le_trans (Nat.le_refl _) hb1.size) _) HS0.out, by have := hb1.size; have := HS0.out; simp; omega⟩, Lib.hid (Rd.alloc hr1 _), Lib.hid (Rd.alloc (Rd.below HN.out hb1) _), World.cell?_alloc_new _ _ _ _, World.cell?_alloc_new _ _ _ _, World.cell?_alloc_new _ _ _ _, World.cell?_alloc_new _ _ _ _, World.cell?_alloc_new _ _ _ _, by simp⟩; have HF2 : Hid (TbBox W2 w1.heap.size t (.slice A1 t.ins.length c1') (.slice B1 t.rules.length d1)) := Lib.hid ⟨f0, f1, f2, f3, f4⟩; have HS2 := Lib.hid hs2; clear hr1 hb1 hi' hr' hs2)) | (go_at_call 5; go_must ((with_reducible refine (Says_m' W2 HC2.out HN2.out HSY.out).mono ?_); rintro e w3 ⟨rfl, hb3⟩; have HB3 := Lib.hid hb3; obtain ⟨g0, g1, g2, g3, g4⟩ := HQ2.out.1.below hb3 HQ2.out.2; clear hb3)) | (go_at_call 6; go_must ((with_reducible refine (SaysOf_m w3 (Rd.below HT2.out HB3.out) (Rd.below HN2.out HB3.out) HSY.out).mono ?_); rintro e w4 ⟨rfl, hb4⟩; have HB4 := Lib.hid (HB3.out.trans (hb4.mono HB3.out.size)); clear hb4)))
  have HRC2 : Hid ((rSl rRl).rel W2 (Up (fun _ => False) W0.heap.size) [.slice B1 t.rules.length d1] t.rules) := Lib.hid (by
    obtain ⟨_, _, hh, _, _, _, h⟩ := HC2.out
    simp only [List.cons.injEq, true_and, and_true] at hh
    obtain ⟨rfl, rfl⟩ := hh
    exact h)
  have HRT2 : Hid ((rSl rRl).rel W2 S [.slice B t.rules.length d] t.rules) := Lib.hid (by
    obtain ⟨_, _, hh, _, _, _, h⟩ := HT2.out
    simp only [List.cons.injEq, true_and, and_true] at hh
    obtain ⟨rfl, rfl⟩ := hh
    exact h)
  have HCELL : Hid (∀ w', Below W2.heap.size W2 w' → TbBox w' w.heap.size t (.slice A t.ins.length c) (.slice B t.rules.length d) ∧ TbBox w' w1.heap.size t (.slice A1 t.ins.length c1') (.slice B1 t.rules.length d1)) := Lib.hid fun w' hb => ⟨HQ2.out.1.below hb HQ2.out.2, HF2.out.below hb HS2.out⟩
  have HB4d : Hid (Below W2.heap.size W2 w4.drew) := Lib.hid (drewN_below HB4.out 1)
  clear e0 e2 c0 c1 c2 c3 c4 f0 f1 f2 f3 f4 g0 g1 g2 g3 g4
  obtain ⟨⟨a40, a41, a42, a43, a44⟩, ⟨b40, b41, b42, b43, b44⟩⟩ := HCELL.out _ HB4.out
  go_region_held3 (fun w' => w'.cell? ⟨w.heap.size, 0, none⟩ = some (.string ⟨t.name.toArray⟩) ∧ w'.cell? ⟨w.heap.size, 1, none⟩ = some (.int .i64 t.pol) ∧ w'.cell? ⟨w.heap.size, 2, none⟩ = some (.bool t.comp) ∧ w'.cell? ⟨w.heap.size, 3, none⟩ = some (.slice A t.ins.length c) ∧ w'.cell? ⟨w.heap.size, 4, none⟩ = some (.slice B t.rules.length d) ∧ w'.cell? ⟨w1.heap.size, 0, none⟩ = some (.string ⟨t.name.toArray⟩) ∧ w'.cell? ⟨w1.heap.size, 1, none⟩ = some (.int .i64 t.pol) ∧ w'.cell? ⟨w1.heap.size, 2, none⟩ = some (.bool t.comp) ∧ w'.cell? ⟨w1.heap.size, 3, none⟩ = some (.slice A1 t.ins.length c1') ∧ w'.cell? ⟨w1.heap.size, 4, none⟩ = some (.slice B1 t.rules.length d1)) (go_keep) (first | (go_at_call 7; go_must ((with_reducible refine (TGood_b' w4.drew (Rd.below HC2.out HB4d.out) HG.out).mono ?_); rintro e w5 ⟨rfl, hb5⟩; have HB5 := Lib.hid (HB4d.out.trans (hb5.mono HB4d.out.size)); obtain ⟨⟨a50, a51, a52, a53, a54⟩, ⟨b50, b51, b52, b53, b54⟩⟩ := HCELL.out _ HB5.out; clear hb5)) | (go_at_call 8; go_must ((with_reducible refine (IsTable_b' w5 (Rd.below HT2.out HB5.out) HG.out).mono ?_); rintro e w6 ⟨rfl, hb6⟩; have HB6 := Lib.hid (HB5.out.trans (hb6.mono HB5.out.size)); obtain ⟨⟨a60, a61, a62, a63, a64⟩, ⟨b60, b61, b62, b63, b64⟩⟩ := HCELL.out _ HB6.out; clear hb6)) | (go_at_call 9; go_must ((with_reducible refine (Named_b HNA.out w6 HNM.out).mono ?_); rintro e w' ⟨rfl, rfl⟩)) | (go_at_call 10; go_must ((with_reducible refine (IsName_b HNA.out w6 HNM.out).mono ?_); rintro e w7 ⟨rfl, hb7⟩; have HB7 := Lib.hid (HB6.out.trans (hb7.mono HB6.out.size)); obtain ⟨⟨a70, a71, a72, a73, a74⟩, ⟨b70, b71, b72, b73, b74⟩⟩ := HCELL.out _ HB7.out; clear hb7)) | (go_at_call 12; go_must ((with_reducible refine (Matches_any w7 (Rd.below HRC2.out HB7.out) (Rd.below HN2.out HB7.out)).mono ?_); rintro e w8 ⟨z8, rfl, how8, hb8⟩; have HB8 := Lib.hid (HB7.out.trans (hb8.mono HB7.out.size)); obtain ⟨⟨a80, a81, a82, a83, a84⟩, ⟨b80, b81, b82, b83, b84⟩⟩ := HCELL.out _ HB8.out; obtain ⟨A8, l8, rfl⟩ := how8.value; have HO8 := Lib.hid how8; clear how8; clear hb8)) | (go_at_call 13; go_must ((with_reducible refine (MatchesOf_any w8 (Rd.below HRT2.out HB8.out) (Rd.below HN2.out HB8.out)).mono ?_); rintro e w9 ⟨z9, rfl, how9, hb9⟩; have HB9 := Lib.hid (HB8.out.trans (hb9.mono HB8.out.size)); obtain ⟨⟨a90, a91, a92, a93, a94⟩, ⟨b90, b91, b92, b93, b94⟩⟩ := HCELL.out _ HB9.out; obtain ⟨A9, l9, rfl⟩ := how9.value; have HO9 := Lib.hid (how9.rel (by decide)); have HO8b := Lib.hid ((HO8.out.below hb9).rel (by decide)); clear how9; clear hb9)) | (go_at_call 11; go_must ((with_reducible refine (SameNumbers_same w9 HO8b.out HO9.out).mono ?_); rintro e w10 ⟨rfl, hb10⟩; have HB10 := Lib.hid (HB9.out.trans (hb10.mono HB9.out.size)); obtain ⟨⟨a100, a101, a102, a103, a104⟩, ⟨b100, b101, b102, b103, b104⟩⟩ := HCELL.out _ HB10.out; clear hb10)))
  have HEC : Hid (Elems rRl W2 (Up (fun _ => False) W0.heap.size) B1 t.rules) := Lib.hid (by
    obtain ⟨_, _, hh, _, _, _, h⟩ := rSl.elems HRC2.out
    injection hh with h1 h2 h3
    subst h1
    exact h)
  go_wp2
  clear a40 a41 a42 a43 a44 a50 a51 a52 a53 a54 a60 a61 a62 a63 a64 a70 a71 a72 a73 a74 a80 a81 a82 a83 a84 a90 a91 a92 a93 a94 a100 a101 a102 a103 a104 b40 b41 b42 b43 b44 b50 b51 b52 b53 b54 b60 b61 b62 b63 b64 b70 b71 b72 b73 b74 b80 b81 b82 b83 b84 b90 b91 b92 b93 b94 b100 b101 b102 b103 b104
  go_loopw [76] (fun i wr => ∃ k : Nat, k ≤ t.rules.length ∧ i = .int .i64 k ∧ Hid (Below W2.heap.size W2 wr)) (fun i _ => t.rules.length - (intOf i).toNat)
  case atStart => exact ⟨0, Nat.zero_le _, rfl, HB10⟩
  case round =>
    obtain ⟨k, hk, rfl, HBr⟩ := hrel
    by_cases hlt : k < t.rules.length
    · obtain ⟨bB, off, rl, q, rfl, _, hbB, hx, _, hq, h1, h2⟩ := HEC.out.rl hlt
      rw [← HBr.out.cell (p := ⟨bB, _, none⟩) hbB] at h1 h2
      have hq' := Rd.below hq HBr.out
      obtain ⟨A2, c2, rfl, _, _, hl2, hE2⟩ := rSl.elems hq'
      have hl2' : rl.cells.length ≤ 4398046511104 := by simp only [rCl] at hl2; omega
      have hik : (k : Int) < (t.rules.length : Int) := by omega
      obtain ⟨W3, e3, HB3', d0, HE3⟩ : ∃ W3, wr.alloc (.cells #[.slice A2 rl.cells.length c2, .int .i64 rl.out] 37) = W3 ∧ Hid (Below W2.heap.size W2 W3) ∧ W3.cell? ⟨wr.heap.size, 0, none⟩ = some (.slice A2 rl.cells.length c2) ∧ Hid (Elems rCl W3 (Up (fun _ => False) W0.heap.size) A2 rl.cells) :=
        ⟨_, rfl, Lib.hid (HBr.out.alloc HBr.out.size _), World.cell?_alloc_new _ _ _ _, Lib.hid (hE2.keep (.alloc _))⟩
      clear hx hq hq' hl2 hE2
      go_wp2
      clear e3 h1 h2 d0
      generalize wr.heap.size = q15 at *
      go_loopw [83] (fun i wr => ∃ j : Nat, j ≤ rl.cells.length ∧ i = .int .i64 j ∧ Hid (Below W3.heap.size W3 wr)) (fun i _ => rl.cells.length - (intOf i).toNat)
      case atStart => exact ⟨0, Nat.zero_le _, rfl, Lib.hid (Below.refl _ _)⟩
      case round =>
        obtain ⟨j, hj, rfl, HBi⟩ := hrel
        by_cases hlj : j < rl.cells.length
        · obtain ⟨b1, o1, cl, q1, rfl, _, hb1, hx1, hq1, g1, g2⟩ := HE3.out.cl hlj
          rw [← HBi.out.cell (p := ⟨b1, _, none⟩) hb1] at g1 g2
          have hq1' := Rd.below hq1 HBi.out
          obtain ⟨A6, c6, rfl, _⟩ := rSl.elems hq1'
          have hij : (j : Int) < (rl.cells.length : Int) := by omega
          obtain ⟨W4, e4, hB4', n0, n1, hz4⟩ : ∃ W4, wr.alloc (.cells #[.bool cl.no, .slice A6 cl.rs.length c6] 40) = W4 ∧ Below wr.heap.size wr W4 ∧ W4.cell? ⟨wr.heap.size, 0, none⟩ = some (.bool cl.no) ∧ W4.cell? ⟨wr.heap.size, 1, none⟩ = some (.slice A6 cl.rs.length c6) ∧ wr.heap.size < W4.heap.size :=
            ⟨_, rfl, (Below.refl _ _).alloc (Nat.le_refl _) _, World.cell?_alloc_new _ _ _ _, World.cell?_alloc_new _ _ _ _, by simp⟩
          have HB4' := Lib.hid (HBi.out.trans (hB4'.mono HBi.out.size))
          have HHo := fun w' hb' => Holds_any n w' (Rd.below (Rd.below hq1' hB4') hb')
          have HCh := fun w' hb' => CellHolds_any n w' (Rd.below (Rd.below hq1' hB4') hb')
          generalize cellHolds cl n = ch at *
          replace HHo := Lib.hid HHo
          replace HCh := Lib.hid HCh
          clear hx1 hq1 hq1' hB4'
          go_wp2
          clear e4 g1 g2
          refine wp_region_quiet_below (by kernel_rfl) (by kernel_rfl) ?_
          repeat (go_big_quiet_step (first | with_reducible exact Calls.inBelow HHo.out _ _ | with_reducible exact Calls.inBelow HCh.out _ _))
          refine wpQuiet_nil ?_
          intro _ hw'
          obtain ⟨⟨dq, osq⟩, hw''⟩ := hw'
          subst hw''
          go_wp2
          go_roundw
          case rel => exact ⟨j + 1, by omega, by go_num, Lib.hid (HB4'.out.trans ((below_regrown _ _ _).mono HB4'.out.size))⟩
          case measure => simp [intOf]; omega
        · go_wp2
          go_roundw
          case rel => exact ⟨k + 1, by omega, by go_num, Lib.hid (HB3'.out.trans (HBi.out.mono HB3'.out.size))⟩
          case measure => simp [intOf]; omega
    · obtain ⟨⟨a0, a1, a2, a3, a4⟩, ⟨b0, b1, b2, b3, b4⟩⟩ := HCELL.out _ HBr.out
      have hs0 : w.heap.size < wr.heap.size := Nat.lt_of_lt_of_le HQ2.out.2 HBr.out.size
      have hs1 : w1.heap.size < wr.heap.size := Nat.lt_of_lt_of_le HS2.out HBr.out.size
      have HIT := Lib.hid fun w' (hb : Below wr.heap.size wr w') => IsTable_b' w' (Rd.below (Rd.below HT2.out HBr.out) hb) HG.out
      have HST := Lib.hid fun w' (hb : Below wr.heap.size wr w') => SameTable_same w' (Rd.below (Rd.below HC2.out HBr.out) hb) (Rd.below (Rd.below HT2.out HBr.out) hb) HJ.out
      have HTB := Lib.hid fun w' (_ : Below wr.heap.size wr w') => tablesLaw_any w'
      have HBF := Lib.hid (HB2.out.trans (HBr.out.mono HB2.out.size))
      clear HEC HRC2 HRT2
      cases g
      · go_wp2
        refine wp_region_quiet_below (by kernel_rfl) (by kernel_rfl) ?_
        repeat (go_big_quiet_step (first | with_reducible exact Calls.inBelow HIT.out _ _ | with_reducible exact Calls.inBelow HST.out _ _ | with_reducible exact Calls.inBelow HTB.out _ _))
        refine wpQuiet_nil ?_
        intro _ hw'
        obtain ⟨⟨dq, osq⟩, hw''⟩ := hw'
        subst hw''
        go_wp2
        go_ret
        exact ⟨rfl, HBF.out.trans ((below_regrown _ _ _).mono HBF.out.size)⟩
      · have HSP := Lib.hid fun w' (hb : Below wr.heap.size wr w') => Span_any w' (Rd.below (Rd.below HC2.out HBr.out) hb) HG.out
        have HSO := Lib.hid fun w' (hb : Below wr.heap.size wr w') => SpanOf_any w' (Rd.below (Rd.below HT2.out HBr.out) hb) HG.out
        generalize spanT t = sp at *
        go_wp2
        refine wp_region_quiet_below (by kernel_rfl) (by kernel_rfl) ?_
        repeat (go_big_quiet_step (first | with_reducible exact Calls.inBelow HIT.out _ _ | with_reducible exact Calls.inBelow HSP.out _ _ | with_reducible exact Calls.inBelow HSO.out _ _ | with_reducible exact Calls.inBelow HST.out _ _ | with_reducible exact Calls.inBelow HTB.out _ _))
        refine wpQuiet_nil ?_
        intro _ hw'
        obtain ⟨⟨dq, osq⟩, hw''⟩ := hw'
        subst hw''
        go_wp2
        go_ret
        exact ⟨rfl, HBF.out.trans ((below_regrown _ _ _).mono HBF.out.size)⟩

end Go.Proofs.YtlopccnehgolnaaDoor
