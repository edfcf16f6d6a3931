/- TableOrder's walk. -/
import Derived.Test.YtlopccnehgolnaaTabT
import Derived.Test.YtlopccnehgolnaaOrdMath
import Derived.BigRegion
import Derived.Deep.RegionHeld3
import Derived.Deep.DrawnRows
namespace Go.Proofs.Ytlopccnehgolnaa
open Go.RowKit Rb

theorem el_Raw : ElemOf Try.prog (rRaw 2 32) 24 32 := .mk' Try.underlying24 (z := .agg #[.slice none 0 0, .int .i64 0]) (k := 2) (b := 32) (by kernel_rfl) rfl rfl rfl (by decide) (by decide)

set_option maxRecDepth 100000 in
set_option maxHeartbeats 1000000 in
theorem TableOrder_walk {S T : Nat → Prop} {cs : List Value} {t : Tb} {u : Value} {ns : List Int} (k : Int) (w : World) (hl : rTb.rel w S cs t) (hn : (rSl rInt).rel w T [u] ns) :
    Calls Try.prog 4 #[.agg cs.toArray, u, .int .i64 k] w fun e w' => e = .returned (.bool true) ∧ Below w.heap.size w w' := by
  have hl' := hl
  obtain ⟨vi, vr, rfl, hnm, hp, hi, hr⟩ := hl
  obtain ⟨A, c, rfl, _⟩ := rSl.elems hi
  obtain ⟨B, d, rfl, _, _, hr3, hF⟩ := rSl.elems hr
  obtain ⟨C, g, rfl, _, _, hn3, _⟩ := rSl.elems hn
  obtain ⟨W0, e0, hb0, hl0, hn0, c0, c1, c2, c3, c4, hs0⟩ : ∃ W0, w.alloc (.cells #[.string ⟨t.name.toArray⟩, .int .i64 t.pol, .bool t.comp, .slice A t.ins.length c, .slice B t.rules.length d] 26) = W0 ∧ Below w.heap.size w W0 ∧
      rTb.rel W0 S [.string ⟨t.name.toArray⟩, .int .i64 t.pol, .bool t.comp, .slice A t.ins.length c, .slice B t.rules.length d] t ∧ (rSl rInt).rel W0 T [.slice C ns.length g] ns ∧
      W0.cell? ⟨w.heap.size, 0, none⟩ = some (.string ⟨t.name.toArray⟩) ∧ W0.cell? ⟨w.heap.size, 1, none⟩ = some (.int .i64 t.pol) ∧ W0.cell? ⟨w.heap.size, 2, none⟩ = some (.bool t.comp) ∧ W0.cell? ⟨w.heap.size, 3, none⟩ = some (.slice A t.ins.length c) ∧ W0.cell? ⟨w.heap.size, 4, none⟩ = some (.slice B t.rules.length d) ∧ w.heap.size < W0.heap.size :=
    ⟨_, rfl, (Below.refl _ _).alloc (Nat.le_refl _) _, Rd.alloc hl' _, Rd.alloc hn _, World.cell?_alloc_new _ _ _ _, World.cell?_alloc_new _ _ _ _, World.cell?_alloc_new _ _ _ _, World.cell?_alloc_new _ _ _ _, World.cell?_alloc_new _ _ _ _, by simp⟩
  have HG := Lib.hid (TGood_any W0 hl0)
  obtain ⟨raws, hrl, hRaw, hRR⟩ := hF.raw
  have HRR := Lib.hid hRR
  have HRW := Lib.hid hRaw
  have HRL := Lib.hid hrl
  have hrb : raws.length ≤ 4398046511104 := by rw [hrl]; simp only [rRl] at hr3; omega
  have HLW := Lib.hid hl'
  have HIW := Lib.hid hi
  have HNW := Lib.hid hn
  clear hl' hi hr hr3 hn3 hF hn hRR hRaw hrl
  cases hgt : goodT t
  · rw [hgt] at HG
    clear hgt
    go_enter Try.func4, Try.ntmps4
    go_wp2_with (first | (go_at_call 13; refine HG.out.mono ?_; rintro e w1 ⟨rfl, hb1⟩) | (go_at_call 14; refine (tablesKeep_any _).mono ?_; rintro e w2 ⟨rfl, hb2⟩))
    go_ret
    exact ⟨rfl, (hb0.trans (hb1.mono hb0.size)).trans (hb2.mono (Nat.le_trans hb0.size hb1.size))⟩
  have HGT := Lib.hid hgt
  rw [hgt] at HG
  obtain ⟨hp1, hp7, _, _, hr1, hr6⟩ := goodT_head hgt
  clear hgt
  by_cases hs : t.pol = 3 ∨ t.rules.length < 2
  · have hs' : (t.pol == 3) = true ∨ ((t.pol == 3) = false ∧ decide ((t.rules.length : Int) < 2) = true) := by
      by_cases h : t.pol = 3
      · exact .inl (by simpa using h)
      · exact .inr ⟨by simpa using h, by simp; omega⟩
    clear hs
    rcases hs' with hs | ⟨hs, hs2⟩
    all_goals
      go_enter Try.func4, Try.ntmps4
      go_wp2_with (first | (go_at_call 13; refine HG.out.mono ?_; rintro e w1 ⟨rfl, hb1⟩; have k1 := (hb1.cell (p := ⟨w.heap.size, 1, none⟩) hs0).trans c1; have k4 := (hb1.cell (p := ⟨w.heap.size, 4, none⟩) hs0).trans c4) | (go_at_call 14; refine (tablesKeep_any _).mono ?_; rintro e w2 ⟨rfl, hb2⟩))
      go_ret
      exact ⟨rfl, (hb0.trans (hb1.mono hb0.size)).trans (hb2.mono (Nat.le_trans hb0.size hb1.size))⟩
  have hs1 : (t.pol == 3) = false := by simp; omega
  have hs2 : decide ((t.rules.length : Int) < 2) = false := by simp; omega
  have hs3 : (2 : Int) ≤ (t.rules.length : Int) := by omega
  have HP3 : Hid (t.pol ≠ 3) := Lib.hid (by omega)
  clear hs
  obtain ⟨j, hj⟩ : ∃ j : Nat, k % ((t.rules.length : Int) - 1) = j := ⟨(k % ((t.rules.length : Int) - 1)).toNat, by
    have := Int.emod_nonneg k (show (t.rules.length : Int) - 1 ≠ 0 by omega); omega⟩
  have hj2 : (j : Int) + 1 < (t.rules.length : Int) := by
    have := Int.emod_lt_of_pos k (show 0 < (t.rules.length : Int) - 1 by omega); omega
  have HPK := Lib.hid fun w => pick_any k ((t.rules.length : Int) - 1) w (by omega) (by omega)
  rw [hj] at HPK
  clear hj
  have frm : ∀ (i : Nat) (x y : Value), raws[i]? = some [x, y] → ∃ X n m o, x = .slice X n m ∧ y = .int .i64 o := fun i x y h => by
    have hi : i < t.rules.length := by rw [← HRL.out]; exact (List.getElem?_eq_some_iff.1 h).1
    obtain ⟨v, he, _, hs⟩ := HRR.out i _ _ h (List.getElem?_eq_getElem hi)
    obtain ⟨X, m, rfl, _⟩ := rSl.elems hs
    simp only [List.cons.injEq, and_true] at he
    exact ⟨X, _, m, _, he.1, he.2⟩
  have hjl : j + 1 < raws.length := by rw [HRL.out]; omega
  have pair : ∀ i, i < raws.length → ∃ b off a0 a1, B = some ⟨b, off, none⟩ ∧ b < w.heap.size ∧ raws[i]? = some [a0, a1] ∧ a0.oneCell' = true ∧ a1.oneCell' = true ∧ w.cell? ⟨b, off + i * 2, none⟩ = some a0 ∧ w.cell? ⟨b, off + i * 2 + 1, none⟩ = some a1 := fun i hi => by
    obtain ⟨b, off, es, hA, hS, hb, ⟨rfl, h1, h2⟩, hc⟩ := HRW.out i raws[i] (List.getElem?_eq_getElem hi)
    have h1' : raws[i].length = 2 := h1
    have hx : raws[i]? = some raws[i] := List.getElem?_eq_getElem hi
    generalize raws[i] = x at *
    match x, h1' with
    | [a0, a1], _ => exact ⟨b, off, a0, a1, hA, hb, hx, h2 a0 (by simp), h2 a1 (by simp), hc 0 _ rfl, hc 1 _ rfl⟩
  obtain ⟨b, off, a0, a1, rfl, hbw, hxa, oa0, oa1, ga0, ga1⟩ := pair j (by omega)
  obtain ⟨_, _, b0, b1, hA9, _, hxb, ob0, ob1, gb0, gb1⟩ := pair (j + 1) hjl
  obtain ⟨rfl, rfl⟩ : b = _ ∧ off = _ := by simpa using hA9
  obtain ⟨XA, nA, mA, oA, rfl, rfl⟩ := frm _ _ _ hxa
  obtain ⟨XB, nB, mB, oB, rfl, rfl⟩ := frm _ _ _ hxb
  have HXA := Lib.hid (And.intro hxa hxb)
  clear pair frm hA9 hxa hxb
  go_enter Try.func4, Try.ntmps4
  go_wp2_with (first | (go_at_call 13; refine HG.out.mono ?_; rintro e w1 ⟨rfl, hb1⟩; have k0 := (hb1.cell (p := ⟨w.heap.size, 0, none⟩) hs0).trans c0; have k1 := (hb1.cell (p := ⟨w.heap.size, 1, none⟩) hs0).trans c1; have k2 := (hb1.cell (p := ⟨w.heap.size, 2, none⟩) hs0).trans c2; have k3 := (hb1.cell (p := ⟨w.heap.size, 3, none⟩) hs0).trans c3; have k4 := (hb1.cell (p := ⟨w.heap.size, 4, none⟩) hs0).trans c4; have hs1 := Nat.lt_of_lt_of_le hs0 hb1.size; obtain ⟨W2, e2, hb2, hE2, q0, q1, q2, q3, q4, d0, d1, d2, d3, d4, hs2⟩ : ∃ W2, w1.alloc (.cells #[.string ⟨t.name.toArray⟩, .int .i64 t.pol, .bool t.comp, .slice A t.ins.length c, .slice (some ⟨b, off, none⟩) t.rules.length d] 26) = W2 ∧ Below w.heap.size w W2 ∧ Elems (rRaw 2 32) W2 S (some ⟨b, off, none⟩) raws ∧   W2.cell? ⟨w1.heap.size, 0, none⟩ = some (.string ⟨t.name.toArray⟩) ∧ W2.cell? ⟨w1.heap.size, 1, none⟩ = some (.int .i64 t.pol) ∧ W2.cell? ⟨w1.heap.size, 2, none⟩ = some (.bool t.comp) ∧ W2.cell? ⟨w1.heap.size, 3, none⟩ = some (.slice A t.ins.length c) ∧ W2.cell? ⟨w1.heap.size, 4, none⟩ = some (.slice (some ⟨b, off, none⟩) t.rules.length d) ∧   W2.cell? ⟨w.heap.size, 0, none⟩ = some (.string ⟨t.name.toArray⟩) ∧ W2.cell? ⟨w.heap.size, 1, none⟩ = some (.int .i64 t.pol) ∧ W2.cell? ⟨w.heap.size, 2, none⟩ = some (.bool t.comp) ∧ W2.cell? ⟨w.heap.size, 3, none⟩ = some (.slice A t.ins.length c) ∧ W2.cell? ⟨w.heap.size, 4, none⟩ = some (.slice (some ⟨b, off, none⟩) t.rules.length d) ∧ w1.heap.size < W2.heap.size := ⟨_, rfl, (hb0.trans (hb1.mono hb0.size)).alloc (Nat.le_trans hb0.size hb1.size) _, HRW.out.keep (.of_below ((hb0.trans (hb1.mono hb0.size)).alloc (Nat.le_trans hb0.size hb1.size) _)), World.cell?_alloc_new _ _ _ _, World.cell?_alloc_new _ _ _ _, World.cell?_alloc_new _ _ _ _, World.cell?_alloc_new _ _ _ _, World.cell?_alloc_new _ _ _ _,  (World.cell?_alloc_lt _ _ _ hs1).trans k0, (World.cell?_alloc_lt _ _ _ hs1).trans k1, (World.cell?_alloc_lt _ _ _ hs1).trans k2, (World.cell?_alloc_lt _ _ _ hs1).trans k3, (World.cell?_alloc_lt _ _ _ hs1).trans k4, by simp⟩) | (go_at_call 15; refine (HPK.out _).mono ?_; rintro e w2 ⟨rfl, rfl⟩) | (at_builtin; go_must (refine wpList_append_many (R := rRaw 2 32) (v := .slice none 0 0) el_Raw rfl _ (.tmp 37) rfl rfl (Own.nil _ _ W2 W2.heap.size (fun _ => False)) rfl (fun _ => False) HRL.out hE2 (fun _ _ h => h) (fun _ h => h.elim) ?_ (Nat.le_refl _) ?_); (simp only [rRaw, List.length_nil]; omega); intro v3 w3 hown3 hb3 hg3 hv3; have p4 := (hb3.cell (p := ⟨w1.heap.size, 4, none⟩) hs2).trans q4; have pf : w3.frozen? ⟨w1.heap.size, 4, none⟩ = false := (hb3.frozen (p := ⟨w1.heap.size, 4, none⟩) hs2).trans (by rw [← e2]; simp); simp only [List.nil_append] at hown3; obtain ⟨gg, cap3, rfl, hg1, hg2⟩ : ∃ gg cap, v3 = .slice (some ⟨gg, 0, none⟩) raws.length cap ∧ W2.heap.size ≤ gg ∧ gg < w3.heap.size := (by rcases hown3.form with ⟨_, h⟩ | h; (exact absurd hjl (by rw [h]; simp)); exact h)))
  have hjr : (j : Int) + 1 < (raws.length : Int) := by omega
  have hbl2 : b < w.heap.size := hbw
  have hqw : w.heap.size ≤ w1.heap.size := by omega
  obtain ⟨W4, e4, hb4, hown4, m1, m2, xa0, xa1, xb0, xb1, hs4, hg4, HT4, HU4⟩ : ∃ W4, w3.setCell ⟨w1.heap.size, 4, none⟩ (.slice (some ⟨gg, 0, none⟩) raws.length cap3) = W4 ∧ Below w.heap.size w W4 ∧ Own (rRaw 2 32) 32 W4 W2.heap.size (fun _ => False) (.slice (some ⟨gg, 0, none⟩) raws.length cap3) raws ∧
      W4.cell? ⟨w1.heap.size, 4, none⟩ = some (.slice (some ⟨gg, 0, none⟩) raws.length cap3) ∧ W4.cell? ⟨w.heap.size, 4, none⟩ = some (.slice (some ⟨b, off, none⟩) t.rules.length d) ∧
      W4.cell? ⟨b, off + j * 2, none⟩ = some (.slice XA nA mA) ∧ W4.cell? ⟨b, off + j * 2 + 1, none⟩ = some (.int .i64 oA) ∧ W4.cell? ⟨b, off + (j + 1) * 2, none⟩ = some (.slice XB nB mB) ∧ W4.cell? ⟨b, off + (j + 1) * 2 + 1, none⟩ = some (.int .i64 oB) ∧ w1.heap.size < W4.heap.size ∧ gg < W4.heap.size ∧
      Hid (W4.cell? ⟨w.heap.size, 0, none⟩ = some (.string ⟨t.name.toArray⟩) ∧ W4.cell? ⟨w.heap.size, 1, none⟩ = some (.int .i64 t.pol) ∧ W4.cell? ⟨w.heap.size, 2, none⟩ = some (.bool t.comp) ∧ W4.cell? ⟨w.heap.size, 3, none⟩ = some (.slice A t.ins.length c)) ∧
      Hid (W4.cell? ⟨w1.heap.size, 0, none⟩ = some (.string ⟨t.name.toArray⟩) ∧ W4.cell? ⟨w1.heap.size, 1, none⟩ = some (.int .i64 t.pol) ∧ W4.cell? ⟨w1.heap.size, 2, none⟩ = some (.bool t.comp) ∧ W4.cell? ⟨w1.heap.size, 3, none⟩ = some (.slice A t.ins.length c)) := by
    have hb23 : Below w.heap.size w w3 := hb2.trans (hb3.mono (by omega))
    have hbx : Below w.heap.size w (w3.setCell ⟨w1.heap.size, 4, none⟩ (.slice (some ⟨gg, 0, none⟩) raws.length cap3)) := hb23.setCell hqw _
    refine ⟨_, rfl, hbx, hown3.keptF (flat_Raw 2 32) (grownS _ _ _) (.inr (by simp [Value.ownBlock]; omega)),
      World.cell?_setCell_same _ _ _ p4, (World.cell?_setCell_other _ _ _ _ (by intro h; injection h with h1; omega)).trans ((hb3.cell (p := ⟨w.heap.size, 4, none⟩) (by show w.heap.size < W2.heap.size; omega)).trans d4),
      (hbx.cell (p := ⟨b, _, none⟩) hbw).trans ga0, (hbx.cell (p := ⟨b, _, none⟩) hbw).trans ga1, (hbx.cell (p := ⟨b, _, none⟩) hbw).trans gb0, (hbx.cell (p := ⟨b, _, none⟩) hbw).trans gb1, ?_, ?_, ?_, ?_⟩
    · simp; have := hb3.size; omega
    · simp; exact hg2
    · have key : ∀ o u, W2.cell? ⟨w.heap.size, o, none⟩ = some u → (w3.setCell ⟨w1.heap.size, 4, none⟩ (.slice (some ⟨gg, 0, none⟩) raws.length cap3)).cell? ⟨w.heap.size, o, none⟩ = some u := fun o u h =>
        (World.cell?_setCell_other _ _ _ _ (by intro h; injection h with h1; omega)).trans ((hb3.cell (p := ⟨w.heap.size, o, none⟩) (by show w.heap.size < W2.heap.size; omega)).trans h)
      exact Lib.hid ⟨key _ _ d0, key _ _ d1, key _ _ d2, key _ _ d3⟩
    · have key : ∀ o u, o ≠ 4 → W2.cell? ⟨w1.heap.size, o, none⟩ = some u → (w3.setCell ⟨w1.heap.size, 4, none⟩ (.slice (some ⟨gg, 0, none⟩) raws.length cap3)).cell? ⟨w1.heap.size, o, none⟩ = some u := fun o u ho h =>
        (World.cell?_setCell_other _ _ _ _ (by intro h; injection h with _ h1; exact ho h1.symm)).trans ((hb3.cell (p := ⟨w1.heap.size, o, none⟩) hs2).trans h)
      exact Lib.hid ⟨key _ _ (by decide) q0, key _ _ (by decide) q1, key _ _ (by decide) q2, key _ _ (by decide) q3⟩
  have HOW := Lib.hid hown4
  have hg1' : W2.heap.size ≤ gg := hg1
  have hf := hown4.free rfl
  obtain ⟨_, hE4⟩ := hown4.elems (by decide) rfl
  have ro : ∀ i, i < raws.length → ∀ x y, raws[i]? = some [x, y] → W4.cell? ⟨gg, i * 2, none⟩ = some x ∧ W4.cell? ⟨gg, i * 2 + 1, none⟩ = some y := fun i hi x y hxy => by
    obtain ⟨b9, off9, es, hA, _, _, ⟨he, _, _⟩, hc⟩ := hE4 i _ hxy
    obtain ⟨rfl, rfl⟩ : gg = b9 ∧ 0 = off9 := by simpa using hA
    subst he
    have h1 := hc 0 x rfl
    have h2 := hc 1 y rfl
    simp only [Nat.zero_add, Nat.add_zero] at h1 h2
    exact ⟨h1, h2⟩
  obtain ⟨ra0, ra1⟩ := ro j (by omega) _ _ HXA.out.1
  obtain ⟨rb0, rb1⟩ := ro (j + 1) hjl _ _ HXA.out.2
  have hj0 : (0 : Int) ≤ (j : Int) := by omega
  have hj01 : (0 : Int) ≤ (j : Int) + 1 := by omega
  have hjT : ((j : Int) + 1).toNat = j + 1 := by omega
  have hjj : IntKind.i64.wrap ((j : Int) + 1) = (j : Int) + 1 := IntWalk.i64_in _ (by omega)
  have hjt : (j : Int) < (t.rules.length : Int) := by omega
  have hjr1 : (j : Int) < (raws.length : Int) := by omega
  have hne1 : ¬ j * 2 = (j + 1) * 2 := by omega
  have hne2 : ¬ j * 2 + 1 = (j + 1) * 2 := by omega
  have hne3 : ¬ j * 2 = (j + 1) * 2 + 1 := by omega
  have hne4 : ¬ gg = w1.heap.size := by omega
  have hne5 : ¬ gg = w.heap.size := by omega
  have hne6 : ¬ gg = b := by omega
  rw [e4]
  clear ro hE4 hown4 e4 e2 hown3 hb3 hg3 p4 pf q0 q1 q2 q3 q4 d0 d1 d2 d3 d4 k0 k1 k4 k2 k3 hE2 c0 c1 c2 c3 c4 e0 hg1 ga0 ga1 gb0 gb1 hl0
  go_region_held3 (fun w' => w'.cell? ⟨w1.heap.size, 4, none⟩ = some (.slice (some ⟨gg, 0, none⟩) raws.length cap3) ∧ w'.cell? ⟨w.heap.size, 4, none⟩ = some (.slice (some ⟨b, off, none⟩) t.rules.length d) ∧ w'.cell? ⟨b, off + j * 2, none⟩ = some (.slice XA nA mA) ∧ w'.cell? ⟨b, off + j * 2 + 1, none⟩ = some (.int .i64 oA) ∧ w'.cell? ⟨b, off + (j + 1) * 2, none⟩ = some (.slice XB nB mB) ∧ w'.cell? ⟨b, off + (j + 1) * 2 + 1, none⟩ = some (.int .i64 oB)) (go_keep) (fail)
  generalize hW6 : (World.setCell _ _ _).drew = W6
  have hb6 : Below W2.heap.size W4 W6 := by
    rw [← hW6]
    have h0 := Below.refl W2.heap.size W4
    exact drewN_below ((((h0.setCell (p := ⟨gg, _, none⟩) hg1' _).setCell (p := ⟨gg, _, none⟩) hg1' _).setCell (p := ⟨gg, _, none⟩) hg1' _).setCell (p := ⟨gg, _, none⟩) hg1' _) 1
  have hown6 : Own (rRaw 2 32) 32 W6 W2.heap.size (fun _ => False) (.slice (some ⟨gg, 0, none⟩) raws.length cap3) ((raws.set j [.slice XB nB mB, .int .i64 oB]).set (j + 1) [.slice XA nA mA, .int .i64 oA]) := by
    rw [← hW6]
    refine Own.drew ?_
    refine Own.raw2 (x := .slice XB nB mB) (y := .int .i64 oB) (HOW.out.raw2 rfl HXA.out.1 rfl rfl) rfl ?_ rfl rfl
    rw [List.getElem?_set_ne (by omega)]
    exact HXA.out.2
  have hbW : Below w.heap.size w W6 := hb4.trans (hb6.mono (by omega))
  have hjt2 : j + 1 < t.rules.length := by omega
  obtain ⟨rules', hru⟩ : ∃ r, (t.rules.set j (t.rules[j + 1]'hjt2)).set (j + 1) (t.rules[j]'(by omega)) = r := ⟨_, rfl⟩
  have hrlen : rules'.length = raws.length := by rw [← hru, HRL.out]; simp
  have hperm : t.rules.Perm rules' := by
    rw [← hru]; exact swap_perm _ _ _ _ (List.getElem?_eq_getElem (by omega)) (List.getElem?_eq_getElem hjt2)
  have hrel6 : (rSl rRl).rel W6 (fun b => S b ∨ Up (fun _ => False) W2.heap.size b) [.slice (some ⟨gg, 0, none⟩) raws.length cap3] rules' := by
    obtain ⟨A9, c9, hv9, h1, h2, h3, h4⟩ := hown6.rel (by decide)
    simp only [List.cons.injEq, Value.slice.injEq, and_true] at hv9
    obtain ⟨rfl, hn9, rfl⟩ := hv9
    refine ⟨_, cap3, by rw [hrlen], by rw [hrlen]; simpa using h1, h2, by rw [hrlen, show rRl.bytes = 32 from rfl]; have h3' : ((raws.set j [.slice XB nB mB, .int .i64 oB]).set (j + 1) [.slice XA nA mA, .int .i64 oA]).length * 32 ≤ 140737488355328 := h3; simpa using h3', ?_⟩
    refine Elems.unraw (R := rRl) (S := S) h4 (by simp [hrlen]) fun i p x hp hx => ?_
    rw [← hru] at hx
    have hjr' : j + 1 < raws.length := by omega
    rcases set2_at hjr' hp with ⟨rfl, rfl⟩ | ⟨rfl, rfl⟩ | ⟨h5, h6, h7⟩
    · rcases set2_at hjt2 hx with ⟨_, rfl⟩ | ⟨h, _⟩ | ⟨_, h, _⟩
      · exact Rd.below (HRR.out j _ _ HXA.out.1 (List.getElem?_eq_getElem (by omega))) hbW
      · omega
      · omega
    · rcases set2_at hjt2 hx with ⟨h, _⟩ | ⟨_, rfl⟩ | ⟨h, _, _⟩
      · omega
      · exact Rd.below (HRR.out (i + 1) _ _ HXA.out.2 (List.getElem?_eq_getElem hjt2)) hbW
      · omega
    · rcases set2_at hjt2 hx with ⟨h, _⟩ | ⟨h, _⟩ | ⟨_, _, h8⟩
      · omega
      · omega
      · exact Rd.below (HRR.out i _ _ h7 h8) hbW
  have hu6 : rTb.rel W6 (fun b => S b ∨ Up (fun _ => False) W2.heap.size b) [.string ⟨t.name.toArray⟩, .int .i64 t.pol, .bool t.comp, .slice A t.ins.length c, .slice (some ⟨gg, 0, none⟩) raws.length cap3] ⟨t.name, t.pol, t.comp, t.ins, rules'⟩ :=
    ⟨_, _, rfl, hnm, hp, (rSl rStr).mono (Rd.below HIW.out hbW) fun b hb _ => .inl hb, hrel6⟩
  have hsame : saysT ⟨t.name, t.pol, t.comp, t.ins, rules'⟩ ns = saysT t ns := (says_perm (t := t) (u := ⟨t.name, t.pol, t.comp, t.ins, rules'⟩) rfl rfl rfl hperm HP3.out HGT.out).symm
  have HC1 := Lib.hid (Says_any W6 (Rd.below HLW.out hbW) (Rd.below HNW.out hbW))
  have HC2 := Lib.hid fun W7 (hb : Below W6.heap.size W6 W7) => Says_at W7 (Rd.below hu6 hb) (Rd.below (Rd.below HNW.out hbW) hb) hsame
  obtain ⟨t0, t1, t2, t3⟩ := HT4.out
  obtain ⟨u0, u1, u2, u3⟩ := HU4.out
  have hqs : w.heap.size < W2.heap.size := by omega
  have a0 := (hb6.cell (p := ⟨w.heap.size, 0, none⟩) hqs).trans t0
  have a1 := (hb6.cell (p := ⟨w.heap.size, 1, none⟩) hqs).trans t1
  have a2 := (hb6.cell (p := ⟨w.heap.size, 2, none⟩) hqs).trans t2
  have a3 := (hb6.cell (p := ⟨w.heap.size, 3, none⟩) hqs).trans t3
  have a4 := (hb6.cell (p := ⟨w.heap.size, 4, none⟩) hqs).trans m2
  have HV0 := Lib.hid ((hb6.cell (p := ⟨w1.heap.size, 0, none⟩) hs2).trans u0)
  have HV1 := Lib.hid ((hb6.cell (p := ⟨w1.heap.size, 1, none⟩) hs2).trans u1)
  have HV2 := Lib.hid ((hb6.cell (p := ⟨w1.heap.size, 2, none⟩) hs2).trans u2)
  have HV3 := Lib.hid ((hb6.cell (p := ⟨w1.heap.size, 3, none⟩) hs2).trans u3)
  have HV4 := Lib.hid ((hb6.cell (p := ⟨w1.heap.size, 4, none⟩) hs2).trans m1)
  have hs6 : w1.heap.size < W6.heap.size := Nat.lt_of_lt_of_le hs4 hb6.size
  obtain ⟨⟨xn, xo, xe⟩, hxx⟩ : ∃ x, saysT t ns = x := ⟨_, rfl⟩
  rw [hxx] at HC1 HC2
  clear hW6 hown6 hb6 hu6 hrel6 hsame hperm hru hxx t0 t1 t2 t3 u0 u1 u2 u3 m1 m2 xa0 xa1 xb0 xb1 hrlen ra0 ra1 rb0 rb1 hf HT4 HU4
  go_wp2_with (first | (go_at_call 16; ((with_reducible refine HC1.out.mono ?_); rintro e W7 ⟨rfl, hb7⟩; unfold sayV; have v0 := (hb7.cell (p := ⟨w1.heap.size, 0, none⟩) hs6).trans HV0.out; have v1 := (hb7.cell (p := ⟨w1.heap.size, 1, none⟩) hs6).trans HV1.out; have v2 := (hb7.cell (p := ⟨w1.heap.size, 2, none⟩) hs6).trans HV2.out; have v3 := (hb7.cell (p := ⟨w1.heap.size, 3, none⟩) hs6).trans HV3.out; have v4 := (hb7.cell (p := ⟨w1.heap.size, 4, none⟩) hs6).trans HV4.out)) | (go_at_call 16; ((with_reducible refine (HC2.out _ hb7).mono ?_); rintro e W8 ⟨rfl, hb8⟩; unfold sayV)) | (go_at_call 14; refine (tablesKeep_any _).mono ?_; rintro e W9 ⟨rfl, hb9⟩))
  go_ret
  have s7 := Nat.le_trans hbW.size hb7.size
  exact ⟨rfl, ((hbW.trans (hb7.mono hbW.size)).trans (hb8.mono s7)).trans (hb9.mono (Nat.le_trans s7 hb8.size))⟩

end Go.Proofs.Ytlopccnehgolnaa
