
/- The contract of the reference's SpanOf. -/
import Derived.Test.YtlopccnehgolnaaDoorBookAX
import Derived.Test.YtlopccnehgolnaaDoorTabS
import Derived.BigQuiet
import Derived.Deep.DeepMust
namespace Go.Proofs.YtlopccnehgolnaaDoor
open Go.RowKit Rb

structure Acc4 where
  lo : Int
  hi : Int
  be : Int
  ab : Int
def acc4 (a : Acc4) (r : Rl) : Acc4 := ⟨min a.lo r.out, max a.hi r.out, a.be + min r.out 0, a.ab + max r.out 0⟩
def accTo (rs : List Rl) : Acc4 := rs.foldl acc4 ⟨1000000, -1000000, 0, 0⟩
theorem accTo_succ {rs : List Rl} {k : Nat} {x : Rl} (h : rs[k]? = some x) : accTo (rs.take (k + 1)) = acc4 (accTo (rs.take k)) x := by
  unfold accTo
  rw [List.take_add_one, h, Option.toList_some, List.foldl_append]
  rfl
def spanR (t : Tb) : Int × Int := if t.pol = 6 then ((accTo t.rules).be, (accTo t.rules).ab) else if t.pol = 7 then (0, t.rules.length) else ((accTo t.rules).lo, (accTo t.rules).hi)

/-- Of good tables both say the same. -/
theorem spanR_eq {t : Tb} (hg : goodT t = true) : spanR t = spanT t := by
  have hh := goodT_head hg
  have ho : ∀ r ∈ t.rules, -1000000 ≤ r.out ∧ r.out ≤ 1000000 := fun r hr => goodT_out hg hr
  unfold spanR spanT
  by_cases h7 : t.pol = 7
  · rw [if_neg (by omega), if_pos h7, if_pos h7]
  rw [if_neg h7, if_neg h7]
  by_cases h6 : t.pol = 6
  · rw [if_pos h6]
    have gen : ∀ (l : List Rl) (i : Nat) (a : Acc4), (∀ r ∈ l, -1000000 ≤ r.out ∧ r.out ≤ 1000000) → ((l.foldl acc4 a).be, (l.foldl acc4 a).ab) = spanAt 6 i l (a.be, a.ab) := by
      intro l
      induction l with
      | nil => intro i a _; rfl
      | cons x l ih =>
        intro i a h
        have hx := h x (by simp)
        rw [List.foldl_cons, ih (i + 1) _ (fun r hr => h r (by simp [hr])), spanAt]
        congr 1
        unfold spanStep acc4
        rw [if_pos rfl]
        by_cases h0 : x.out < 0
        · rw [if_pos h0]; simp only [Prod.mk.injEq]; omega
        · rw [if_neg h0]; simp only [Prod.mk.injEq]; omega
    rw [h6]
    exact gen t.rules 0 _ ho
  · rw [if_neg h6]
    have gen : ∀ (l : List Rl) (i : Nat) (a : Acc4), 0 < i → ((l.foldl acc4 a).lo, (l.foldl acc4 a).hi) = spanAt t.pol i l (a.lo, a.hi) := by
      intro l
      induction l with
      | nil => intro i a _; rfl
      | cons x l ih =>
        intro i a h
        rw [List.foldl_cons, ih (i + 1) _ (by omega), spanAt]
        congr 1
        unfold spanStep acc4
        rw [if_neg h6, if_neg (by omega)]
    match hr : t.rules with
    | [] => rw [hr] at hh; simp at hh
    | x :: l =>
      have hx := ho x (by rw [hr]; simp)
      unfold accTo
      rw [List.foldl_cons, gen l 1 _ (by omega), spanAt]
      congr 1
      unfold spanStep acc4
      rw [if_neg h6, if_pos rfl]
      simp only [Prod.mk.injEq]; omega

set_option maxRecDepth 100000 in
set_option maxHeartbeats 800000 in
theorem SpanOf_any {S : Nat → Prop} {cs : List Value} {t : Tb} (w : World) (hl : rTb.rel w S cs t) (hg : goodT t = true) :
    Calls Tryd.prog 17 #[.agg cs.toArray] w fun e w' => e = .returned (.agg #[.int .i64 (spanT t).1, .int .i64 (spanT t).2]) ∧ Below w.heap.size w w' := by
  have HQ := Lib.hid (spanR_eq hg)
  have HOUT := Lib.hid fun r (h : r ∈ t.rules) => goodT_out hg h
  have hr6 := (goodT_head hg).2.2.2.2.2
  clear hg
  obtain ⟨vi, vr, rfl, hnm, hp, hi, hr⟩ := hl
  obtain ⟨A, c, rfl, _⟩ := rSl.elems hi
  obtain ⟨B, d, rfl, hr1, hr2, hr3, hF⟩ := rSl.elems hr
  obtain ⟨W1, e1, HB1, k1, k4, f0, f1, z0, z1, hs1, hs0⟩ : ∃ W1, (w.alloc (.cells #[.string ⟨t.name.toArray⟩, .int .i64 t.pol, .bool t.comp, .slice A t.ins.length c, .slice B t.rules.length d] 25)).alloc (.cells #[.int .i64 0, .int .i64 0] 43) = W1 ∧ Hid (Below w.heap.size w W1) ∧ W1.cell? ⟨w.heap.size, 1, none⟩ = some (.int .i64 t.pol) ∧ W1.cell? ⟨w.heap.size, 4, none⟩ = some (.slice B t.rules.length d) ∧
      W1.cell? ⟨w.heap.size + 1, 0, none⟩ = some (.int .i64 0) ∧ W1.cell? ⟨w.heap.size + 1, 1, none⟩ = some (.int .i64 0) ∧ W1.frozen? ⟨w.heap.size + 1, 0, none⟩ = false ∧ W1.frozen? ⟨w.heap.size + 1, 1, none⟩ = false ∧ w.heap.size + 1 < W1.heap.size ∧ w.heap.size < W1.heap.size := by
    have e : (w.alloc (.cells #[.string ⟨t.name.toArray⟩, .int .i64 t.pol, .bool t.comp, .slice A t.ins.length c, .slice B t.rules.length d] 25)).heap.size = w.heap.size + 1 := by simp
    refine ⟨_, rfl, Lib.hid (((Below.refl _ _).alloc (Nat.le_refl _) _).alloc (by simp) _), (World.cell?_alloc_lt _ _ _ (by simp)).trans (World.cell?_alloc_new _ _ _ _), (World.cell?_alloc_lt _ _ _ (by simp)).trans (World.cell?_alloc_new _ _ _ _), ?_, ?_, ?_, ?_, by simp, by simp; omega⟩ <;> rw [← e] <;> first | exact World.cell?_alloc_new _ _ _ _ | simp
  clear hi hr hr3 hnm hp
  go_enter Tryd.func17, Tryd.ntmps17
  go_wp2
  clear e1
  generalize hq3 : w.heap.size + 1 = q3 at *
  have HQ3 : Hid (w.heap.size ≤ q3) := Lib.hid (by omega)
  clear hq3
  go_loopw [3, 4, 5, 6, 12] (fun s3 s4 s5 s6 i wr => ∃ (k : Nat) (a : Acc4), k ≤ t.rules.length ∧ i = .int .i64 k ∧ s3 = .int .i64 a.lo ∧ s4 = .int .i64 a.hi ∧ s5 = .int .i64 a.be ∧ s6 = .int .i64 a.ab ∧ Hid (accTo (t.rules.take k) = a) ∧ (-1000000 ≤ a.lo ∧ a.lo ≤ 1000000) ∧ (-1000000 ≤ a.hi ∧ a.hi ≤ 1000000) ∧ (-(1000000 * (k : Int)) ≤ a.be ∧ a.be ≤ 0) ∧ (0 ≤ a.ab ∧ a.ab ≤ 1000000 * (k : Int)) ∧ Hid (Below W1.heap.size W1 wr)) (fun _ _ _ _ i _ => t.rules.length - (intOf i).toNat)
  case atStart => exact ⟨0, ⟨1000000, -1000000, 0, 0⟩, Nat.zero_le _, rfl, rfl, rfl, rfl, rfl, Lib.hid rfl, by simp, by simp, by simp, by simp, Lib.hid (Below.refl _ _)⟩
  case round =>
    obtain ⟨k, ⟨lo, hi, be, ab⟩, hk, rfl, rfl, rfl, rfl, rfl, HA, ⟨l1, l2⟩, ⟨l3, l4⟩, ⟨l5, l6⟩, ⟨l7, l8⟩, HB⟩ := hrel
    dsimp only at l1 l2 l3 l4 l5 l6 l7 l8
    by_cases hlt : k < t.rules.length
    · obtain ⟨b, off, r, q, rfl, _, hb, hx, _, hq, h1, h2⟩ := hF.rl hlt
      have hbw := HB1.out.trans (HB.out.mono HB1.out.size)
      rw [← hbw.cell (p := ⟨b, _, none⟩) hb] at h1 h2
      have hik : (k : Int) < (t.rules.length : Int) := by omega
      have ⟨o1, o2⟩ := HOUT.out r (List.mem_of_getElem? hx)
      have HA2 := Lib.hid (accTo_succ hx)
      obtain ⟨W2, e2, HB2, d1⟩ : ∃ W2, wr.alloc (.cells #[q, .int .i64 r.out] 37) = W2 ∧ Hid (Below W1.heap.size W1 W2) ∧ W2.cell? ⟨wr.heap.size, 1, none⟩ = some (.int .i64 r.out) :=
        ⟨_, rfl, Lib.hid (HB.out.alloc HB.out.size _), World.cell?_alloc_new _ _ _ _⟩
      obtain ⟨A2, c2, rfl, _⟩ := rSl.elems hq
      clear hx hq hF
      generalize ho : r.out = o at *
      have HO := Lib.hid ho
      clear ho
      go_wp2
      clear e2 h1 h2
      go_quiet (fail)
      all_goals go_wp2
      all_goals go_quiet (fail)
      all_goals go_wp2
      all_goals go_roundw
      all_goals first
        | exact ⟨k + 1, ⟨_, _, _, _⟩, by omega, by go_num, rfl, rfl, rfl, rfl, Lib.hid (by rw [HA2.out, HA.out]; simp only [acc4, Acc4.mk.injEq, HO.out]; refine ⟨?_, ?_, ?_, ?_⟩ <;> first | omega | (split <;> omega)), by dsimp only; first | omega | (split <;> omega), by dsimp only; first | omega | (split <;> omega), by dsimp only; first | omega | (split <;> omega), by dsimp only; first | omega | (split <;> omega), Lib.hid (drewN_below HB2.out _)⟩
        | (simp [intOf]; omega)
    · have HA1 : Hid (accTo t.rules = ⟨lo, hi, be, ab⟩) := Lib.hid (by rw [← HA.out, List.take_of_length_le (by omega)])
      have hbw := HB1.out.trans (HB.out.mono HB1.out.size)
      have g1 := (HB.out.cell (p := ⟨w.heap.size, 1, none⟩) hs0).trans k1
      have c0 : wr.cell? ⟨q3, 0, none⟩ = some (.int .i64 0) := (HB.out.cell (p := ⟨q3, 0, none⟩) hs1).trans f0
      have c1 : wr.cell? ⟨q3, 1, none⟩ = some (.int .i64 0) := (HB.out.cell (p := ⟨q3, 1, none⟩) hs1).trans f1
      have y0 : wr.frozen? ⟨q3, 0, none⟩ = false := (HB.out.frozen (p := ⟨q3, 0, none⟩) hs1).trans z0
      have y1 : wr.frozen? ⟨q3, 1, none⟩ = false := (HB.out.frozen (p := ⟨q3, 1, none⟩) hs1).trans z1
      have g4 := (HB.out.cell (p := ⟨w.heap.size, 4, none⟩) hs0).trans k4
      have HST : Hid (∀ x y : Int, ∃ W4, (wr.setCell ⟨q3, 0, none⟩ (.int .i64 x)).setCell ⟨q3, 1, none⟩ (.int .i64 y) = W4 ∧ Below w.heap.size w W4 ∧ W4.cell? ⟨q3, 0, none⟩ = some (.int .i64 x) ∧ W4.cell? ⟨q3, 1, none⟩ = some (.int .i64 y)) := Lib.hid (fun x y =>
        ⟨_, rfl, (hbw.setCell HQ3.out _).setCell HQ3.out _, (World.cell?_setCell_other _ _ _ _ (by simp)).trans (World.cell?_setCell_same _ _ _ c0), World.cell?_setCell_same _ _ _ ((World.cell?_setCell_other _ _ _ _ (by simp)).trans c1)⟩)
      have HE : Hid (spanT t = if t.pol = 6 then (be, ab) else if t.pol = 7 then (0, (t.rules.length : Int)) else (lo, hi)) := Lib.hid (by rw [← HQ.out]; unfold spanR; rw [HA1.out])
      clear hbw HA1 HQ
      by_cases h6 : t.pol = 6
      · have hq6 : (t.pol == 6) = true := by rw [beq_iff_eq]; exact h6
        have HR : Hid (spanT t = (be, ab)) := Lib.hid (by rw [HE.out, if_pos h6])
        clear h6
        obtain ⟨W4, e4, hb4, j0, j1⟩ := HST.out be ab
        go_wp2
        refine bodyPost_ret (by simp [results, Tryd.results17, go_sem, j0, j1]; rfl) rfl ?_
        exact ⟨by rw [HR.out], hb4⟩
      have hq6 : (t.pol == 6) = false := by rw [beq_eq_false_iff_ne]; exact h6
      by_cases h7 : t.pol = 7
      · have hq7 : (t.pol == 7) = true := by rw [beq_iff_eq]; exact h7
        have HR : Hid (spanT t = (0, (t.rules.length : Int))) := Lib.hid (by rw [HE.out, if_neg h6, if_pos h7])
        clear h6 h7
        obtain ⟨W4, e4, hb4, j0, j1⟩ := HST.out 0 t.rules.length
        go_wp2
        refine bodyPost_ret (by simp [results, Tryd.results17, go_sem, j0, j1]; rfl) rfl ?_
        exact ⟨by rw [HR.out], hb4⟩
      · have hq7 : (t.pol == 7) = false := by rw [beq_eq_false_iff_ne]; exact h7
        have HR : Hid (spanT t = (lo, hi)) := Lib.hid (by rw [HE.out, if_neg h6, if_neg h7])
        clear h6 h7
        obtain ⟨W4, e4, hb4, j0, j1⟩ := HST.out lo hi
        go_wp2
        refine bodyPost_ret (by simp [results, Tryd.results17, go_sem, j0, j1]; rfl) rfl ?_
        exact ⟨by rw [HR.out], hb4⟩

end Go.Proofs.YtlopccnehgolnaaDoor
