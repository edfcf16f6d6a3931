
/- The plain laws of gaps and of spans. -/
import Derived.Test.YtlopccnehgolnabAreas
import Derived.Test.YtlopccnehgolnabOneMath
import Derived.Test.YtlopccnehgolnabSpanT
namespace Go.Proofs.Ytlopccnehgolnab
open Go.RowKit Rb

theorem areas_any_in {all : Bx} {n : Nat} (hb : goodBx all (n : Int) = true) (ns : List Int) (hin : inBx all ns = true) : ∀ {rs : List Rl}, (∀ r ∈ rs, r.cells.length = n) →
    (areasTo rs all).any (fun b => goodBx b (all.length : Int) && inBx b ns) = rs.any (ruleHolds · ns)
  | [], _ => rfl
  | r :: rs, h => by
    have h6 : (all.length : Int) = n := (goodBx_iff.1 hb).2.1
    have hl3 := (goodBx_iff.1 hb).2.2
    have ih := areas_any_in hb ns hin (rs := rs) fun x hx => h x (by simp [hx])
    have e : areasTo (r :: rs) all = (if someBx (areaB r all) then [optBx (areaB r all)] else []) ++ areasTo rs all := rfl
    have hgb : goodBx all (all.length : Int) = true := by rw [h6]; exact hb
    have hr := h r (by simp)
    rw [e, List.any_append, List.any_cons, ih]
    congr 1
    cases ha : areaB r all with
    | none =>
      have := areaB_none ha (by omega) hgb ns
      rw [hin, Bool.true_and] at this
      rw [this]; rfl
    | some a =>
      obtain ⟨a1, a2, a3⟩ := areaB_some ha
      show ([a].any _) = _
      simp only [List.any_cons, List.any_nil, Bool.or_false]
      rw [show (all.length : Int) = (a.length : Int) by omega, goodBx_of a2 rfl (by omega), a1, hin]
      rfl

theorem cntIn_pos {l : List Bx} {ns : List Int} : 0 < cntIn l ns ↔ ∃ x ∈ l, inBx x ns = true := by
  unfold cntIn
  rw [List.length_pos_iff_exists_mem]
  simp only [List.mem_filter]

section
variable {t : Tb} {all : Bx} (hg : goodT t = true) (hb : goodBx all (t.ins.length : Int) = true)
include hg hb

theorem gapB_law : (∀ x ∈ gapB t all, Sets x) ∧ (t.pol ≠ 7 → ∀ ns, (∃ x ∈ gapB t all, inBx x ns = true) ↔ inBx all ns = true ∧ t.rules.any (ruleHolds · ns) = false) ∧ (t.pol = 7 → gapB t all = []) := by
  have h6 : (all.length : Int) = t.ins.length := (goodBx_iff.1 hb).2.1
  have hgb : goodBx all (all.length : Int) = true := by rw [h6]; exact hb
  have hlw := restB_law hgb (areasTo t.rules all)
  refine ⟨fun x hx => ?_, fun h7 ns => ?_, fun h7 => ?_⟩
  · unfold gapB at hx
    split at hx
    · exact ((hlw []).1 x hx).1
    · simp at hx
  · have e : gapB t all = restB all (areasTo t.rules all) := by unfold gapB; rw [hg, hb, decide_eq_false h7]; rfl
    rw [e, ← cntIn_pos, (hlw ns).2.2]
    unfold leftB
    cases hin : inBx all ns
    · simp
    · rw [areas_any_in hb ns hin fun r hr => goodT_cells hg hr]
      cases t.rules.any (ruleHolds · ns) <;> simp
  · unfold gapB; rw [decide_eq_true h7, Bool.not_true, Bool.and_false]; rfl

omit hg hb in
theorem sayLoop_ok (pol : Int) : ∀ (l : List Int) (n : Int), (sayLoop pol n l).2.2 = 0 → (sayLoop pol n l).2.1 = true
  | [], n, _ => rfl
  | o :: l, n, h => by
    have ih := sayLoop_ok pol l
    simp only [sayLoop] at h ⊢
    by_cases h1 : pol = 1
    · rw [if_pos h1] at h; cases h
    rw [if_neg h1] at h ⊢
    by_cases h2 : pol = 2
    · rw [if_pos h2] at h ⊢
      split at h
      · cases h
      · rename_i hx; rw [if_neg hx]; exact ih _ h
    rw [if_neg h2] at h ⊢
    split at h
    · rename_i h4; rw [if_pos h4]; exact ih _ h
    · rename_i h4
      rw [if_neg h4]
      split at h
      · rename_i h5; rw [if_pos h5]; exact ih _ h
      · rename_i h5
        rw [if_neg h5]
        split at h
        · rename_i h6; rw [if_pos h6]; exact ih _ h
        · rename_i h6; rw [if_neg h6]; exact ih _ h

omit hb in
theorem says_form {ns : List Int} (hl : ns.length = t.ins.length) : saysT t ns = if t.pol = 7 then (((outsL t.rules ns).length : Int), true, 0) else sayO t.pol (outsL t.rules ns) := by
  unfold saysT; rw [if_pos ⟨hg, hl⟩, sayL_eq]

omit hg hb in
theorem outs_nil {rs : List Rl} {ns : List Int} : outsL rs ns = [] ↔ rs.any (ruleHolds · ns) = false := by
  unfold outsL
  rw [List.map_eq_nil_iff, List.filter_eq_nil_iff, List.any_eq_false]

/-- Nothing is said, and no error given, just where no rule holds. -/
theorem gap_says (ns : List Int) (hin : inBx all ns = true) (h7 : t.pol ≠ 7) : ((saysT t ns).2.1 = false ∧ (saysT t ns).2.2 = 0) ↔ t.rules.any (ruleHolds · ns) = false := by
  have h6 : (all.length : Int) = t.ins.length := (goodBx_iff.1 hb).2.1
  have hlen := inBx_len hin
  rw [says_form hg (by omega), if_neg h7, ← outs_nil]
  cases outsL t.rules ns with
  | nil => simp [sayO]
  | cons o l =>
    constructor
    · rintro ⟨h1, h2⟩
      have := sayLoop_ok t.pol l o h2
      rw [show (sayO t.pol (o :: l)).2.1 = (sayLoop t.pol o l).2.1 from rfl, this] at h1
      cases h1
    · intro h; cases h

/-- The gap that is told is one: an input of the domains, and nothing is said of it. -/
theorem gap_at (h : 0 < (gapB t all).length) : inBx all (leastB (gapB t all)) = true ∧ (saysT t (leastB (gapB t all))).2.1 = false ∧ (saysT t (leastB (gapB t all))).2.2 = 0 := by
  obtain ⟨h1, h2, h3⟩ := gapB_law hg hb
  have h7 : t.pol ≠ 7 := fun e => by rw [h3 e] at h; simp at h
  obtain ⟨x, hx, e⟩ := leastB_mem (l := gapB t all) (by intro e; rw [e] at h; simp at h)
  rw [e]
  have hin := (h2 h7 _).1 ⟨x, hx, point_in (h1 x hx)⟩
  exact ⟨hin.1, (gap_says hg hb _ hin.1 h7).2 hin.2⟩
/-- Where there is no gap, something is said, or an error given. -/
theorem gap_no (ns : List Int) (hin : inBx all ns = true) (h0 : (saysT t ns).2.1 = false) (he : (saysT t ns).2.2 = 0) : ∃ x ∈ gapB t all, inBx x ns = true := by
  obtain ⟨h1, h2, h3⟩ := gapB_law hg hb
  have h6 : (all.length : Int) = t.ins.length := (goodBx_iff.1 hb).2.1
  have hlen := inBx_len hin
  have h7 : t.pol ≠ 7 := fun e => by rw [says_form hg (by omega), if_pos e] at h0; cases h0
  exact (h2 h7 ns).2 ⟨hin, (gap_says hg hb ns hin h7).1 ⟨h0, he⟩⟩
end

theorem sayLoop_in (pol : Int) (h6 : pol ≠ 6) (lo hi : Int) : ∀ (l : List Int) (n : Int), (lo ≤ n ∧ n ≤ hi) → (∀ o ∈ l, lo ≤ o ∧ o ≤ hi) → (sayLoop pol n l).2.1 = true → lo ≤ (sayLoop pol n l).1 ∧ (sayLoop pol n l).1 ≤ hi
  | [], n, hn, _, _ => hn
  | o :: l, n, hn, hl, h => by
    have ih := sayLoop_in pol h6 lo hi l
    have ho := hl o (by simp)
    have hl' : ∀ o ∈ l, lo ≤ o ∧ o ≤ hi := fun x hx => hl x (by simp [hx])
    simp only [sayLoop] at h ⊢
    by_cases h1 : pol = 1
    · rw [if_pos h1] at h; cases h
    rw [if_neg h1] at h ⊢
    by_cases h2 : pol = 2
    · rw [if_pos h2] at h ⊢
      split at h
      · cases h
      · rename_i hx; rw [if_neg hx]; exact ih _ hn hl' h
    rw [if_neg h2] at h ⊢
    split at h
    · rename_i h4; rw [if_pos h4]; exact ih _ (by omega) hl' h
    · rename_i h4
      rw [if_neg h4]
      split at h
      · rename_i h5; rw [if_pos h5]; exact ih _ (by omega) hl' h
      · rename_i h5
        rw [if_neg h5, if_neg h6]
        exact ih _ hn hl' (by first | exact h | (rw [if_neg h6] at h; exact h))
theorem sayLoop_sum : ∀ (l : List Int) (n : Int), sayLoop 6 n l = (n + l.sum, true, 0)
  | [], n => by simp [sayLoop]
  | o :: l, n => by
    have ih := sayLoop_sum l
    simp only [sayLoop, show ¬ (6 : Int) = 1 by omega, show ¬ (6 : Int) = 2 by omega, show ¬ (6 : Int) = 4 by omega, show ¬ (6 : Int) = 5 by omega, if_true, if_false]
    rw [ih, List.sum_cons]
    congr 1
    omega

theorem spanAt_in (pol : Int) (h6 : pol ≠ 6) : ∀ (l : List Rl) (k : Nat) (r : Int × Int), ((0 < k → (spanAt pol k l r).1 ≤ r.1 ∧ r.2 ≤ (spanAt pol k l r).2) ∧ ∀ x ∈ l, (spanAt pol k l r).1 ≤ x.out ∧ x.out ≤ (spanAt pol k l r).2)
  | [], _, r => ⟨fun _ => ⟨Int.le_refl _, Int.le_refl _⟩, fun x h => by simp at h⟩
  | x :: l, k, r => by
    obtain ⟨i1, i2⟩ := spanAt_in pol h6 l (k + 1) (spanStep pol k r x.out)
    have e : spanAt pol k (x :: l) r = spanAt pol (k + 1) l (spanStep pol k r x.out) := rfl
    rw [e]
    have hs : spanStep pol k r x.out = if k = 0 then (x.out, x.out) else (min r.1 x.out, max r.2 x.out) := by unfold spanStep; rw [if_neg h6]
    have hi := i1 (by omega)
    generalize hz : spanAt pol (k + 1) l (spanStep pol k r x.out) = z at *
    rw [hs] at hi
    by_cases hk : k = 0
    · rw [if_pos hk] at hi
      refine ⟨fun h => by omega, fun y hy => ?_⟩
      rcases List.mem_cons.1 hy with rfl | hy
      · exact hi
      · exact i2 y hy
    · rw [if_neg hk] at hi
      dsimp only at hi
      refine ⟨fun _ => by omega, fun y hy => ?_⟩
      rcases List.mem_cons.1 hy with rfl | hy
      · omega
      · exact i2 y hy
theorem spanAt_sum (ns : List Int) : ∀ (l : List Rl) (k : Nat) (r : Int × Int), (∀ x ∈ l, -1000000 ≤ x.out ∧ x.out ≤ 1000000) → (spanAt 6 k l r).1 ≤ r.1 + (outsL l ns).sum ∧ r.2 + (outsL l ns).sum ≤ (spanAt 6 k l r).2 ∧ (spanAt 6 k l r).1 ≤ r.1 ∧ r.2 ≤ (spanAt 6 k l r).2
  | [], _, r, _ => by simp [spanAt, outsL]
  | x :: l, k, r, h => by
    obtain ⟨i1, i2, i3, i4⟩ := spanAt_sum ns l (k + 1) (spanStep 6 k r x.out) fun y hy => h y (by simp [hy])
    have e : spanAt 6 k (x :: l) r = spanAt 6 (k + 1) l (spanStep 6 k r x.out) := rfl
    have hx := h x (by simp)
    have ho : (outsL (x :: l) ns).sum = (if ruleHolds x ns then x.out else 0) + (outsL l ns).sum := by
      unfold outsL
      rw [List.filter_cons]
      cases ruleHolds x ns <;> simp
    rw [e, ho]
    generalize spanAt 6 (k + 1) l (spanStep 6 k r x.out) = z at *
    have hs : spanStep 6 k r x.out = if x.out < 0 then (r.1 + max x.out (-1000000), r.2) else (r.1, r.2 + min x.out 1000000) := by unfold spanStep; rw [if_pos rfl]
    rw [hs] at i1 i2 i3 i4
    generalize (outsL l ns).sum = m at *
    cases ruleHolds x ns
    · simp only [Bool.false_eq_true, if_false]
      split at i1 <;> rename_i hc <;> simp only [hc, if_true, if_false] at i2 i3 i4 <;> dsimp only at * <;> omega
    · simp only [if_true]
      split at i1 <;> rename_i hc <;> simp only [hc, if_true, if_false] at i2 i3 i4 <;> dsimp only at * <;> omega

/-- What is said lies within the span. -/
theorem span_in {t : Tb} {ns : List Int} (hg : goodT t = true) (hl : ns.length = t.ins.length) (hok : (saysT t ns).2.1 = true) : (spanT t).1 ≤ (saysT t ns).1 ∧ (saysT t ns).1 ≤ (spanT t).2 := by
  have hf := says_form hg hl
  unfold spanT
  by_cases h7 : t.pol = 7
  · rw [if_pos h7] at hf ⊢
    rw [hf]
    have : (outsL t.rules ns).length ≤ t.rules.length := by unfold outsL; rw [List.length_map]; exact List.length_filter_le _ _
    dsimp only
    omega
  · rw [if_neg h7] at hf ⊢
    rw [hf] at hok ⊢
    by_cases h6 : t.pol = 6
    · rw [h6] at hok ⊢
      have hs := spanAt_sum ns t.rules 0 (0, 0) fun x hx => goodT_out hg hx
      cases ho : outsL t.rules ns with
      | nil => rw [ho] at hok; cases hok
      | cons o l =>
        rw [ho] at hs
        show _ ≤ (sayLoop 6 o l).1 ∧ (sayLoop 6 o l).1 ≤ _
        rw [sayLoop_sum]
        simp only [List.sum_cons] at hs
        dsimp only at hs ⊢
        omega
    · have hs := (spanAt_in t.pol h6 t.rules 0 (0, 0)).2
      have hm : ∀ o ∈ outsL t.rules ns, (spanAt t.pol 0 t.rules (0, 0)).1 ≤ o ∧ o ≤ (spanAt t.pol 0 t.rules (0, 0)).2 := by
        intro o ho
        unfold outsL at ho
        rw [List.mem_map] at ho
        obtain ⟨x, hx, rfl⟩ := ho
        exact hs x (List.mem_filter.1 hx).1
      cases ho : outsL t.rules ns with
      | nil => rw [ho] at hok; cases hok
      | cons o l =>
        rw [ho] at hok hm
        exact sayLoop_in t.pol h6 _ _ l o (hm o (by simp)) (fun x hx => hm x (by simp [hx])) hok

end Go.Proofs.Ytlopccnehgolnab
