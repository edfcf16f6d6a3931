/- The plain laws of gaps and of spans. The contract of less, and the plain law of least inputs. The reference's search: the first input, place by place, of what begins somewhere; and that it is the least of all. Plain, no program. -/
import Derived.Test.YtlopccnehgolnabGreatDoorGrR
import Derived.Test.YtlopccnehgolnabGreatDoorGrI
import Derived.BigQuiet
namespace Go.Proofs.YtlopccnehgolnabGreatDoor
open Go.RowKit Rb

theorem areas_any_in {all : Bx} {n : Nat} (hb : goodBx all (n : Int) = true) (ns : List Int) (hin : inBx all ns = true) : ∀ {rs : List Rl}, (∀ r ∈ rs, r.cells.length = n) →
    (areasTo rs all).any (fun b => goodBx b (all.length : Int) && inBx b ns) = rs.any (ruleHolds · ns)
  | [], _ => rfl
  | r :: rs, h => by
    have h6 : (all.length : Int) = n := (goodBx_iff.1 hb).2.1
    have hl3 := (goodBx_iff.1 hb).2.2
    have ih := areas_any_in hb ns hin (rs := rs) fun x hx => h x (by simp [hx])
    have e : areasTo (r :: rs) all = (if someBx (areaB r all) then [optBx (areaB r all)] else []) ++ areasTo rs all := rfl
    have hgb : goodBx all (all.length : Int) = true := by rw [h6]; exact hb
    have hr := h r (by simp)
    rw [e, List.any_append, List.any_cons, ih]
    congr 1
    cases ha : areaB r all with
    | none =>
      have := areaB_none ha (by omega) hgb ns
      rw [hin, Bool.true_and] at this
      rw [this]; rfl
    | some a =>
      obtain ⟨a1, a2, a3⟩ := areaB_some ha
      show ([a].any _) = _
      simp only [List.any_cons, List.any_nil, Bool.or_false]
      rw [show (all.length : Int) = (a.length : Int) by omega, goodBx_of a2 rfl (by omega), a1, hin]
      rfl

theorem cntIn_pos {l : List Bx} {ns : List Int} : 0 < cntIn l ns ↔ ∃ x ∈ l, inBx x ns = true := by
  unfold cntIn
  rw [List.length_pos_iff_exists_mem]
  simp only [List.mem_filter]

section
variable {t : Tb} {all : Bx} (hg : goodT t = true) (hb : goodBx all (t.ins.length : Int) = true)
include hg hb

theorem gapB_law : (∀ x ∈ gapB t all, Sets x) ∧ (t.pol ≠ 7 → ∀ ns, (∃ x ∈ gapB t all, inBx x ns = true) ↔ inBx all ns = true ∧ t.rules.any (ruleHolds · ns) = false) ∧ (t.pol = 7 → gapB t all = []) := by
  have h6 : (all.length : Int) = t.ins.length := (goodBx_iff.1 hb).2.1
  have hgb : goodBx all (all.length : Int) = true := by rw [h6]; exact hb
  have hlw := restB_law hgb (areasTo t.rules all)
  refine ⟨fun x hx => ?_, fun h7 ns => ?_, fun h7 => ?_⟩
  · unfold gapB at hx
    split at hx
    · exact ((hlw []).1 x hx).1
    · simp at hx
  · have e : gapB t all = restB all (areasTo t.rules all) := by unfold gapB; rw [hg, hb, decide_eq_false h7]; rfl
    rw [e, ← cntIn_pos, (hlw ns).2.2]
    unfold leftB
    cases hin : inBx all ns
    · simp
    · rw [areas_any_in hb ns hin fun r hr => goodT_cells hg hr]
      cases t.rules.any (ruleHolds · ns) <;> simp
  · unfold gapB; rw [decide_eq_true h7, Bool.not_true, Bool.and_false]; rfl

omit hg hb in
theorem sayLoop_ok (pol : Int) : ∀ (l : List Int) (n : Int), (sayLoop pol n l).2.2 = 0 → (sayLoop pol n l).2.1 = true
  | [], n, _ => rfl
  | o :: l, n, h => by
    have ih := sayLoop_ok pol l
    simp only [sayLoop] at h ⊢
    by_cases h1 : pol = 1
    · rw [if_pos h1] at h; cases h
    rw [if_neg h1] at h ⊢
    by_cases h2 : pol = 2
    · rw [if_pos h2] at h ⊢
      split at h
      · cases h
      · rename_i hx; rw [if_neg hx]; exact ih _ h
    rw [if_neg h2] at h ⊢
    split at h
    · rename_i h4; rw [if_pos h4]; exact ih _ h
    · rename_i h4
      rw [if_neg h4]
      split at h
      · rename_i h5; rw [if_pos h5]; exact ih _ h
      · rename_i h5
        rw [if_neg h5]
        split at h
        · rename_i h6; rw [if_pos h6]; exact ih _ h
        · rename_i h6; rw [if_neg h6]; exact ih _ h

omit hb in
theorem says_form {ns : List Int} (hl : ns.length = t.ins.length) : saysT t ns = if t.pol = 7 then (((outsL t.rules ns).length : Int), true, 0) else sayO t.pol (outsL t.rules ns) := by
  unfold saysT; rw [if_pos ⟨hg, hl⟩, sayL_eq]

omit hg hb in
theorem outs_nil {rs : List Rl} {ns : List Int} : outsL rs ns = [] ↔ rs.any (ruleHolds · ns) = false := by
  unfold outsL
  rw [List.map_eq_nil_iff, List.filter_eq_nil_iff, List.any_eq_false]

/-- Nothing is said, and no error given, just where no rule holds. -/
theorem gap_says (ns : List Int) (hin : inBx all ns = true) (h7 : t.pol ≠ 7) : ((saysT t ns).2.1 = false ∧ (saysT t ns).2.2 = 0) ↔ t.rules.any (ruleHolds · ns) = false := by
  have h6 : (all.length : Int) = t.ins.length := (goodBx_iff.1 hb).2.1
  have hlen := inBx_len hin
  rw [says_form hg (by omega), if_neg h7, ← outs_nil]
  cases outsL t.rules ns with
  | nil => simp [sayO]
  | cons o l =>
    constructor
    · rintro ⟨h1, h2⟩
      have := sayLoop_ok t.pol l o h2
      rw [show (sayO t.pol (o :: l)).2.1 = (sayLoop t.pol o l).2.1 from rfl, this] at h1
      cases h1
    · intro h; cases h

/-- The gap that is told is one: an input of the domains, and nothing is said of it. -/
theorem gap_at (h : 0 < (gapB t all).length) : inBx all (leastB (gapB t all)) = true ∧ (saysT t (leastB (gapB t all))).2.1 = false ∧ (saysT t (leastB (gapB t all))).2.2 = 0 := by
  obtain ⟨h1, h2, h3⟩ := gapB_law hg hb
  have h7 : t.pol ≠ 7 := fun e => by rw [h3 e] at h; simp at h
  obtain ⟨x, hx, e⟩ := leastB_mem (l := gapB t all) (by intro e; rw [e] at h; simp at h)
  rw [e]
  have hin := (h2 h7 _).1 ⟨x, hx, point_in (h1 x hx)⟩
  exact ⟨hin.1, (gap_says hg hb _ hin.1 h7).2 hin.2⟩
/-- Where there is no gap, something is said, or an error given. -/
theorem gap_no (ns : List Int) (hin : inBx all ns = true) (h0 : (saysT t ns).2.1 = false) (he : (saysT t ns).2.2 = 0) : ∃ x ∈ gapB t all, inBx x ns = true := by
  obtain ⟨h1, h2, h3⟩ := gapB_law hg hb
  have h6 : (all.length : Int) = t.ins.length := (goodBx_iff.1 hb).2.1
  have hlen := inBx_len hin
  have h7 : t.pol ≠ 7 := fun e => by rw [says_form hg (by omega), if_pos e] at h0; cases h0
  exact (h2 h7 ns).2 ⟨hin, (gap_says hg hb ns hin h7).1 ⟨h0, he⟩⟩
end

theorem sayLoop_in (pol : Int) (h6 : pol ≠ 6) (lo hi : Int) : ∀ (l : List Int) (n : Int), (lo ≤ n ∧ n ≤ hi) → (∀ o ∈ l, lo ≤ o ∧ o ≤ hi) → (sayLoop pol n l).2.1 = true → lo ≤ (sayLoop pol n l).1 ∧ (sayLoop pol n l).1 ≤ hi
  | [], n, hn, _, _ => hn
  | o :: l, n, hn, hl, h => by
    have ih := sayLoop_in pol h6 lo hi l
    have ho := hl o (by simp)
    have hl' : ∀ o ∈ l, lo ≤ o ∧ o ≤ hi := fun x hx => hl x (by simp [hx])
    simp only [sayLoop] at h ⊢
    by_cases h1 : pol = 1
    · rw [if_pos h1] at h; cases h
    rw [if_neg h1] at h ⊢
    by_cases h2 : pol = 2
    · rw [if_pos h2] at h ⊢
      split at h
      · cases h
      · rename_i hx; rw [if_neg hx]; exact ih _ hn hl' h
    rw [if_neg h2] at h ⊢
    split at h
    · rename_i h4; rw [if_pos h4]; exact ih _ (by omega) hl' h
    · rename_i h4
      rw [if_neg h4]
      split at h
      · rename_i h5; rw [if_pos h5]; exact ih _ (by omega) hl' h
      · rename_i h5
        rw [if_neg h5, if_neg h6]
        exact ih _ hn hl' (by first | exact h | (rw [if_neg h6] at h; exact h))
theorem sayLoop_sum : ∀ (l : List Int) (n : Int), sayLoop 6 n l = (n + l.sum, true, 0)
  | [], n => by simp [sayLoop]
  | o :: l, n => by
    have ih := sayLoop_sum l
    simp only [sayLoop, show ¬ (6 : Int) = 1 by omega, show ¬ (6 : Int) = 2 by omega, show ¬ (6 : Int) = 4 by omega, show ¬ (6 : Int) = 5 by omega, if_true, if_false]
    rw [ih, List.sum_cons]
    congr 1
    omega

theorem spanAt_in (pol : Int) (h6 : pol ≠ 6) : ∀ (l : List Rl) (k : Nat) (r : Int × Int), ((0 < k → (spanAt pol k l r).1 ≤ r.1 ∧ r.2 ≤ (spanAt pol k l r).2) ∧ ∀ x ∈ l, (spanAt pol k l r).1 ≤ x.out ∧ x.out ≤ (spanAt pol k l r).2)
  | [], _, r => ⟨fun _ => ⟨Int.le_refl _, Int.le_refl _⟩, fun x h => by simp at h⟩
  | x :: l, k, r => by
    obtain ⟨i1, i2⟩ := spanAt_in pol h6 l (k + 1) (spanStep pol k r x.out)
    have e : spanAt pol k (x :: l) r = spanAt pol (k + 1) l (spanStep pol k r x.out) := rfl
    rw [e]
    have hs : spanStep pol k r x.out = if k = 0 then (x.out, x.out) else (min r.1 x.out, max r.2 x.out) := by unfold spanStep; rw [if_neg h6]
    have hi := i1 (by omega)
    generalize hz : spanAt pol (k + 1) l (spanStep pol k r x.out) = z at *
    rw [hs] at hi
    by_cases hk : k = 0
    · rw [if_pos hk] at hi
      refine ⟨fun h => by omega, fun y hy => ?_⟩
      rcases List.mem_cons.1 hy with rfl | hy
      · exact hi
      · exact i2 y hy
    · rw [if_neg hk] at hi
      dsimp only at hi
      refine ⟨fun _ => by omega, fun y hy => ?_⟩
      rcases List.mem_cons.1 hy with rfl | hy
      · omega
      · exact i2 y hy
theorem spanAt_sum (ns : List Int) : ∀ (l : List Rl) (k : Nat) (r : Int × Int), (∀ x ∈ l, -1000000 ≤ x.out ∧ x.out ≤ 1000000) → (spanAt 6 k l r).1 ≤ r.1 + (outsL l ns).sum ∧ r.2 + (outsL l ns).sum ≤ (spanAt 6 k l r).2 ∧ (spanAt 6 k l r).1 ≤ r.1 ∧ r.2 ≤ (spanAt 6 k l r).2
  | [], _, r, _ => by simp [spanAt, outsL]
  | x :: l, k, r, h => by
    obtain ⟨i1, i2, i3, i4⟩ := spanAt_sum ns l (k + 1) (spanStep 6 k r x.out) fun y hy => h y (by simp [hy])
    have e : spanAt 6 k (x :: l) r = spanAt 6 (k + 1) l (spanStep 6 k r x.out) := rfl
    have hx := h x (by simp)
    have ho : (outsL (x :: l) ns).sum = (if ruleHolds x ns then x.out else 0) + (outsL l ns).sum := by
      unfold outsL
      rw [List.filter_cons]
      cases ruleHolds x ns <;> simp
    rw [e, ho]
    generalize spanAt 6 (k + 1) l (spanStep 6 k r x.out) = z at *
    have hs : spanStep 6 k r x.out = if x.out < 0 then (r.1 + max x.out (-1000000), r.2) else (r.1, r.2 + min x.out 1000000) := by unfold spanStep; rw [if_pos rfl]
    rw [hs] at i1 i2 i3 i4
    generalize (outsL l ns).sum = m at *
    cases ruleHolds x ns
    · simp only [Bool.false_eq_true, if_false]
      split at i1 <;> rename_i hc <;> simp only [hc, if_true, if_false] at i2 i3 i4 <;> dsimp only at * <;> omega
    · simp only [if_true]
      split at i1 <;> rename_i hc <;> simp only [hc, if_true, if_false] at i2 i3 i4 <;> dsimp only at * <;> omega

/-- What is said lies within the span. -/
theorem span_in {t : Tb} {ns : List Int} (hg : goodT t = true) (hl : ns.length = t.ins.length) (hok : (saysT t ns).2.1 = true) : (spanT t).1 ≤ (saysT t ns).1 ∧ (saysT t ns).1 ≤ (spanT t).2 := by
  have hf := says_form hg hl
  unfold spanT
  by_cases h7 : t.pol = 7
  · rw [if_pos h7] at hf ⊢
    rw [hf]
    have : (outsL t.rules ns).length ≤ t.rules.length := by unfold outsL; rw [List.length_map]; exact List.length_filter_le _ _
    dsimp only
    omega
  · rw [if_neg h7] at hf ⊢
    rw [hf] at hok ⊢
    by_cases h6 : t.pol = 6
    · rw [h6] at hok ⊢
      have hs := spanAt_sum ns t.rules 0 (0, 0) fun x hx => goodT_out hg hx
      cases ho : outsL t.rules ns with
      | nil => rw [ho] at hok; cases hok
      | cons o l =>
        rw [ho] at hs
        show _ ≤ (sayLoop 6 o l).1 ∧ (sayLoop 6 o l).1 ≤ _
        rw [sayLoop_sum]
        simp only [List.sum_cons] at hs
        dsimp only at hs ⊢
        omega
    · have hs := (spanAt_in t.pol h6 t.rules 0 (0, 0)).2
      have hm : ∀ o ∈ outsL t.rules ns, (spanAt t.pol 0 t.rules (0, 0)).1 ≤ o ∧ o ≤ (spanAt t.pol 0 t.rules (0, 0)).2 := by
        intro o ho
        unfold outsL at ho
        rw [List.mem_map] at ho
        obtain ⟨x, hx, rfl⟩ := ho
        exact hs x (List.mem_filter.1 hx).1
      cases ho : outsL t.rules ns with
      | nil => rw [ho] at hok; cases hok
      | cons o l =>
        rw [ho] at hok hm
        exact sayLoop_in t.pol h6 _ _ l o (hm o (by simp)) (fun x hx => hm x (by simp [hx])) hok

end Go.Proofs.YtlopccnehgolnabGreatDoor

namespace Go.Proofs.YtlopccnehgolnabGreatDoor
open Go.RowKit Rb

def lessL : List Int → List Int → Bool
  | x :: a, y :: b => if x = y then lessL a b else decide (x < y)
  | _, _ => false
theorem lessL_at {a b : List Int} {k : Nat} {x y : Int} (hx : a[k]? = some x) (hy : b[k]? = some y) : lessL (a.drop k) (b.drop k) = if x = y then lessL (a.drop (k + 1)) (b.drop (k + 1)) else decide (x < y) := by
  rw [drop_cons hx, drop_cons hy]; rfl
theorem lessL_nil (a : List Int) : lessL a [] = false := by cases a <;> rfl

theorem nl_refl : ∀ a : List Int, lessL a a = false
  | [] => rfl
  | x :: a => by rw [lessL, if_pos rfl]; exact nl_refl a
theorem nl_asym : ∀ a b : List Int, lessL a b = true → lessL b a = false
  | [], _, h => by cases h
  | _ :: _, [], _ => rfl
  | x :: a, y :: b, h => by
    rw [lessL] at h ⊢
    by_cases e : x = y
    · rw [if_pos e] at h; rw [if_pos e.symm]; exact nl_asym a b h
    · rw [if_neg e] at h; rw [if_neg (Ne.symm e)]
      have := of_decide_eq_true h
      exact decide_eq_false (by omega)
theorem nl_trans : ∀ a b c : List Int, a.length = b.length → b.length = c.length → lessL a b = false → lessL b c = false → lessL a c = false
  | [], _, _, _, _, _, _ => by simp [lessL]
  | x :: a, [], _, h, _, _, _ => by simp at h
  | x :: a, y :: b, [], _, h, _, _ => by simp at h
  | x :: a, y :: b, z :: c, h1, h2, h3, h4 => by
    have ih := nl_trans a b c (by simpa using h1) (by simpa using h2)
    rw [lessL] at h3 h4 ⊢
    by_cases e : x = y
    · subst e
      rw [if_pos rfl] at h3
      by_cases f : x = z
      · subst f
        rw [if_pos rfl] at h4 ⊢
        exact ih h3 h4
      · rw [if_neg f] at h4 ⊢
        exact h4
    · rw [if_neg e] at h3
      have h3' := of_decide_eq_false h3
      by_cases f : y = z
      · subst f
        rw [if_neg e]
        exact h3
      · rw [if_neg f] at h4
        have h4' := of_decide_eq_false h4
        rw [if_neg (by omega)]
        exact decide_eq_false (by omega)
theorem cmp_less : ∀ a b : List Int, a.length = b.length → (cmpL a b < 0 ↔ lessL a b = true)
  | [], [], _ => by simp [cmpL, lessL]
  | [], _ :: _, h => by simp at h
  | _ :: _, [], h => by simp at h
  | x :: a, y :: b, h => by
    have ih := cmp_less a b (by simpa using h)
    rw [cmpL, lessL]
    by_cases h1 : x < y
    · rw [if_pos h1, if_neg (by omega)]; simp [h1]
    · rw [if_neg h1]
      by_cases h2 : y < x
      · rw [if_pos h2, if_neg (by omega)]; simp [h1]
      · rw [if_neg h2, if_pos (by omega)]; exact ih

theorem fold_least (n : Nat) : ∀ (l : List Bx) (o : List Int), o.length = n → (∀ x ∈ l, (pointBx x).length = n) →
    (l.foldl leastStep o).length = n ∧ lessL o (l.foldl leastStep o) = false ∧ ∀ x ∈ l, lessL (pointBx x) (l.foldl leastStep o) = false
  | [], o, ho, _ => ⟨ho, nl_refl o, fun x h => by simp at h⟩
  | y :: l, o, ho, hl => by
    have hy := hl y (by simp)
    have h1 : (leastStep o y).length = n ∧ lessL o (leastStep o y) = false ∧ lessL (pointBx y) (leastStep o y) = false := by
      unfold leastStep
      by_cases hc : cmpL (pointBx y) o < 0
      · rw [if_pos hc]
        exact ⟨hy, nl_asym _ _ ((cmp_less _ _ (by omega)).1 hc), nl_refl _⟩
      · rw [if_neg hc]
        refine ⟨ho, nl_refl _, ?_⟩
        cases h : lessL (pointBx y) o
        · rfl
        · exact absurd ((cmp_less _ _ (by omega)).2 h) hc
    obtain ⟨i1, i2, i3⟩ := fold_least n l (leastStep o y) h1.1 fun x hx => hl x (by simp [hx])
    rw [List.foldl_cons]
    refine ⟨i1, nl_trans _ _ _ (by omega) (by omega) h1.2.1 i2, fun x hx => ?_⟩
    rcases List.mem_cons.1 hx with rfl | hx
    · exact nl_trans _ _ _ (by omega) (by omega) h1.2.2 i2
    · exact i3 x hx
theorem leastB_le {n : Nat} {l : List Bx} (hl : ∀ x ∈ l, (pointBx x).length = n) {x : Bx} (hx : x ∈ l) : (leastB l).length = n ∧ lessL (pointBx x) (leastB l) = false := by
  cases l with
  | nil => simp at hx
  | cons y l =>
    obtain ⟨i1, i2, i3⟩ := fold_least n l (pointBx y) (hl y (by simp)) fun x hx => hl x (by simp [hx])
    refine ⟨i1, ?_⟩
    rcases List.mem_cons.1 hx with rfl | hx
    · exact i2
    · exact i3 x hx

theorem head_le : ∀ {s : List Rg} {a : Int}, GoodFrom a s → ∀ n, hasL s n = true → ∀ r t, s = r :: t → r.1 ≤ n
  | [], _, _, _, _, _, _, e => by cases e
  | r :: t, a, h, n, hn, r', t', e => by
    obtain ⟨rfl, rfl⟩ : r = r' ∧ t = t' := by simpa using e
    rw [hasL_cons, Bool.or_eq_true] at hn
    rcases hn with hn | hn
    · exact ((inR_iff _ _).1 hn).1
    · have h1 := GoodFrom.above h.tail n hn
      have h2 := h.his r (by simp)
      omega
/-- No input of a box is less than its point. -/
theorem point_le : ∀ {b : Bx} {ns : List Int}, Sets b → inBx b ns = true → lessL ns (pointBx b) = false
  | [], [], _, _ => rfl
  | [], _ :: _, _, h => by simp [inBx] at h
  | _ :: _, [], _, h => by simp [inBx] at h
  | s :: b, n :: ns, hg, h => by
    simp only [inBx, Bool.and_eq_true] at h
    have ih := point_le (b := b) (ns := ns) (fun x hx => hg x (by simp [hx])) h.2
    have hs := hg s (by simp)
    match s, hs, h with
    | r :: t, hs, h =>
      have h1 : pointBx ((r :: t) :: b) = r.1 :: pointBx b := rfl
      have h2 := head_le hs.2 n h.1 r t rfl
      rw [h1, lessL]
      by_cases e : n = r.1
      · rw [if_pos e]; exact ih
      · rw [if_neg e]; exact decide_eq_false (by omega)

theorem box_least {n : Nat} {l : List Bx} (hs : ∀ x ∈ l, Sets x) (hl : ∀ x ∈ l, x.length = n) {x : Bx} (hx : x ∈ l) {ns : List Int} (h : inBx x ns = true) : lessL ns (leastB l) = false := by
  have hp : ∀ x ∈ l, (pointBx x).length = n := fun x hx => by rw [← inBx_len (point_in (hs x hx)), hl x hx]
  obtain ⟨h1, h2⟩ := leastB_le hp hx
  have h3 := inBx_len h
  have h4 := hl x hx
  have h5 := hp x hx
  exact nl_trans _ _ _ (by omega) (by omega) (point_le (hs x hx) h) h2

theorem gap_len {t : Tb} {all : Bx} (hb : goodBx all (t.ins.length : Int) = true) : ∀ x ∈ gapB t all, x.length = all.length := by
  intro x hx
  have h6 : (all.length : Int) = t.ins.length := (goodBx_iff.1 hb).2.1
  unfold gapB at hx
  split at hx
  · exact ((restB_law (by rw [h6]; exact hb) _ []).1 x hx).2
  · simp at hx
theorem clash_len {t : Tb} {all : Bx} : ∀ x ∈ clashB t all, x.length = all.length := by
  intro x h
  unfold clashB at h
  split at h
  case isFalse => simp at h
  case isTrue hc =>
    obtain ⟨i, j, r, s, _, _, _, _, hxc⟩ := mem_clashTo.1 h
    obtain ⟨a, b, ha, hb', _, hxb⟩ := clashOf_eq hxc
    have h1 := (areaB_some ha).2.2
    have h2 := (areaB_some hb').2.2
    unfold bothBx at hxb
    split at hxb
    · rw [((zipBoth_size a b).2 x hxb).2 (by omega), h1]
    · cases hxb

end Go.Proofs.YtlopccnehgolnabGreatDoor

namespace Go.Proofs.YtlopccnehgolnabGreatDoor
open Rb

/-- The first input, in the lists' order, of which p holds. -/
def findL (p : List Int → Bool) : List (List Int) → List Int → Option (List Int)
  | [], pre => if p pre then some pre else none
  | l :: ls, pre => l.findSome? fun n => findL p ls (pre ++ [n])
def InProd : List (List Int) → List Int → Prop
  | [], [] => True
  | l :: ls, x :: xs => x ∈ l ∧ InProd ls xs
  | _, _ => False

theorem findL_none {p : List Int → Bool} : ∀ {ats : List (List Int)} {pre : List Int}, findL p ats pre = none → ∀ xs, InProd ats xs → p (pre ++ xs) = false
  | [], pre, h, [], _ => by
    unfold findL at h
    split at h
    · cases h
    · rename_i hp; rw [List.append_nil]; simpa using hp
  | [], _, _, _ :: _, h => h.elim
  | l :: ls, pre, h, [], hx => hx.elim
  | l :: ls, pre, h, x :: xs, hx => by
    unfold findL at h
    rw [List.findSome?_eq_none_iff] at h
    have := findL_none (h x hx.1) xs hx.2
    rwa [List.append_assoc] at this

theorem findL_some {p : List Int → Bool} : ∀ {ats : List (List Int)} {pre z : List Int}, (∀ l ∈ ats, l.Pairwise (· < ·)) → findL p ats pre = some z → ∃ ys, z = pre ++ ys ∧ InProd ats ys ∧ p z = true ∧ ∀ xs, InProd ats xs → p (pre ++ xs) = true → lessL xs ys = false
  | [], pre, z, _, h => by
    unfold findL at h
    split at h
    · rename_i hp
      obtain rfl : pre = z := Option.some.inj h
      exact ⟨[], by simp, trivial, hp, fun xs _ _ => lessL_nil xs⟩
    · cases h
  | l :: ls, pre, z, hs, h => by
    unfold findL at h
    have hp := hs l (by simp)
    have hs' : ∀ l ∈ ls, l.Pairwise (· < ·) := fun l hl => hs l (by simp [hl])
    clear hs
    induction l with
    | nil => simp at h
    | cons n l ih =>
      rw [List.findSome?_cons] at h
      cases hn : findL p ls (pre ++ [n]) with
      | some y =>
        rw [hn] at h
        obtain rfl : y = z := Option.some.inj h
        obtain ⟨ys, h1, h2, h3, h4⟩ := findL_some hs' hn
        refine ⟨n :: ys, by rw [h1, List.append_assoc]; rfl, ⟨by simp, h2⟩, h3, fun xs hx hpx => ?_⟩
        match xs, hx with
        | x :: xs, hx =>
          rw [lessL]
          by_cases e : x = n
          · rw [if_pos e]
            subst e
            exact h4 xs hx.2 (by rw [List.append_assoc]; exact hpx)
          · rw [if_neg e]
            rcases List.mem_cons.1 hx.1 with h | h
            · exact absurd h e
            · have := (List.pairwise_cons.1 hp).1 x h
              exact decide_eq_false (by omega)
      | none =>
        rw [hn] at h
        obtain ⟨ys, h1, h2, h3, h4⟩ := ih h (List.pairwise_cons.1 hp).2
        refine ⟨ys, h1, ?_, h3, fun xs hx hpx => ?_⟩
        · match ys, h2 with
          | y :: ys, h2 => exact ⟨by simp [h2.1], h2.2⟩
        · match xs, hx with
          | x :: xs, hx =>
            rcases List.mem_cons.1 hx.1 with h | h
            · subst h
              have := findL_none hn xs hx.2
              rw [List.append_assoc] at this
              rw [show pre ++ x :: xs = pre ++ ([x] ++ xs) from rfl, this] at hpx
              cases hpx
            · exact h4 _ ⟨h, hx.2⟩ hpx

theorem inProd_len : ∀ {ats : List (List Int)} {xs : List Int}, InProd ats xs → xs.length = ats.length
  | [], [], _ => rfl
  | l :: ls, x :: xs, h => by simp [inProd_len h.2]
  | [], _ :: _, h => h.elim
  | _ :: _, [], h => h.elim

/-- Place by place at most. -/
def LeAll : List Int → List Int → Prop
  | [], [] => True
  | x :: xs, y :: ys => x ≤ y ∧ LeAll xs ys
  | _, _ => False
theorem leAll_eq : ∀ {xs ys : List Int}, LeAll xs ys → lessL xs ys = false → xs = ys
  | [], [], _, _ => rfl
  | x :: xs, y :: ys, h, hl => by
    rw [lessL] at hl
    by_cases e : x = y
    · rw [if_pos e] at hl
      rw [e, leAll_eq h.2 hl]
    · rw [if_neg e] at hl
      have := of_decide_eq_false hl
      have := h.1
      omega
  | [], _ :: _, h, _ => h.elim
  | _ :: _, [], h, _ => h.elim
theorem less_total : ∀ {xs ys : List Int}, xs.length = ys.length → lessL xs ys = false → lessL ys xs = false → xs = ys
  | [], [], _, _, _ => rfl
  | x :: xs, y :: ys, h, h1, h2 => by
    rw [lessL] at h1 h2
    by_cases e : x = y
    · rw [if_pos e] at h1
      rw [if_pos e.symm] at h2
      rw [e, less_total (by simpa using h) h1 h2]
    · rw [if_neg e] at h1
      rw [if_neg (Ne.symm e)] at h2
      have := of_decide_eq_false h1
      have := of_decide_eq_false h2
      omega
  | [], _ :: _, h, _, _ => by simp at h
  | _ :: _, [], h, _, _ => by simp at h

theorem find_least {p : List Int → Bool} {all : Bx} {ats : List (List Int)} (hs : ∀ l ∈ ats, l.Pairwise (· < ·))
    (hround : ∀ ns, inBx all ns = true → p ns = true → ∃ ms, InProd ats ms ∧ LeAll ms ns ∧ inBx all ms = true ∧ p ms = true) {x : List Int} (hx : inBx all x = true) (hp : p x = true)
    (hl : ∀ ns, inBx all ns = true → p ns = true → lessL ns x = false) (hin : ∀ ms, InProd ats ms → inBx all ms = true) : findL p ats [] = some x := by
  obtain ⟨m, h1, h2, h3, h4⟩ := hround x hx hp
  obtain rfl : m = x := leAll_eq h2 (hl m h3 h4)
  cases hf : findL p ats [] with
  | none =>
    have := findL_none hf m h1
    rw [List.nil_append, h4] at this
    cases this
  | some z =>
    obtain ⟨ys, e, k1, k2, k3⟩ := findL_some hs hf
    rw [List.nil_append] at e
    subst e
    have a1 := k3 m h1 (by rw [List.nil_append]; exact h4)
    have a2 := hl z (hin z k1) k2
    rw [less_total (by rw [inProd_len h1, inProd_len k1]) a1 a2]
theorem find_no {p : List Int → Bool} {all : Bx} {ats : List (List Int)} (hs : ∀ l ∈ ats, l.Pairwise (· < ·)) (hin : ∀ ms, InProd ats ms → inBx all ms = true) (h : ∀ ns, inBx all ns = true → p ns = false) : findL p ats [] = none := by
  cases hf : findL p ats [] with
  | none => rfl
  | some z =>
    obtain ⟨ys, e, k1, k2, _⟩ := findL_some hs hf
    rw [List.nil_append] at e
    subst e
    rw [h _ (hin _ k1)] at k2
    cases k2

/-! ### Where something begins -/
def rsAt (r : Rl) (i : Nat) : List Rg := match r.cells[i]? with | some c => c.rs | none => []
def setsAt (rs : List Rl) (i : Nat) (s : List Rg) : List (List Rg) := s :: rs.map (rsAt · i)
def atL (rs : List Rl) (i : Nat) (s : List Rg) : List Int := (edgesL (setsAt rs i s)).filter (hasL s)
def atsFrom (rs : List Rl) : Nat → Bx → List (List Int)
  | _, [] => []
  | i, s :: b => atL rs i s :: atsFrom rs (i + 1) b

theorem atL_sorted (rs : List Rl) (i : Nat) (s : List Rg) : (atL rs i s).Pairwise (· < ·) := (edgesL_is _).1.filter _
theorem ats_sorted (rs : List Rl) : ∀ (b : Bx) (i : Nat), ∀ l ∈ atsFrom rs i b, l.Pairwise (· < ·)
  | [], _, l, h => by simp [atsFrom] at h
  | s :: b, i, l, h => by
    simp only [atsFrom, List.mem_cons] at h
    rcases h with rfl | h
    · exact atL_sorted _ _ _
    · exact ats_sorted rs b (i + 1) l h
theorem ats_in (rs : List Rl) : ∀ {b : Bx} {i : Nat} {ms : List Int}, InProd (atsFrom rs i b) ms → inBx b ms = true
  | [], _, [], _ => rfl
  | [], _, _ :: _, h => h.elim
  | s :: b, i, [], h => h.elim
  | s :: b, i, m :: ms, h => by
    have h1 := (List.mem_filter.1 h.1).2
    rw [inBx, h1, ats_in rs h.2]; rfl

theorem greatest (n : Int) : ∀ (l : List Int), (∃ x ∈ l, x ≤ n) → ∃ e ∈ l, e ≤ n ∧ ∀ x ∈ l, x ≤ n → x ≤ e
  | [], h => by obtain ⟨x, hx, _⟩ := h; cases hx
  | a :: l, h => by
    by_cases hl : ∃ x ∈ l, x ≤ n
    · obtain ⟨e, h1, h2, h3⟩ := greatest n l hl
      by_cases ha : a ≤ n ∧ e < a
      · exact ⟨a, by simp, ha.1, fun x hx hxn => by
          rcases List.mem_cons.1 hx with rfl | hx
          · exact Int.le_refl _
          · have := h3 x hx hxn; omega⟩
      · exact ⟨e, by simp [h1], h2, fun x hx hxn => by
          rcases List.mem_cons.1 hx with rfl | hx
          · omega
          · exact h3 x hx hxn⟩
    · obtain ⟨x, hx, hxn⟩ := h
      rcases List.mem_cons.1 hx with rfl | hx
      · exact ⟨x, by simp, hxn, fun y hy hyn => by
          rcases List.mem_cons.1 hy with rfl | hy
          · exact Int.le_refl _
          · exact absurd ⟨y, hy, hyn⟩ hl⟩
      · exact absurd ⟨x, hx, hxn⟩ hl

/-- A number brought down to where something begins: the same sets have it. -/
theorem round_one {ss : List (List Rg)} {n : Int} (h1 : -MX ≤ n) (h2 : n ≤ MX) : ∃ e ∈ edgesL ss, e ≤ n ∧ ∀ s ∈ ss, hasL s e = hasL s n := by
  obtain ⟨e, he, hen, hg⟩ := greatest n (edgesL ss) ⟨-MX, edgesL_min ss, h1⟩
  have hb := (edgesL_is ss).2 e he
  refine ⟨e, he, hen, fun s hs => ?_⟩
  exact (Turns.inSet hs e n hb.1 hen h2 fun x hx => by
    rintro ⟨h3, h4⟩
    have := hg x hx h4
    omega).symm

theorem hasCell {c : Cl} {m n : Int} (h : hasL c.rs m = hasL c.rs n) : cellHolds c m = cellHolds c n := by unfold cellHolds; rw [h]

theorem round_all {rs : List Rl} : ∀ {b : Bx} {i : Nat} {ns : List Int}, (∀ s ∈ b, GoodS s) → inBx b ns = true → ∃ ms, InProd (atsFrom rs i b) ms ∧ LeAll ms ns ∧ ∀ r ∈ rs, cellsHold (r.cells.drop i) ms = cellsHold (r.cells.drop i) ns
  | [], _, [], _, _ => ⟨[], trivial, trivial, fun _ _ => rfl⟩
  | [], _, _ :: _, _, h => by simp [inBx] at h
  | s :: b, i, [], _, h => by simp [inBx] at h
  | s :: b, i, n :: ns, hg, h => by
    simp only [inBx, Bool.and_eq_true] at h
    obtain ⟨ms, h1, h2, h3⟩ := round_all (rs := rs) (i := i + 1) (fun x hx => hg x (by simp [hx])) h.2
    have hn := GoodFrom.num (hg s (by simp)) n h.1
    obtain ⟨e, k1, k2, k3⟩ := round_one (ss := setsAt rs i s) hn.1 hn.2
    refine ⟨e :: ms, ⟨List.mem_filter.2 ⟨k1, by rw [k3 s (by simp [setsAt])]; exact h.1⟩, h1⟩, ⟨k2, h2⟩, fun r hr => ?_⟩
    cases hc : r.cells[i]? with
    | none =>
      have : r.cells.drop i = [] := List.drop_eq_nil_of_le (List.getElem?_eq_none_iff.1 hc)
      rw [this]; rfl
    | some c =>
      rw [drop_cons hc, cellsHold, cellsHold, h3 r hr]
      have := k3 (rsAt r i) (by simp only [setsAt, List.mem_cons, List.mem_map]; exact .inr ⟨r, hr, rfl⟩)
      unfold rsAt at this
      rw [hc] at this
      rw [hasCell this]

theorem matches_congr {rs : List Rl} {ms ns : List Int} (h : ∀ r ∈ rs, ruleHolds r ms = ruleHolds r ns) : matchesL rs ms = matchesL rs ns := by
  have h1 : ∀ i, holdsAt rs ms i = holdsAt rs ns i := fun i => by
    unfold holdsAt
    cases hi : rs[i]? with
    | none => rfl
    | some r => exact h r (List.mem_of_getElem? hi)
  unfold matchesL matchesTo
  rw [show holdsAt rs ms = holdsAt rs ns from funext h1]

/-- What p asks of the rules that hold alone. -/
theorem round_p {rs : List Rl} {all : Bx} {p : List Int → Bool} (hg : ∀ s ∈ all, GoodS s) (hp : ∀ ms ns, ms.length = ns.length → matchesL rs ms = matchesL rs ns → p ms = p ns) :
    ∀ ns, inBx all ns = true → p ns = true → ∃ ms, InProd (atsFrom rs 0 all) ms ∧ LeAll ms ns ∧ inBx all ms = true ∧ p ms = true := by
  intro ns hin hpn
  obtain ⟨ms, h1, h2, h3⟩ := round_all (rs := rs) (i := 0) hg hin
  have hi := ats_in rs h1
  refine ⟨ms, h1, h2, hi, ?_⟩
  rw [hp ms ns (by rw [← inBx_len hi, ← inBx_len hin]) (matches_congr fun r hr => by have := h3 r hr; rwa [List.drop_zero] at this)]
  exact hpn

section
variable {t : Tb} {all : Bx} (hg : goodT t = true) (hb : goodBx all (t.ins.length : Int) = true)
include hg hb
theorem gap_find (h7 : t.pol ≠ 7) : findL (fun ns => decide ((matchesL t.rules ns).length = 0)) (atsFrom t.rules 0 all) [] = if 0 < (gapB t all).length then some (leastB (gapB t all)) else none := by
  have hgs : ∀ s ∈ all, GoodS s := fun s hs => ((goodBx_iff.1 hb).1 s hs).2
  obtain ⟨h1, h2, h3⟩ := gapB_law hg hb
  have hp : ∀ ns, decide ((matchesL t.rules ns).length = 0) = true ↔ t.rules.any (ruleHolds · ns) = false := fun ns => by
    rw [decide_eq_true_iff, ← outs_nil, ← outs_eq]
    simp
  have hr := round_p (rs := t.rules) (all := all) (p := fun ns => decide ((matchesL t.rules ns).length = 0)) hgs (fun ms ns _ h => by simp only [h])
  split
  · rename_i h0
    obtain ⟨g1, g2, g3⟩ := gap_at hg hb h0
    refine find_least (ats_sorted _ _ _) hr g1 ((hp _).2 ((gap_says hg hb _ g1 h7).1 ⟨g2, g3⟩)) (fun ns hin hpn => ?_) (fun ms h => ats_in _ h)
    obtain ⟨x, hx, hxn⟩ := (h2 h7 ns).2 ⟨hin, (hp ns).1 hpn⟩
    exact box_least h1 (gap_len hb) hx hxn
  · rename_i h0
    refine find_no (ats_sorted _ _ _) (fun ms h => ats_in _ h) fun ns hin => ?_
    cases hd : decide ((matchesL t.rules ns).length = 0)
    · rfl
    · obtain ⟨x, hx, _⟩ := (h2 h7 ns).2 ⟨hin, (hp ns).1 hd⟩
      exact absurd (List.length_pos_of_mem hx) h0

theorem clash_find : findL (fun ns => decide ((saysT t ns).2.2 = 4)) (atsFrom t.rules 0 all) [] = if 0 < (clashB t all).length then some (leastB (clashB t all)) else none := by
  have hgs : ∀ s ∈ all, GoodS s := fun s hs => ((goodBx_iff.1 hb).1 s hs).2
  have hr := round_p (rs := t.rules) (all := all) (p := fun ns => decide ((saysT t ns).2.2 = 4)) hgs (fun ms ns hl h => by
    unfold saysT
    rw [hl, h])
  split
  · rename_i h0
    obtain ⟨g1, g2⟩ := clash_at hg hb h0
    refine find_least (ats_sorted _ _ _) hr g1 (decide_eq_true g2) (fun ns hin hpn => ?_) (fun ms h => ats_in _ h)
    obtain ⟨x, hx, hxn⟩ := clash_all hg hb ns hin (by have := of_decide_eq_true hpn; omega)
    exact box_least (fun x hx => clash_sets hx) clash_len hx hxn
  · rename_i h0
    refine find_no (ats_sorted _ _ _) (fun ms h => ats_in _ h) fun ns hin => ?_
    cases hd : decide ((saysT t ns).2.2 = 4)
    · rfl
    · obtain ⟨x, hx, _⟩ := clash_all hg hb ns hin (by have := of_decide_eq_true hd; omega)
      exact absurd (List.length_pos_of_mem hx) h0
end

end Go.Proofs.YtlopccnehgolnabGreatDoor
