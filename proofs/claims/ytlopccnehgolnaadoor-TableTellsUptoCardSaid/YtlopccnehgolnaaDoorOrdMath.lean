
/- The plain law of TableOrder: but for First, what a table says does not hang on the order of its rules. -/
import Derived.Test.YtlopccnehgolnaaDoorTabS
namespace Go.Proofs.YtlopccnehgolnaaDoor
open Go.RowKit Rb

theorem sayLoop_perm (pol : Int) : ∀ {l m : List Int}, l.Perm m → ∀ n, sayLoop pol n l = sayLoop pol n m := by
  intro l m h
  induction h with
  | nil => intro n; rfl
  | cons x _ ih => intro n; simp only [sayLoop, ih]
  | swap x y l =>
    intro n
    simp only [sayLoop]
    by_cases h1 : pol = 1
    · simp [h1]
    by_cases h2 : pol = 2
    · subst h2
      by_cases hx : x = n <;> by_cases hy : y = n <;> simp [hx, hy]
    by_cases h4 : pol = 4
    · subst h4; simp only [show ¬ (4 : Int) = 1 by omega, show ¬ (4 : Int) = 2 by omega, if_true, if_false]; congr 1; omega
    by_cases h5 : pol = 5
    · subst h5; simp only [show ¬ (5 : Int) = 1 by omega, show ¬ (5 : Int) = 2 by omega, show ¬ (5 : Int) = 4 by omega, if_true, if_false]; congr 1; omega
    by_cases h6 : pol = 6
    · subst h6; simp only [show ¬ (6 : Int) = 1 by omega, show ¬ (6 : Int) = 2 by omega, show ¬ (6 : Int) = 4 by omega, show ¬ (6 : Int) = 5 by omega, if_true, if_false]; congr 1; omega
    simp [h1, h2, h4, h5, h6]
  | trans _ _ ih1 ih2 => intro n; rw [ih1, ih2]

def sayO (pol : Int) : List Int → Int × Bool × Int
  | [] => (0, false, 0)
  | o :: os => sayLoop pol o os
theorem sayO_perm {pol : Int} (hp : 1 ≤ pol ∧ pol ≤ 6) (h3 : pol ≠ 3) {l m : List Int} (h : l.Perm m) : sayO pol l = sayO pol m := by
  induction h with
  | nil => rfl
  | cons x h _ => exact sayLoop_perm pol h x
  | swap x y l =>
    show sayLoop pol y (x :: l) = sayLoop pol x (y :: l)
    have : pol = 1 ∨ pol = 2 ∨ pol = 4 ∨ pol = 5 ∨ pol = 6 := by omega
    rcases this with rfl | rfl | rfl | rfl | rfl
    · rfl
    · simp only [sayLoop, show ¬ (2 : Int) = 1 by omega, if_true, if_false]
      by_cases hx : x = y
      · subst hx; rfl
      · rw [if_pos hx, if_pos (Ne.symm hx)]
    · simp only [sayLoop, show ¬ (4 : Int) = 1 by omega, show ¬ (4 : Int) = 2 by omega, if_true, if_false]; congr 1; omega
    · simp only [sayLoop, show ¬ (5 : Int) = 1 by omega, show ¬ (5 : Int) = 2 by omega, show ¬ (5 : Int) = 4 by omega, if_true, if_false]; congr 1; omega
    · simp only [sayLoop, show ¬ (6 : Int) = 1 by omega, show ¬ (6 : Int) = 2 by omega, show ¬ (6 : Int) = 4 by omega, show ¬ (6 : Int) = 5 by omega, if_true, if_false]; congr 1; omega
  | trans _ _ ih1 ih2 => rw [ih1, ih2]

/-- The outs of the rules that hold, in order. -/
def outsL (rs : List Rl) (ns : List Int) : List Int := (rs.filter (ruleHolds · ns)).map (·.out)
theorem outs_eq (rs : List Rl) (ns : List Int) : (matchesL rs ns).map (outAt rs) = outsL rs ns := by
  unfold matchesL matchesTo outsL
  rw [List.map_map]
  have key : ∀ n, n ≤ rs.length → ((List.range n).filter (holdsAt rs ns)).map (outAt rs ∘ fun i => ((i : Nat) : Int)) = ((rs.take n).filter (ruleHolds · ns)).map (·.out) := by
    intro n
    induction n with
    | zero => intro _; rfl
    | succ n ih =>
      intro hn
      have hx : rs[n]? = some rs[n] := List.getElem?_eq_getElem (by omega)
      rw [List.range_succ, List.filter_append, List.map_append, ih (by omega), take_getElem? hx, List.filter_append, List.map_append]
      congr 1
      have hh : holdsAt rs ns n = ruleHolds rs[n] ns := by unfold holdsAt; rw [hx]
      cases h : ruleHolds rs[n] ns
      · simp [hh, h]
      · simp [hh, h, outAt, hx]
  have := key rs.length (Nat.le_refl _)
  rwa [List.take_length] at this
theorem sayL_eq (t : Tb) (ns : List Int) : sayL t (matchesL t.rules ns) = if t.pol = 7 then (((outsL t.rules ns).length : Int), true, 0) else sayO t.pol (outsL t.rules ns) := by
  unfold sayL
  rw [outs_eq, ← outs_eq t.rules ns, List.length_map, outs_eq]
  split
  · rfl
  · cases outsL t.rules ns <;> rfl

theorem says_perm {t u : Tb} {ns : List Int} (h1 : t.name = u.name) (h2 : t.pol = u.pol) (h4 : t.ins = u.ins) (h5 : t.rules.Perm u.rules) (hp : t.pol ≠ 3) (hg : goodT t = true) : saysT t ns = saysT u ns := by
  have hgu : goodT u = goodT t := by
    unfold goodT goodHead
    rw [h1, h2, h4, h5.length_eq]
    congr 1
    rw [Bool.eq_iff_iff, List.all_eq_true, List.all_eq_true]
    exact ⟨fun h x hx => h x (h5.mem_iff.1 hx), fun h x hx => h x (h5.mem_iff.2 hx)⟩
  have hb := goodT_head hg
  have hperm : (outsL t.rules ns).Perm (outsL u.rules ns) := (h5.filter _).map _
  unfold saysT
  rw [hgu, h4, sayL_eq, sayL_eq, ← h2, hperm.length_eq]
  by_cases h7 : t.pol = 7
  · rw [if_pos h7, if_pos h7]
  · rw [if_neg h7, if_neg h7, sayO_perm (by omega) hp hperm]

theorem swap_perm {α : Type} (l : List α) (k : Nat) (x y : α) (hx : l[k]? = some x) (hy : l[k + 1]? = some y) : l.Perm ((l.set k y).set (k + 1) x) := by
  have h1 : l = l.take k ++ x :: y :: l.drop (k + 2) := by
    conv => lhs; rw [← List.take_append_drop k l, drop_cons hx, drop_cons hy]
  have h2 : (l.set k y).set (k + 1) x = l.take k ++ y :: x :: l.drop (k + 2) := by
    have hk : k + 1 < l.length := (List.getElem?_eq_some_iff.1 hy).1
    have hlt : (l.take k).length = k := by rw [List.length_take]; omega
    conv => lhs; rw [h1]
    rw [List.set_append_right _ _ (by omega), hlt, Nat.sub_self, List.set_append_right _ _ (by omega), hlt, Nat.add_sub_cancel_left]
    rfl
  rw [h2]
  conv => lhs; rw [h1]
  exact (List.Perm.swap y x _).append_left _

end Go.Proofs.YtlopccnehgolnaaDoor
