
/- The reader's table, as data. -/
import Derived.Test.YtlopccnehgolnabDoorRdrC
namespace Go.Proofs.YtlopccnehgolnabDoor
open Go.RowKit Rb

/-- What is read again and again, with a word between. -/
def itemsGo {α : Type} (item : Rs → α × Rs) (sep : Txt) : Nat → Rs → List α → List α × Rs
  | 0, r, acc => (acc, r)
  | f + 1, r, acc => if r.bad then (acc, r) else if (atR (item r).2 sep).1 then itemsGo item sep f (atR (item r).2 sep).2 (acc ++ [(item r).1]) else (acc ++ [(item r).1], (atR (item r).2 sep).2)
def itemsEnd {α : Type} (item : Rs → α × Rs) (sep : Txt) (r : Rs) (acc : List α) : List α × Rs := itemsGo item sep (r.l.length + 1) r acc
section
variable {α : Type} {item : Rs → α × Rs} {sep : Txt} (hi : ∀ r, (item r).2.l.length ≤ r.l.length)
include hi
theorem itemsGo_two : ∀ (f g : Nat) (r : Rs) (acc : List α), r.l.length < f → r.l.length < g → itemsGo item sep f r acc = itemsGo item sep g r acc := by
  intro f
  induction f with
  | zero => intro g r acc h; omega
  | succ f ih =>
    intro g r acc h hg
    cases g with
    | zero => omega
    | succ g =>
      simp only [itemsGo]
      split
      · rfl
      · split
        · rename_i h1
          have h2 := atR_lt h1
          have h3 := hi r
          exact ih g _ _ (by omega) (by omega)
        · rfl
theorem itemsEnd_on {r r5 r6 : Rs} {x : α} (acc : List α) (h : r.bad = false) (h1 : item r = (x, r5)) (h2 : atR r5 sep = (true, r6)) : itemsEnd item sep r acc = itemsEnd item sep r6 (acc ++ [x]) := by
  have e1 : itemsEnd item sep r acc = itemsGo item sep r.l.length (atR (item r).2 sep).2 (acc ++ [(item r).1]) := by
    unfold itemsEnd
    simp only [itemsGo]
    rw [if_neg (by simp [h]), if_pos (by rw [h1, h2])]
  rw [e1, h1, h2]
  have h4 : (atR r5 sep).2.l.length < r5.l.length := atR_lt (by rw [h2])
  have h3 := hi r
  rw [h1] at h3
  rw [h2] at h4
  dsimp only at h3 h4
  show itemsGo item sep r.l.length r6 (acc ++ [x]) = itemsGo item sep (r6.l.length + 1) r6 (acc ++ [x])
  exact itemsGo_two hi _ _ _ _ (by omega) (by omega)
theorem itemsGo_len : ∀ (f : Nat) (r : Rs) (acc : List α), (itemsGo item sep f r acc).2.l.length ≤ r.l.length := by
  intro f
  induction f with
  | zero => intro r acc; exact Nat.le_refl _
  | succ f ih =>
    intro r acc
    simp only [itemsGo]
    have h3 := hi r
    have h4 := atR_len (item r).2 sep
    split
    · exact Nat.le_refl _
    · split
      · exact Nat.le_trans (ih _ _) (by omega)
      · dsimp only; omega
end
theorem itemsEnd_bad {α : Type} {item : Rs → α × Rs} {sep : Txt} {r : Rs} (acc : List α) (h : r.bad = true) : itemsEnd item sep r acc = (acc, r) := by
  unfold itemsEnd
  simp only [itemsGo]
  rw [if_pos h]
theorem itemsEnd_off {α : Type} {item : Rs → α × Rs} {sep : Txt} {r r5 r6 : Rs} {x : α} (acc : List α) (h : r.bad = false) (h1 : item r = (x, r5)) (h2 : atR r5 sep = (false, r6)) : itemsEnd item sep r acc = (acc ++ [x], r6) := by
  unfold itemsEnd
  simp only [itemsGo]
  rw [if_neg (by simp [h]), if_neg (by rw [h1, h2]; simp), h1, h2]

theorem cellEnd_len (r : Rs) (acc : List Rg) : (cellEnd r acc).2.l.length ≤ r.l.length := by
  have key : ∀ (f : Nat) (r : Rs) (acc : List Rg), (cellGo f r acc).2.l.length ≤ r.l.length := by
    intro f
    induction f with
    | zero => intro r acc; exact Nat.le_refl _
    | succ f ih =>
      intro r acc
      simp only [cellGo]
      have h3 := rangeR_len r
      have h4 := atR_len (rangeR r).2 [124]
      split
      · exact Nat.le_refl _
      · split
        · exact Nat.le_trans (ih _ _) (by omega)
        · dsimp only; omega
  exact key _ _ _
theorem cellR_len (r : Rs) : (cellR r).2.l.length ≤ r.l.length := by
  unfold cellR
  have h1 := atR_len r [42]
  have h2 := atR_len (atR r [42]).2 [110, 111, 116]
  have h3 := cellEnd_len (atR (atR r [42]).2 [110, 111, 116]).2 []
  split <;> dsimp only <;> omega
theorem nameR_len (r : Rs) : (nameR r).2.l.length ≤ r.l.length := nextR_len r
theorem takeR_len (r : Rs) (s : Txt) : (takeR r s).l.length ≤ r.l.length := by
  unfold takeR
  have := atR_len r s
  split
  · exact this
  · exact this
theorem takeR_lt {r : Rs} {s : Txt} (h : (takeR r s).bad = false) : (takeR r s).l.length < r.l.length := by
  unfold takeR at h ⊢
  split
  · rename_i h1; exact atR_lt h1
  · rename_i h1; rw [if_neg h1] at h; cases h

def pols : List Txt := [[], [117, 110, 105, 113, 117, 101], [97, 110, 121], [102, 105, 114, 115, 116], [108, 101, 97, 115, 116], [109, 111, 115, 116], [115, 117, 109], [99, 111, 117, 110, 116]]
/-- One rule, behind the test for the end. -/
def ruleR (r : Rs) : Rl × Rs :=
  (⟨(itemsEnd cellR [44] r []).1, (numberR (takeR (itemsEnd cellR [44] r []).2 [61, 62])).1⟩, takeR (numberR (takeR (itemsEnd cellR [44] r []).2 [61, 62])).2 [59])
theorem ruleR_len (r : Rs) : (ruleR r).2.l.length ≤ r.l.length := by
  unfold ruleR
  dsimp only
  have h1 : (itemsEnd cellR [44] r []).2.l.length ≤ r.l.length := itemsGo_len cellR_len _ _ _
  have h2 := takeR_len (itemsEnd cellR [44] r []).2 [61, 62]
  have h3 := numberR_len (takeR (itemsEnd cellR [44] r []).2 [61, 62])
  have h4 := takeR_len (numberR (takeR (itemsEnd cellR [44] r []).2 [61, 62])).2 [59]
  omega
theorem ruleR_lt {r : Rs} (h : (ruleR r).2.bad = false) : (ruleR r).2.l.length < r.l.length := by
  unfold ruleR at h ⊢
  dsimp only at h ⊢
  have h1 : (itemsEnd cellR [44] r []).2.l.length ≤ r.l.length := itemsGo_len cellR_len _ _ _
  have h2 := takeR_len (itemsEnd cellR [44] r []).2 [61, 62]
  have h3 := numberR_len (takeR (itemsEnd cellR [44] r []).2 [61, 62])
  have h4 := takeR_lt h
  omega
def rulesGo : Nat → Rs → List Rl → List Rl × Rs
  | 0, r, acc => (acc, r)
  | f + 1, r, acc => if r.bad then (acc, r) else if (atR r [125]).1 then (acc, (atR r [125]).2) else rulesGo f (ruleR (atR r [125]).2).2 (acc ++ [(ruleR (atR r [125]).2).1])
def rulesEnd (r : Rs) (acc : List Rl) : List Rl × Rs := rulesGo (r.l.length + 1) r acc
theorem rulesGo_bad (f : Nat) {r : Rs} (acc : List Rl) (h : r.bad = true) : rulesGo f r acc = (acc, r) := by
  cases f with
  | zero => rfl
  | succ f => simp only [rulesGo]; rw [if_pos h]
theorem rulesGo_two : ∀ (f g : Nat) (r : Rs) (acc : List Rl), r.l.length < f → r.l.length < g → rulesGo f r acc = rulesGo g r acc := by
  intro f
  induction f with
  | zero => intro g r acc h; omega
  | succ f ih =>
    intro g r acc h hg
    cases g with
    | zero => omega
    | succ g =>
      simp only [rulesGo]
      split
      · rfl
      · split
        · rfl
        · cases hb : (ruleR (atR r [125]).2).2.bad
          · have h1 := ruleR_lt hb
            have h2 := atR_len r [125]
            exact ih g _ _ (by omega) (by omega)
          · rw [rulesGo_bad _ _ hb, rulesGo_bad _ _ hb]
theorem rulesEnd_bad {r : Rs} (acc : List Rl) (h : r.bad = true) : rulesEnd r acc = (acc, r) := rulesGo_bad _ _ h
theorem rulesEnd_off {r r1 : Rs} (acc : List Rl) (h : r.bad = false) (h1 : atR r [125] = (true, r1)) : rulesEnd r acc = (acc, r1) := by
  unfold rulesEnd
  simp only [rulesGo]
  rw [if_neg (by simp [h]), if_pos (by rw [h1]), h1]
theorem rulesEnd_on {r r1 r5 : Rs} {x : Rl} (acc : List Rl) (h : r.bad = false) (h1 : atR r [125] = (false, r1)) (h2 : ruleR r1 = (x, r5)) : rulesEnd r acc = rulesEnd r5 (acc ++ [x]) := by
  have e1 : rulesEnd r acc = rulesGo r.l.length (ruleR (atR r [125]).2).2 (acc ++ [(ruleR (atR r [125]).2).1]) := by
    unfold rulesEnd
    simp only [rulesGo]
    rw [if_neg (by simp [h]), if_neg (by rw [h1]; simp)]
  rw [e1, h1]
  dsimp only
  rw [h2]
  dsimp only
  cases hb : r5.bad
  · have h3 := ruleR_lt (r := r1) (by rw [h2]; exact hb)
    have h4 := atR_len r [125]
    rw [h1] at h4
    rw [h2] at h3
    dsimp only at h3 h4
    exact rulesGo_two _ _ _ _ (by omega) (by omega)
  · rw [rulesGo_bad _ _ hb, rulesEnd_bad _ hb]
/-- The whole table. -/
def tabRd (r : Rs) : Tb × Rs :=
  let a1 := nameR r
  let a2 := nextR a1.2
  let a3 := atR a2.2 [99, 111, 109, 112, 108, 101, 116, 101]
  let a4 := takeR a3.2 [40]
  let a5 := itemsEnd nameR [44] a4 []
  let a6 := takeR a5.2 [41]
  let a7 := takeR a6 [123]
  let a8 := rulesEnd a7 []
  (⟨a1.1, idxOf pols a2.1, a3.1, a5.1, a8.1⟩, a8.2)

end Go.Proofs.YtlopccnehgolnabDoor
