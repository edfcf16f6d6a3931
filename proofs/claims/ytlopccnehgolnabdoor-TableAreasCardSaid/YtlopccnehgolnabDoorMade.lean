
/- Contract of the reference's made, at each closure that it is given. -/
import Derived.Test.YtlopccnehgolnabDoorEdgesB
namespace Go.Proofs.YtlopccnehgolnabDoor
open Go.RowKit Rb

theorem pushM_len (out : List Rg) (n e : Int) : (pushM out n e).length ≤ out.length + 1 := by
  unfold pushM
  split
  · rename_i x hx
    have : out ≠ [] := fun h => by simp [h] at hx
    have := List.length_pos_iff.2 this
    split <;> simp <;> omega
  · simp
theorem madeL_cons (p : Int → Bool) (n : Int) (t : List Int) (out : List Rg) : madeL p (n :: t) out = madeL p t (if p n then pushM out n (endOf t) else out) := rfl

/-- What a round of 'made' needs of the ranges so far: their ends are numbers. -/
def OutOk (out : List Rg) : Prop := ∀ x ∈ out, -1000000 ≤ x.1 ∧ x.1 ≤ 1000000 ∧ -1000001 ≤ x.2 ∧ x.2 ≤ 1000000
theorem OutOk.push {out : List Rg} {n e : Int} (h : OutOk out) (h1 : -1000000 ≤ n) (h2 : n ≤ 1000000) (h3 : -1000001 ≤ e) (h4 : e ≤ 1000000) : OutOk (pushM out n e) := by
  rcases List.eq_nil_or_concat out with rfl | ⟨init, x, rfl⟩
  · intro y hy
    have : y = (n, e) := by simpa [pushM] using hy
    subst this; exact ⟨h1, h2, h3, h4⟩
  · rw [List.concat_eq_append] at h ⊢
    have hx := h x (by simp)
    have e' : pushM (init ++ [x]) n e = if x.2 = n - 1 then init ++ [(x.1, e)] else init ++ [x] ++ [(n, e)] := by simp [pushM]
    rw [e']
    intro y hy
    split at hy
    · rcases List.mem_append.1 hy with hy | hy
      · exact h y (by simp [hy])
      · obtain rfl : y = (x.1, e) := by simpa using hy
        exact ⟨hx.1, hx.2.1, h3, h4⟩
    · rcases List.mem_append.1 hy with hy | hy
      · exact h y hy
      · obtain rfl : y = (n, e) := by simpa using hy
        exact ⟨h1, h2, h3, h4⟩


end Go.Proofs.YtlopccnehgolnabDoor
