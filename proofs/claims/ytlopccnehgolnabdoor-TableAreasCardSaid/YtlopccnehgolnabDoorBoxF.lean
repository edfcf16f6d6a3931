
/- Contracts of count and Rest. -/
import Derived.Test.YtlopccnehgolnabDoorBoxE
import Derived.Test.YtlopccnehgolnabDoorBoxMath
namespace Go.Proofs.YtlopccnehgolnabDoor
open Go.RowKit Rb

theorem sumSz_nonneg (l : List Bx) : 0 ≤ sumSz l := by
  induction l with
  | nil => exact Int.le_refl _
  | cons b l ih =>
    have := (sizeBx_bd b).1
    show 0 ≤ sizeBx b + sumSz l
    omega
theorem sumSz_take {l : List Bx} {k : Nat} {x : Bx} (h : l[k]? = some x) : sumSz (l.take (k + 1)) = sumSz (l.take k) + sizeBx x ∧ sumSz (l.take (k + 1)) ≤ sumSz l := by
  have h1 : sumSz (l.take (k + 1)) = sumSz (l.take k) + sizeBx x := by rw [take_getElem? h, sumSz_append]; simp [sumSz]
  refine ⟨h1, ?_⟩
  have h2 := sumSz_append (l.take (k + 1)) (l.drop (k + 1))
  rw [List.take_append_drop] at h2
  have := sumSz_nonneg (l.drop (k + 1))
  omega
theorem cntIn_take {l : List Bx} {k : Nat} {x : Bx} (ns : List Int) (h : l[k]? = some x) : cntIn (l.take (k + 1)) ns = cntIn (l.take k) ns + (if inBx x ns then 1 else 0) := by
  rw [take_getElem? h, cntIn_append, cntIn_cons, cntIn_nil, Nat.add_zero]
theorem cntIn_le (l : List Bx) (ns : List Int) : cntIn l ns ≤ l.length := List.length_filter_le _ _

/-- What Rest leaves. -/
def restStep (n : Nat) (out : List Bx) (b : Bx) : List Bx := if goodBx b (n : Int) then out.flatMap (lessB · b) else out
def restB (a : Bx) (l : List Bx) : List Bx := if goodBx a (a.length : Int) then l.foldl (restStep a.length) [a] else []

theorem lessGo_len : ∀ (a b pre : Bx), (lessGo pre a b).length ≤ a.length
  | s :: a, t :: b, pre => by
    rw [lessGo, List.length_append]
    have := lessGo_len a b (pre ++ [bothS s t])
    split <;> split <;> simp <;> omega
  | [], [], _ => by simp [lessGo]
  | [], _ :: _, _ => by simp [lessGo]
  | _ :: _, [], _ => by simp [lessGo]
theorem lessB_len (a b : Bx) : (lessB a b).length ≤ 3 := by
  unfold lessB
  split
  · rename_i h
    simp only [Bool.and_eq_true] at h
    have := (goodBx_iff.1 h.1).2.2
    have := lessGo_len a b []
    omega
  · simp
theorem flatMap_len (out : List Bx) (b : Bx) : (out.flatMap (lessB · b)).length ≤ 3 * out.length := by
  induction out with
  | nil => simp
  | cons x t ih =>
    rw [List.flatMap_cons, List.length_append]
    have := lessB_len x b
    simp only [List.length_cons]
    omega

end Go.Proofs.YtlopccnehgolnabDoor
