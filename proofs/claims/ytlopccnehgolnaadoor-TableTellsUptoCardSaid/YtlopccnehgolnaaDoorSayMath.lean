
/- What a table says, by the reference's road: least, greatest and sum of the outs that hold. Plain, no program. -/
import Derived.Test.YtlopccnehgolnaaDoorOrdMath
namespace Go.Proofs.YtlopccnehgolnaaDoor

structure Acc3 where
  lo : Int
  hi : Int
  sm : Int
def acc3 (a : Acc3) (x : Int) : Acc3 := ⟨min a.lo x, max a.hi x, a.sm + x⟩
def acc3To (l : List Int) : Acc3 := l.foldl acc3 ⟨l.headD 0, l.headD 0, 0⟩
def pickO (pol o : Int) (a : Acc3) : Int := if pol = 4 then a.lo else if pol = 5 then a.hi else if pol = 6 then a.sm else o
def sayR (pol : Int) (l : List Int) : Int × Bool × Int :=
  if (pol = 1 ∧ 1 < l.length) ∨ (pol = 2 ∧ (acc3To l).lo ≠ (acc3To l).hi) then (0, false, 4) else (pickO pol (l.headD 0) (acc3To l), true, 0)

theorem acc3_lo (l : List Int) (a : Acc3) : (l.foldl acc3 a).lo = l.foldl min a.lo := by
  induction l generalizing a with
  | nil => rfl
  | cons x l ih => rw [List.foldl_cons, ih]; rfl
theorem acc3_hi (l : List Int) (a : Acc3) : (l.foldl acc3 a).hi = l.foldl max a.hi := by
  induction l generalizing a with
  | nil => rfl
  | cons x l ih => rw [List.foldl_cons, ih]; rfl
theorem acc3_sm (l : List Int) (a : Acc3) : (l.foldl acc3 a).sm = l.foldl (· + ·) a.sm := by
  induction l generalizing a with
  | nil => rfl
  | cons x l ih => rw [List.foldl_cons, ih]; rfl
theorem min_le (l : List Int) (a : Int) : l.foldl min a ≤ a := by
  induction l generalizing a with
  | nil => exact Int.le_refl _
  | cons x l ih => rw [List.foldl_cons]; have := ih (min a x); omega
theorem max_ge (l : List Int) (a : Int) : a ≤ l.foldl max a := by
  induction l generalizing a with
  | nil => exact Int.le_refl _
  | cons x l ih => rw [List.foldl_cons]; have := ih (max a x); omega

theorem loop4 (l : List Int) (n : Int) : sayLoop 4 n l = (l.foldl min n, true, 0) := by
  induction l generalizing n with
  | nil => rfl
  | cons x l ih => rw [sayLoop]; simp [ih]
theorem loop5 (l : List Int) (n : Int) : sayLoop 5 n l = (l.foldl max n, true, 0) := by
  induction l generalizing n with
  | nil => rfl
  | cons x l ih => rw [sayLoop]; simp [ih]
theorem loop6 (l : List Int) (n : Int) : sayLoop 6 n l = (l.foldl (· + ·) n, true, 0) := by
  induction l generalizing n with
  | nil => rfl
  | cons x l ih => rw [sayLoop]; simp [ih]
theorem loop3 (l : List Int) (n : Int) : sayLoop 3 n l = (n, true, 0) := by
  induction l generalizing n with
  | nil => rfl
  | cons x l ih => rw [sayLoop]; simp [ih]
theorem loop2 (l : List Int) (n : Int) : sayLoop 2 n l = if l.foldl min n ≠ l.foldl max n then (0, false, 4) else (n, true, 0) := by
  induction l generalizing n with
  | nil => simp [sayLoop]
  | cons x l ih =>
    rw [sayLoop]
    simp only [List.foldl_cons]
    by_cases h : x = n
    · subst h
      simp [ih]
    · have h1 := min_le l (min n x)
      have h2 := max_ge l (max n x)
      have h3 : l.foldl min (min n x) ≠ l.foldl max (max n x) := by omega
      simp [h, h3]

theorem sayR_eq {pol : Int} (h1 : 1 ≤ pol) (h6 : pol ≤ 6) (o : Int) (l : List Int) : sayLoop pol o l = sayR pol (o :: l) := by
  have hlo : (acc3To (o :: l)).lo = l.foldl min o := by unfold acc3To; rw [acc3_lo]; simp
  have hhi : (acc3To (o :: l)).hi = l.foldl max o := by unfold acc3To; rw [acc3_hi]; simp
  have hsm : (acc3To (o :: l)).sm = l.foldl (· + ·) o := by unfold acc3To; rw [acc3_sm]; simp
  unfold sayR pickO
  rw [hlo, hhi, hsm]
  have hp : pol = 1 ∨ pol = 2 ∨ pol = 3 ∨ pol = 4 ∨ pol = 5 ∨ pol = 6 := by omega
  rcases hp with rfl | rfl | rfl | rfl | rfl | rfl
  · cases l with
    | nil => simp [sayLoop]
    | cons x l => rw [sayLoop]; simp
  · rw [loop2]; simp
  · rw [loop3]; simp
  · rw [loop4]; simp
  · rw [loop5]; simp
  · rw [loop6]; simp

theorem acc3_snoc {l : List Int} {k : Nat} {x : Int} (h : l[k]? = some x) (a : Acc3) : (l.take (k + 1)).foldl acc3 a = acc3 ((l.take k).foldl acc3 a) x := by
  rw [List.take_add_one, h, Option.toList_some, List.foldl_append]
  rfl

end Go.Proofs.YtlopccnehgolnaaDoor
