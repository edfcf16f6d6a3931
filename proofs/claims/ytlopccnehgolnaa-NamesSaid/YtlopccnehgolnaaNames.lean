/- Names returns true: the numbers of package api are the given ones. No condition. -/
import Derived.Test.YtlopccnehgolnaaRows
import Derived.Test.YtlopccnehgolnaaFrame
namespace Go.Proofs.Ytlopccnehgolnaa
open Go.ChangeShapes Go.WideShapes Go.ChangeAt Go.RowKit

theorem Names_walk (w : World) : Calls Try.prog 3 #[] w fun e w' => e = .returned (.bool true) ∧ Below w.heap.size w w' := by
  go_enter Try.func3, Try.ntmps3
  go_wp2
  go_ret
  exact ⟨rfl, Below.refl _ _⟩

theorem names_lifted (os : Os) (started : os.Started) (H : Type) (enc : TypeId × Value → H) :
    ReturnsInHanded {} Try.checked os 3 .any (Rows.namesSpec.pre6 enc Try.prog Try.f3 Rows.namesRow.domain false) (Rows.namesSpec.post enc Try.prog Try.f3 false true false false) := by
  refine law_lifted (C := Try.checked) (by kernel_rfl) started (by kernel_rfl) Try.func3 (by kernel_rfl) 4 Try.underlying4 (by kernel_rfl) rfl ?_ ?_
    (ChangeSpec.witness6 (enc := enc) (C := Try.checked) false ⟨#[], #[], []⟩ 8 (by kernel_rfl) (by kernel_rfl) (by kernel_rfl) (by kernel_rfl)) ?_
  · rw [show Try.f3.params.toList = [] by kernel_rfl]
    intro t ht
    cases ht
  · rw [show Try.f3.params.toList = [] by kernel_rfl]
    intro ds hd
    obtain rfl : ds = [] := List.eq_nil_of_length_eq_zero hd
    rfl
  · intro W base args ds p _ hA _
    rw [show Try.f3.params.toList = [] by kernel_rfl] at hA
    obtain ⟨h1, rfl, rfl⟩ := trodAll_nil hA
    obtain rfl : args = #[] := by cases args; simp_all
    exact Names_walk W

theorem names_holds : Rows.NamesSaid :=
  OpenClaim.holds_of_wide 3 Try.f3 rfl rfl rfl rfl rfl rfl rfl ⟨rfl, rfl, rfl, rfl, rfl⟩ rfl rfl rfl rfl rfl (by kernel_rfl) Try.func3 (by kernel_rfl)
    (of_decide_eq_true (by kernel_rfl)) (by unfold Func.isWrapper; rw [if_neg (of_decide_eq_false (by kernel_rfl))]; exact ⟨rfl, rfl⟩)
    (fun os started H enc _ => names_lifted os started H enc)
#print axioms names_holds
end Go.Proofs.Ytlopccnehgolnaa
