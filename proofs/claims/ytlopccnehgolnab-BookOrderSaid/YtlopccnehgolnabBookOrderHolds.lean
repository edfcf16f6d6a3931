
/- BookOrder returns true, for every book. No condition. -/
import Derived.Test.YtlopccnehgolnabBookOrder
import Derived.Test.YtlopccnehgolnabOpenX
import Derived.Test.YtlopccnehgolnabRows
namespace Go.Proofs.Ytlopccnehgolnab
open Go.ChangeShapes Go.WideShapes Go.ChangeAt Go.RowKit Rb

theorem bookOrder_params : Try.f6.params.toList = [46] := by kernel_rfl

theorem bookOrder_lifted (os : Os) (started : os.Started) (H : Type) (enc : TypeId × Value → H) :
    ReturnsInHanded {} Try.checked os 6 .any (Rows.bookOrderSpec.pre6 enc Try.prog Try.f6 Rows.bookOrderRow.domain false) (Rows.bookOrderSpec.post enc Try.prog Try.f6 false true false false) := by
  refine law_lifted (C := Try.checked) (by kernel_rfl) started (by kernel_rfl) Try.func6 (by kernel_rfl) 4 Try.underlying4 (by kernel_rfl) rfl ?_ ?_
    (ChangeSpec.witness6 (enc := enc) (C := Try.checked) false ⟨#[], #[.agg #[.slice none 0 0, .slice none 0 0]], []⟩ 8 (by kernel_rfl) (by kernel_rfl) (by kernel_rfl) (by kernel_rfl)) ?_
  · rw [bookOrder_params]
    intro t ht
    simp only [List.mem_cons, List.not_mem_nil, or_false] at ht
    subst ht; exact ⟨by kernel_rfl, of_decide_eq_true (by kernel_rfl)⟩
  · rw [bookOrder_params]
    intro ds hd
    match ds, hd with
    | [d0], _ => rfl
  · intro W base args ds p hval hA hwt
    rw [bookOrder_params] at hA hwt
    have hpar : Try.f6.params = #[46] := by kernel_rfl
    have hP : Try.checked.prog = Try.prog := rfl
    rw [hpar, hP] at hval
    rw [hP] at hA hwt
    rw [hP]
    clear hpar hP
    obtain ⟨v0, vs0, d0, ds0, p0, q0, hargs, rfl, rfl, h0, r0⟩ := trodAll_cons hA
    obtain ⟨rfl, rfl, rfl⟩ := trodAll_nil r0
    obtain rfl : args = #[v0] := by cases args; simp_all
    obtain ⟨ca0, rfl, _⟩ := hval.struct bk_struct (j := 0) rfl rfl
    obtain ⟨cs0, rfl⟩ : ∃ l : List Value, ca0 = l.toArray := ⟨ca0.toList, by simp⟩
    obtain ⟨l0, g0⟩ := open_Bk.arg hwt (j := 0) rfl rfl h0
    exact BookOrder_walk W g0

theorem bookOrder_holds : Rows.BookOrderSaid :=
  OpenClaim.holds_of_wide 6 Try.f6 rfl rfl rfl rfl rfl rfl rfl ⟨rfl, rfl, rfl, rfl, rfl⟩ rfl rfl rfl rfl rfl (by kernel_rfl) Try.func6 (by kernel_rfl)
    (of_decide_eq_true (by kernel_rfl)) (by unfold Func.isWrapper; rw [if_neg (of_decide_eq_false (by kernel_rfl))]; exact ⟨rfl, rfl⟩)
    (fun os started H enc _ => bookOrder_lifted os started H enc)
#print axioms bookOrder_holds
end Go.Proofs.Ytlopccnehgolnab
