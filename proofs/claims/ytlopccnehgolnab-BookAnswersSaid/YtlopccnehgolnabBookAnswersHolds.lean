
/- BookAnswers returns true, for every book and input. No condition. -/
import Derived.Test.YtlopccnehgolnabAnsX
import Derived.Test.YtlopccnehgolnabOpenX
import Derived.Test.YtlopccnehgolnabRows
namespace Go.Proofs.Ytlopccnehgolnab
open Go.ChangeShapes Go.WideShapes Go.ChangeAt Go.RowKit Rb

theorem bookAnswers_params : Try.f5.params.toList = [46, 28] := by kernel_rfl

theorem bookAnswers_lifted (os : Os) (started : os.Started) (H : Type) (enc : TypeId × Value → H) :
    ReturnsInHanded {} Try.checked os 5 .any (Rows.bookAnswersSpec.pre6 enc Try.prog Try.f5 Rows.bookAnswersRow.domain false) (Rows.bookAnswersSpec.post enc Try.prog Try.f5 false true false false) := by
  refine law_lifted (C := Try.checked) (by kernel_rfl) started (by kernel_rfl) Try.func5 (by kernel_rfl) 4 Try.underlying4 (by kernel_rfl) rfl ?_ ?_
    (ChangeSpec.witness6 (enc := enc) (C := Try.checked) false ⟨#[], #[.agg #[.slice none 0 0, .slice none 0 0], .slice none 0 0], []⟩ 8 (by kernel_rfl) (by kernel_rfl) (by kernel_rfl) (by kernel_rfl)) ?_
  · rw [bookAnswers_params]
    intro t ht
    simp only [List.mem_cons, List.not_mem_nil, or_false] at ht
    rcases ht with rfl | rfl <;> exact ⟨by kernel_rfl, of_decide_eq_true (by kernel_rfl)⟩
  · rw [bookAnswers_params]
    intro ds hd
    match ds, hd with
    | [d0, d1], _ => rfl
  · intro W base args ds p hval hA hwt
    rw [bookAnswers_params] at hA hwt
    have hpar : Try.f5.params = #[46, 28] := by kernel_rfl
    have hP : Try.checked.prog = Try.prog := rfl
    rw [hpar, hP] at hval
    rw [hP] at hA hwt
    rw [hP]
    clear hpar hP
    obtain ⟨v0, vs0, d0, ds0, p0, q0, hargs, rfl, rfl, h0, r0⟩ := trodAll_cons hA
    obtain ⟨v1, vs1, d1, ds1, p1, q1, rfl, rfl, rfl, h1, r1⟩ := trodAll_cons r0
    obtain ⟨rfl, rfl, rfl⟩ := trodAll_nil r1
    obtain rfl : args = #[v0, v1] := by cases args; simp_all
    obtain ⟨ca0, rfl, _⟩ := hval.struct bk_struct (j := 0) rfl rfl
    obtain ⟨cs0, rfl⟩ : ∃ l : List Value, ca0 = l.toArray := ⟨ca0.toList, by simp⟩
    obtain ⟨l0, g0⟩ := open_Bk.arg hwt (j := 0) rfl rfl h0
    obtain ⟨a1, u1, c1, rfl⟩ := hval.slice Try.underlying28 (j := 1) rfl rfl
    obtain ⟨l1, g1⟩ := open_Ints.arg hwt (j := 1) rfl rfl h1
    exact BookAnswers_walk W g0 g1

theorem bookAnswers_holds : Rows.BookAnswersSaid :=
  OpenClaim.holds_of_wide 5 Try.f5 rfl rfl rfl rfl rfl rfl rfl ⟨rfl, rfl, rfl, rfl, rfl⟩ rfl rfl rfl rfl rfl (by kernel_rfl) Try.func5 (by kernel_rfl)
    (of_decide_eq_true (by kernel_rfl)) (by unfold Func.isWrapper; rw [if_neg (of_decide_eq_false (by kernel_rfl))]; exact ⟨rfl, rfl⟩)
    (fun os started H enc _ => bookAnswers_lifted os started H enc)
#print axioms bookAnswers_holds
end Go.Proofs.Ytlopccnehgolnab
