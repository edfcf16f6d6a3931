/- SpanPairs returns true, for every two lists of ranges. No condition. -/
import Derived.Test.YtlopccnehgolnaaSpanPairs
import Derived.Test.YtlopccnehgolnaaOpenRg
namespace Go.Proofs.Ytlopccnehgolnaa
open Go.ChangeShapes Go.WideShapes Go.ChangeAt Go.RowKit Rb

theorem spanPairs_params : Try.f7.params.toList = [37, 37] := by kernel_rfl

theorem spanPairs_lifted (os : Os) (started : os.Started) (H : Type) (enc : TypeId × Value → H) :
    ReturnsInHanded {} Try.checked os 7 .any (Rows.spanPairsSpec.pre6 enc Try.prog Try.f7 Rows.spanPairsRow.domain false) (Rows.spanPairsSpec.post enc Try.prog Try.f7 false true false false) := by
  refine law_lifted (C := Try.checked) (by kernel_rfl) started (by kernel_rfl) Try.func7 (by kernel_rfl) 4 Try.underlying4 (by kernel_rfl) rfl ?_ ?_
    (ChangeSpec.witness6 (enc := enc) (C := Try.checked) false ⟨#[], #[.slice none 0 0, .slice none 0 0], []⟩ 8 (by kernel_rfl) (by kernel_rfl) (by kernel_rfl) (by kernel_rfl)) ?_
  · rw [spanPairs_params]
    intro t ht
    simp only [List.mem_cons, List.not_mem_nil, or_false] at ht
    rcases ht with rfl | rfl <;> exact ⟨by kernel_rfl, of_decide_eq_true (by kernel_rfl)⟩
  · rw [spanPairs_params]
    intro ds hd
    match ds, hd with
    | [d0, d1], _ => rfl
  · intro W base args ds p hval hA hwt
    rw [spanPairs_params] at hA hwt
    have hpar : Try.f7.params = #[37, 37] := by kernel_rfl
    have hP : Try.checked.prog = Try.prog := rfl
    rw [hpar, hP] at hval
    rw [hP] at hA hwt
    rw [hP]
    clear hpar hP
    obtain ⟨v0, vs0, d0, ds0, p0, q0, hargs, rfl, rfl, h0, r0⟩ := trodAll_cons hA
    obtain ⟨v1, vs1, d1, ds1, p1, q1, rfl, rfl, rfl, h1, r1⟩ := trodAll_cons r0
    obtain ⟨rfl, rfl, rfl⟩ := trodAll_nil r1
    obtain rfl : args = #[v0, v1] := by cases args; simp_all
    obtain ⟨a0, u0, c0, rfl⟩ := hval.slice Try.underlying37 (j := 0) rfl rfl
    obtain ⟨l0, g0⟩ := open_Rgs.arg hwt (j := 0) rfl rfl h0
    obtain ⟨a1, u1, c1, rfl⟩ := hval.slice Try.underlying37 (j := 1) rfl rfl
    obtain ⟨l1, g1⟩ := open_Rgs.arg hwt (j := 1) rfl rfl h1
    exact SpanPairs_walk W g0 g1

theorem spanPairs_holds : Rows.SpanPairsSaid :=
  OpenClaim.holds_of_wide 7 Try.f7 rfl rfl rfl rfl rfl rfl rfl ⟨rfl, rfl, rfl, rfl, rfl⟩ rfl rfl rfl rfl rfl (by kernel_rfl) Try.func7 (by kernel_rfl)
    (of_decide_eq_true (by kernel_rfl)) (by unfold Func.isWrapper; rw [if_neg (of_decide_eq_false (by kernel_rfl))]; exact ⟨rfl, rfl⟩)
    (fun os started H enc _ => spanPairs_lifted os started H enc)
#print axioms spanPairs_holds
end Go.Proofs.Ytlopccnehgolnaa
