
/- TableLeast returns true, for every table, box and input. No condition. -/
import Derived.Test.YtlopccnehgolnabTableLeast
import Derived.Test.YtlopccnehgolnabOpenTb
import Derived.Test.YtlopccnehgolnabOpenBx
import Derived.Test.YtlopccnehgolnabFrame
import Derived.Test.YtlopccnehgolnabRows
namespace Go.Proofs.Ytlopccnehgolnab
open Go.ChangeShapes Go.WideShapes Go.ChangeAt Go.RowKit Rb

theorem tableLeast_params : Try.f4.params.toList = [25, 27, 28] := by kernel_rfl

theorem tableLeast_lifted (os : Os) (started : os.Started) (H : Type) (enc : TypeId × Value → H) :
    ReturnsInHanded {} Try.checked os 4 .any (Rows.tableLeastSpec.pre6 enc Try.prog Try.f4 Rows.tableLeastRow.domain false) (Rows.tableLeastSpec.post enc Try.prog Try.f4 false true false false) := by
  refine law_lifted (C := Try.checked) (by kernel_rfl) started (by kernel_rfl) Try.func4 (by kernel_rfl) 4 Try.underlying4 (by kernel_rfl) rfl ?_ ?_
    (ChangeSpec.witness6 (enc := enc) (C := Try.checked) false ⟨#[], #[.agg #[.string ⟨#[]⟩, .int .i64 0, .bool false, .slice none 0 0, .slice none 0 0], .slice none 0 0, .slice none 0 0], []⟩ 8 (by kernel_rfl) (by kernel_rfl) (by kernel_rfl) (by kernel_rfl)) ?_
  · rw [tableLeast_params]
    intro t ht
    simp only [List.mem_cons, List.not_mem_nil, or_false] at ht
    rcases ht with rfl | rfl | rfl <;> exact ⟨by kernel_rfl, of_decide_eq_true (by kernel_rfl)⟩
  · rw [tableLeast_params]
    intro ds hd
    match ds, hd with
    | [d0, d1, d2], _ => rfl
  · intro W base args ds p hval hA hwt
    rw [tableLeast_params] at hA hwt
    have hpar : Try.f4.params = #[25, 27, 28] := by kernel_rfl
    have hP : Try.checked.prog = Try.prog := rfl
    rw [hpar, hP] at hval
    rw [hP] at hA hwt
    rw [hP]
    clear hpar hP
    obtain ⟨v0, vs0, d0, ds0, p0, q0, hargs, rfl, rfl, h0, r0⟩ := trodAll_cons hA
    obtain ⟨v1, vs1, d1, ds1, p1, q1, rfl, rfl, rfl, h1, r1⟩ := trodAll_cons r0
    obtain ⟨v2, vs2, d2, ds2, p2, q2, rfl, rfl, rfl, h2, r2⟩ := trodAll_cons r1
    obtain ⟨rfl, rfl, rfl⟩ := trodAll_nil r2
    obtain rfl : args = #[v0, v1, v2] := by cases args; simp_all
    obtain ⟨ca0, rfl, _⟩ := hval.struct tb_struct (j := 0) rfl rfl
    obtain ⟨cs0, rfl⟩ : ∃ l : List Value, ca0 = l.toArray := ⟨ca0.toList, by simp⟩
    obtain ⟨l0, g0⟩ := open_Tb.arg hwt (j := 0) rfl rfl h0
    obtain ⟨a1, u1, c1, rfl⟩ := hval.slice Try.underlying27 (j := 1) rfl rfl
    obtain ⟨l1, g1⟩ := open_Bx.arg hwt (j := 1) rfl rfl h1
    obtain ⟨a2, u2, c2, rfl⟩ := hval.slice Try.underlying28 (j := 2) rfl rfl
    obtain ⟨l2, g2⟩ := open_IntsB.arg hwt (j := 2) rfl rfl h2
    exact TableLeast_walk W g0 g1 g2

theorem tableLeast_holds : Rows.TableLeastSaid :=
  OpenClaim.holds_of_wide 4 Try.f4 rfl rfl rfl rfl rfl rfl rfl ⟨rfl, rfl, rfl, rfl, rfl⟩ rfl rfl rfl rfl rfl (by kernel_rfl) Try.func4 (by kernel_rfl)
    (of_decide_eq_true (by kernel_rfl)) (by unfold Func.isWrapper; rw [if_neg (of_decide_eq_false (by kernel_rfl))]; exact ⟨rfl, rfl⟩)
    (fun os started H enc _ => tableLeast_lifted os started H enc)
#print axioms tableLeast_holds
end Go.Proofs.Ytlopccnehgolnab
