
/- The types of this program, read as data: ranges. -/
import Derived.Test.YtlopccnehgolnabOpen
import Derived.Test.YtlopccnehgolnabSpanA
namespace Go.Proofs.Ytlopccnehgolnab
open Go.RowKit Rb

theorem rg_struct : Try.prog.underlying 39 = some (.struct #[⟨ "Lo", 3, 0, false, "", "", 0⟩, ⟨ "Hi", 3, 1, false, "", "", 8⟩]) := by kernel_rfl
theorem open_Int : Opens Try.prog rInt 3 := Opens.int Try.underlying3
theorem open_Rg : Opens Try.prog rRg 39 := by
  intro H enc w base sp held fuel cs x h hn
  have hl := struct_len rg_struct h
  obtain ⟨a, ha, ia⟩ := Opens.field rg_struct h hn (j := 0) rfl open_Int
  obtain ⟨b, hb, ib⟩ := Opens.field rg_struct h hn (j := 1) rfl open_Int
  rw [show Try.prog.cellsOf 39 = 2 by kernel_rfl] at hl
  have hi : Try.prog.cellsOf 3 = 1 := by kernel_rfl
  have ha' : (cs.drop 0).take (Try.prog.cellsOf 3) = [.int .i64 a] := ha
  have hb' : (cs.drop 1).take (Try.prog.cellsOf 3) = [.int .i64 b] := hb
  rw [hi] at ha' hb'
  clear ha hb
  match cs, hl with
  | [c0, c1], _ =>
    simp at ha' hb'
    subst ha'; subst hb'
    exact ⟨(a, b), rfl, ia, ib⟩
theorem open_Rgs : Opens Try.prog rRgs 72 := Opens.slice Try.underlying72 (by kernel_rfl) (by decide) (by kernel_rfl) open_Rg

end Go.Proofs.Ytlopccnehgolnab
