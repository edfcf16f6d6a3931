
/- The types of this program, read as data: ranges. -/
import Derived.Test.YtlopccnehgolnabDoorOpen
import Derived.Test.YtlopccnehgolnabDoorSpanA
namespace Go.Proofs.YtlopccnehgolnabDoor
open Go.RowKit Rb

theorem rg_struct : Tryd.prog.underlying 72 = some (.struct #[⟨ "Lo", 3, 0, false, "", "", 0⟩, ⟨ "Hi", 3, 1, false, "", "", 8⟩]) := by kernel_rfl
theorem open_Int : Opens Tryd.prog rInt 3 := Opens.int Tryd.underlying3
theorem open_Rg : Opens Tryd.prog rRg 72 := by
  intro H enc w base sp held fuel cs x h hn
  have hl := struct_len rg_struct h
  obtain ⟨a, ha, ia⟩ := Opens.field rg_struct h hn (j := 0) rfl open_Int
  obtain ⟨b, hb, ib⟩ := Opens.field rg_struct h hn (j := 1) rfl open_Int
  rw [show Tryd.prog.cellsOf 72 = 2 by kernel_rfl] at hl
  have hi : Tryd.prog.cellsOf 3 = 1 := by kernel_rfl
  have ha' : (cs.drop 0).take (Tryd.prog.cellsOf 3) = [.int .i64 a] := ha
  have hb' : (cs.drop 1).take (Tryd.prog.cellsOf 3) = [.int .i64 b] := hb
  rw [hi] at ha' hb'
  clear ha hb
  match cs, hl with
  | [c0, c1], _ =>
    simp at ha' hb'
    subst ha'; subst hb'
    exact ⟨(a, b), rfl, ia, ib⟩
theorem open_Rgs : Opens Tryd.prog rRgs 51 := Opens.slice Tryd.underlying51 (by kernel_rfl) (by decide) (by kernel_rfl) open_Rg

end Go.Proofs.YtlopccnehgolnabDoor
