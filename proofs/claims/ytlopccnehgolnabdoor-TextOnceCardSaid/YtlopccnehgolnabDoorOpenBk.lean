
/- The types of this program, read as data: domains, books. -/
import Derived.Test.YtlopccnehgolnabDoorOpenTb
import Derived.Test.YtlopccnehgolnabDoorBook
namespace Go.Proofs.YtlopccnehgolnabDoor
open Go.RowKit Rb

theorem dm_struct : Tryd.prog.underlying 27 = some (.struct (Tryd.prog.fieldsOf 27)) := by kernel_rfl
theorem dm_fields : (Tryd.prog.fieldsOf 27).toList = [⟨ "Name", 9, 0, false, "", "", 0⟩, ⟨ "Lo", 3, 1, false, "", "", 16⟩, ⟨ "Hi", 3, 2, false, "", "", 24⟩] := by kernel_rfl
theorem open_Dm : Opens Tryd.prog rDm 27 := by
  intro H enc w base sp held fuel cs x h hn
  have hl := struct_len dm_struct h
  obtain ⟨a, ha, la⟩ := Opens.field dm_struct h hn (j := 0) (f := ⟨ "Name", 9, 0, false, "", "", 0⟩) (by rw [← Array.getElem?_toList, dm_fields]; rfl) open_Txt
  obtain ⟨b, hb, ib⟩ := Opens.field dm_struct h hn (j := 1) (f := ⟨ "Lo", 3, 1, false, "", "", 16⟩) (by rw [← Array.getElem?_toList, dm_fields]; rfl) open_Int
  obtain ⟨c, hc, ic⟩ := Opens.field dm_struct h hn (j := 2) (f := ⟨ "Hi", 3, 2, false, "", "", 24⟩) (by rw [← Array.getElem?_toList, dm_fields]; rfl) open_Int
  rw [show Tryd.prog.cellsOf 27 = 3 by kernel_rfl] at hl
  rw [show Tryd.prog.cellsOf 9 = 1 by kernel_rfl] at ha
  rw [show Tryd.prog.cellsOf 3 = 1 by kernel_rfl] at hb hc
  match cs, hl with
  | [c0, c1, c2], _ =>
    have ha' : [c0] = [.string ⟨a.toArray⟩] := ha
    have hb' : [c1] = [.int .i64 b] := hb
    have hc' : [c2] = [.int .i64 c] := hc
    simp at ha' hb' hc'
    subst ha' hb' hc'
    exact ⟨⟨a, b, c⟩, rfl, la, ib, ic⟩
end Go.Proofs.YtlopccnehgolnabDoor
