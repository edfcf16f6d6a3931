
/- The types of this program, read as data: domains, books. -/
import Derived.Test.YtlopccnehgolnabGreatDoorOpenTb
import Derived.Test.YtlopccnehgolnabGreatDoorGrG
namespace Go.Proofs.YtlopccnehgolnabGreatDoor
open Go.RowKit Rb

theorem dm_struct : Tryz.prog.underlying 44 = some (.struct (Tryz.prog.fieldsOf 44)) := by kernel_rfl
theorem dm_fields : (Tryz.prog.fieldsOf 44).toList = [⟨ "Name", 9, 0, false, "", "", 0⟩, ⟨ "Lo", 3, 1, false, "", "", 16⟩, ⟨ "Hi", 3, 2, false, "", "", 24⟩] := by kernel_rfl
theorem open_Dm : Opens Tryz.prog rDm 44 := by
  intro H enc w base sp held fuel cs x h hn
  have hl := struct_len dm_struct h
  obtain ⟨a, ha, la⟩ := Opens.field dm_struct h hn (j := 0) (f := ⟨ "Name", 9, 0, false, "", "", 0⟩) (by rw [← Array.getElem?_toList, dm_fields]; rfl) open_Txt
  obtain ⟨b, hb, ib⟩ := Opens.field dm_struct h hn (j := 1) (f := ⟨ "Lo", 3, 1, false, "", "", 16⟩) (by rw [← Array.getElem?_toList, dm_fields]; rfl) open_Int
  obtain ⟨c, hc, ic⟩ := Opens.field dm_struct h hn (j := 2) (f := ⟨ "Hi", 3, 2, false, "", "", 24⟩) (by rw [← Array.getElem?_toList, dm_fields]; rfl) open_Int
  rw [show Tryz.prog.cellsOf 44 = 3 by kernel_rfl] at hl
  rw [show Tryz.prog.cellsOf 9 = 1 by kernel_rfl] at ha
  rw [show Tryz.prog.cellsOf 3 = 1 by kernel_rfl] at hb hc
  match cs, hl with
  | [c0, c1, c2], _ =>
    have ha' : [c0] = [.string ⟨a.toArray⟩] := ha
    have hb' : [c1] = [.int .i64 b] := hb
    have hc' : [c2] = [.int .i64 c] := hc
    simp at ha' hb' hc'
    subst ha' hb' hc'
    exact ⟨⟨a, b, c⟩, rfl, la, ib, ic⟩
theorem open_Dms : Opens Tryz.prog (rSl rDm) 30 := Opens.slice Tryz.underlying30 (by kernel_rfl) (by decide) (by kernel_rfl) open_Dm
theorem open_Tbs : Opens Tryz.prog (rSl rTb) 31 := Opens.slice Tryz.underlying31 (by kernel_rfl) (by decide) (by kernel_rfl) open_Tb

theorem bk_struct : Tryz.prog.underlying 33 = some (.struct (Tryz.prog.fieldsOf 33)) := by kernel_rfl
theorem bk_fields : (Tryz.prog.fieldsOf 33).toList = [⟨ "Domains", 30, 0, false, "", "", 0⟩, ⟨ "Tables", 31, 1, false, "", "", 24⟩] := by kernel_rfl
theorem open_Bk : Opens Tryz.prog rBk 33 := by
  intro H enc w base sp held fuel cs x h hn
  have hl := struct_len bk_struct h
  obtain ⟨a, ha⟩ := Opens.field bk_struct h hn (j := 0) (f := ⟨ "Domains", 30, 0, false, "", "", 0⟩) (by rw [← Array.getElem?_toList, bk_fields]; rfl) open_Dms
  obtain ⟨b, hb⟩ := Opens.field bk_struct h hn (j := 1) (f := ⟨ "Tables", 31, 1, false, "", "", 24⟩) (by rw [← Array.getElem?_toList, bk_fields]; rfl) open_Tbs
  rw [show Tryz.prog.cellsOf 33 = 2 by kernel_rfl] at hl
  rw [show Tryz.prog.cellsOf 30 = 1 by kernel_rfl] at ha
  rw [show Tryz.prog.cellsOf 31 = 1 by kernel_rfl] at hb
  match cs, hl with
  | [c0, c1], _ => exact ⟨⟨a, b⟩, c0, c1, rfl, ha, hb⟩

end Go.Proofs.YtlopccnehgolnabGreatDoor
