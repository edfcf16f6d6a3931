
/- The types of this program, read as data: texts, cells, rules, tables. -/
import Derived.Test.YtlopccnehgolnabGreatDoorOpenRg
import Derived.Test.YtlopccnehgolnabGreatDoorGrC
namespace Go.Proofs.YtlopccnehgolnabGreatDoor
open Go.RowKit Rb

theorem open_Txt : Opens Tryz.prog rStr 9 := Opens.str Tryz.underlying9
theorem open_Bool : Opens Tryz.prog rBool 4 := Opens.bool Tryz.underlying4
theorem open_Rgs' : Opens Tryz.prog (rSl rRg) 95 := open_Rgs
theorem open_Ints : Opens Tryz.prog (rSl rInt) 23 := Opens.slice Tryz.underlying23 (by kernel_rfl) (by decide) (by kernel_rfl) open_Int
theorem open_Txts : Opens Tryz.prog (rSl rStr) 39 := Opens.slice Tryz.underlying39 (by kernel_rfl) (by decide) (by kernel_rfl) open_Txt

theorem cl_struct : Tryz.prog.underlying 97 = some (.struct (Tryz.prog.fieldsOf 97)) := by kernel_rfl
theorem cl_fields : (Tryz.prog.fieldsOf 97).toList = [⟨ "Not", 4, 0, false, "", "", 0⟩, ⟨ "Ranges", 95, 1, false, "", "", 8⟩] := by kernel_rfl
theorem open_Cl : Opens Tryz.prog rCl 97 := by
  intro H enc w base sp held fuel cs x h hn
  have hl := struct_len cl_struct h
  obtain ⟨a, ha⟩ := Opens.field cl_struct h hn (j := 0) (f := ⟨ "Not", 4, 0, false, "", "", 0⟩) (by rw [← Array.getElem?_toList, cl_fields]; rfl) open_Bool
  obtain ⟨b, hb⟩ := Opens.field cl_struct h hn (j := 1) (f := ⟨ "Ranges", 95, 1, false, "", "", 8⟩) (by rw [← Array.getElem?_toList, cl_fields]; rfl) open_Rgs'
  rw [show Tryz.prog.cellsOf 97 = 2 by kernel_rfl] at hl
  rw [show Tryz.prog.cellsOf 4 = 1 by kernel_rfl] at ha
  rw [show Tryz.prog.cellsOf 95 = 1 by kernel_rfl] at hb
  match cs, hl with
  | [c0, c1], _ =>
    have ha' : [c0] = [.bool a] := ha
    simp at ha'
    subst ha'
    exact ⟨⟨a, b⟩, c1, rfl, hb⟩
theorem open_Cls : Opens Tryz.prog (rSl rCl) 91 := Opens.slice Tryz.underlying91 (by kernel_rfl) (by decide) (by kernel_rfl) open_Cl

theorem rl_struct : Tryz.prog.underlying 93 = some (.struct (Tryz.prog.fieldsOf 93)) := by kernel_rfl
theorem rl_fields : (Tryz.prog.fieldsOf 93).toList = [⟨ "Cells", 91, 0, false, "", "", 0⟩, ⟨ "Out", 3, 1, false, "", "", 24⟩] := by kernel_rfl
theorem open_Rl : Opens Tryz.prog rRl 93 := by
  intro H enc w base sp held fuel cs x h hn
  have hl := struct_len rl_struct h
  obtain ⟨a, ha⟩ := Opens.field rl_struct h hn (j := 0) (f := ⟨ "Cells", 91, 0, false, "", "", 0⟩) (by rw [← Array.getElem?_toList, rl_fields]; rfl) open_Cls
  obtain ⟨b, hb, ib⟩ := Opens.field rl_struct h hn (j := 1) (f := ⟨ "Out", 3, 1, false, "", "", 24⟩) (by rw [← Array.getElem?_toList, rl_fields]; rfl) open_Int
  rw [show Tryz.prog.cellsOf 93 = 2 by kernel_rfl] at hl
  rw [show Tryz.prog.cellsOf 91 = 1 by kernel_rfl] at ha
  rw [show Tryz.prog.cellsOf 3 = 1 by kernel_rfl] at hb
  match cs, hl with
  | [c0, c1], _ =>
    have hb' : [c1] = [.int .i64 b] := hb
    simp at hb'
    subst hb'
    exact ⟨⟨a, b⟩, c0, rfl, ib, ha⟩
theorem open_Rls : Opens Tryz.prog (rSl rRl) 40 := Opens.slice Tryz.underlying40 (by kernel_rfl) (by decide) (by kernel_rfl) open_Rl

theorem tb_struct : Tryz.prog.underlying 42 = some (.struct (Tryz.prog.fieldsOf 42)) := by kernel_rfl
theorem tb_fields : (Tryz.prog.fieldsOf 42).toList = [⟨ "Name", 9, 0, false, "", "", 0⟩, ⟨ "Policy", 3, 1, false, "", "", 16⟩, ⟨ "Complete", 4, 2, false, "", "", 24⟩, ⟨ "Inputs", 39, 3, false, "", "", 32⟩, ⟨ "Rules", 40, 4, false, "", "", 56⟩] := by kernel_rfl
theorem open_Tb : Opens Tryz.prog rTb 42 := by
  intro H enc w base sp held fuel cs x h hn
  have hl := struct_len tb_struct h
  obtain ⟨a, ha, la⟩ := Opens.field tb_struct h hn (j := 0) (f := ⟨ "Name", 9, 0, false, "", "", 0⟩) (by rw [← Array.getElem?_toList, tb_fields]; rfl) open_Txt
  obtain ⟨b, hb, ib⟩ := Opens.field tb_struct h hn (j := 1) (f := ⟨ "Policy", 3, 1, false, "", "", 16⟩) (by rw [← Array.getElem?_toList, tb_fields]; rfl) open_Int
  obtain ⟨c, hc⟩ := Opens.field tb_struct h hn (j := 2) (f := ⟨ "Complete", 4, 2, false, "", "", 24⟩) (by rw [← Array.getElem?_toList, tb_fields]; rfl) open_Bool
  obtain ⟨d, hd⟩ := Opens.field tb_struct h hn (j := 3) (f := ⟨ "Inputs", 39, 3, false, "", "", 32⟩) (by rw [← Array.getElem?_toList, tb_fields]; rfl) open_Txts
  obtain ⟨e, he⟩ := Opens.field tb_struct h hn (j := 4) (f := ⟨ "Rules", 40, 4, false, "", "", 56⟩) (by rw [← Array.getElem?_toList, tb_fields]; rfl) open_Rls
  rw [show Tryz.prog.cellsOf 42 = 5 by kernel_rfl] at hl
  rw [show Tryz.prog.cellsOf 9 = 1 by kernel_rfl] at ha
  rw [show Tryz.prog.cellsOf 3 = 1 by kernel_rfl] at hb
  rw [show Tryz.prog.cellsOf 4 = 1 by kernel_rfl] at hc
  rw [show Tryz.prog.cellsOf 39 = 1 by kernel_rfl] at hd
  rw [show Tryz.prog.cellsOf 40 = 1 by kernel_rfl] at he
  match cs, hl with
  | [c0, c1, c2, c3, c4], _ =>
    have ha' : [c0] = [.string ⟨a.toArray⟩] := ha
    have hb' : [c1] = [.int .i64 b] := hb
    have hc' : [c2] = [.bool c] := hc
    simp at ha' hb' hc'
    subst ha' hb' hc'
    exact ⟨⟨a, b, c, d, e⟩, c3, c4, rfl, la, ib, hd, he⟩

end Go.Proofs.YtlopccnehgolnabGreatDoor
