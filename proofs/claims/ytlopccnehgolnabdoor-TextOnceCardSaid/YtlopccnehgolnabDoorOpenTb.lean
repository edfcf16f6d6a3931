
/- The types of this program, read as data: texts, cells, rules, tables. -/
import Derived.Test.YtlopccnehgolnabDoorOpenRg
import Derived.Test.YtlopccnehgolnabDoorTab
namespace Go.Proofs.YtlopccnehgolnabDoor
open Go.RowKit Rb

theorem open_Txt : Opens Tryd.prog rStr 9 := Opens.str Tryd.underlying9
theorem open_Bool : Opens Tryd.prog rBool 4 := Opens.bool Tryd.underlying4
theorem open_Rgs' : Opens Tryd.prog (rSl rRg) 51 := open_Rgs
theorem open_Ints : Opens Tryd.prog (rSl rInt) 75 := Opens.slice Tryd.underlying75 (by kernel_rfl) (by decide) (by kernel_rfl) open_Int
theorem open_Txts : Opens Tryd.prog (rSl rStr) 22 := Opens.slice Tryd.underlying22 (by kernel_rfl) (by decide) (by kernel_rfl) open_Txt

theorem cl_struct : Tryd.prog.underlying 53 = some (.struct (Tryd.prog.fieldsOf 53)) := by kernel_rfl
theorem cl_fields : (Tryd.prog.fieldsOf 53).toList = [⟨ "Not", 4, 0, false, "", "", 0⟩, ⟨ "Ranges", 51, 1, false, "", "", 8⟩] := by kernel_rfl
theorem open_Cl : Opens Tryd.prog rCl 53 := by
  intro H enc w base sp held fuel cs x h hn
  have hl := struct_len cl_struct h
  obtain ⟨a, ha⟩ := Opens.field cl_struct h hn (j := 0) (f := ⟨ "Not", 4, 0, false, "", "", 0⟩) (by rw [← Array.getElem?_toList, cl_fields]; rfl) open_Bool
  obtain ⟨b, hb⟩ := Opens.field cl_struct h hn (j := 1) (f := ⟨ "Ranges", 51, 1, false, "", "", 8⟩) (by rw [← Array.getElem?_toList, cl_fields]; rfl) open_Rgs'
  rw [show Tryd.prog.cellsOf 53 = 2 by kernel_rfl] at hl
  rw [show Tryd.prog.cellsOf 4 = 1 by kernel_rfl] at ha
  rw [show Tryd.prog.cellsOf 51 = 1 by kernel_rfl] at hb
  match cs, hl with
  | [c0, c1], _ =>
    have ha' : [c0] = [.bool a] := ha
    simp at ha'
    subst ha'
    exact ⟨⟨a, b⟩, c1, rfl, hb⟩
theorem open_Cls : Opens Tryd.prog (rSl rCl) 41 := Opens.slice Tryd.underlying41 (by kernel_rfl) (by decide) (by kernel_rfl) open_Cl

theorem rl_struct : Tryd.prog.underlying 43 = some (.struct (Tryd.prog.fieldsOf 43)) := by kernel_rfl
theorem rl_fields : (Tryd.prog.fieldsOf 43).toList = [⟨ "Cells", 41, 0, false, "", "", 0⟩, ⟨ "Out", 3, 1, false, "", "", 24⟩] := by kernel_rfl
theorem open_Rl : Opens Tryd.prog rRl 43 := by
  intro H enc w base sp held fuel cs x h hn
  have hl := struct_len rl_struct h
  obtain ⟨a, ha⟩ := Opens.field rl_struct h hn (j := 0) (f := ⟨ "Cells", 41, 0, false, "", "", 0⟩) (by rw [← Array.getElem?_toList, rl_fields]; rfl) open_Cls
  obtain ⟨b, hb, ib⟩ := Opens.field rl_struct h hn (j := 1) (f := ⟨ "Out", 3, 1, false, "", "", 24⟩) (by rw [← Array.getElem?_toList, rl_fields]; rfl) open_Int
  rw [show Tryd.prog.cellsOf 43 = 2 by kernel_rfl] at hl
  rw [show Tryd.prog.cellsOf 41 = 1 by kernel_rfl] at ha
  rw [show Tryd.prog.cellsOf 3 = 1 by kernel_rfl] at hb
  match cs, hl with
  | [c0, c1], _ =>
    have hb' : [c1] = [.int .i64 b] := hb
    simp at hb'
    subst hb'
    exact ⟨⟨a, b⟩, c0, rfl, ib, ha⟩
theorem open_Rls : Opens Tryd.prog (rSl rRl) 23 := Opens.slice Tryd.underlying23 (by kernel_rfl) (by decide) (by kernel_rfl) open_Rl

theorem tb_struct : Tryd.prog.underlying 25 = some (.struct (Tryd.prog.fieldsOf 25)) := by kernel_rfl
theorem tb_fields : (Tryd.prog.fieldsOf 25).toList = [⟨ "Name", 9, 0, false, "", "", 0⟩, ⟨ "Policy", 3, 1, false, "", "", 16⟩, ⟨ "Complete", 4, 2, false, "", "", 24⟩, ⟨ "Inputs", 22, 3, false, "", "", 32⟩, ⟨ "Rules", 23, 4, false, "", "", 56⟩] := by kernel_rfl
theorem open_Tb : Opens Tryd.prog rTb 25 := by
  intro H enc w base sp held fuel cs x h hn
  have hl := struct_len tb_struct h
  obtain ⟨a, ha, la⟩ := Opens.field tb_struct h hn (j := 0) (f := ⟨ "Name", 9, 0, false, "", "", 0⟩) (by rw [← Array.getElem?_toList, tb_fields]; rfl) open_Txt
  obtain ⟨b, hb, ib⟩ := Opens.field tb_struct h hn (j := 1) (f := ⟨ "Policy", 3, 1, false, "", "", 16⟩) (by rw [← Array.getElem?_toList, tb_fields]; rfl) open_Int
  obtain ⟨c, hc⟩ := Opens.field tb_struct h hn (j := 2) (f := ⟨ "Complete", 4, 2, false, "", "", 24⟩) (by rw [← Array.getElem?_toList, tb_fields]; rfl) open_Bool
  obtain ⟨d, hd⟩ := Opens.field tb_struct h hn (j := 3) (f := ⟨ "Inputs", 22, 3, false, "", "", 32⟩) (by rw [← Array.getElem?_toList, tb_fields]; rfl) open_Txts
  obtain ⟨e, he⟩ := Opens.field tb_struct h hn (j := 4) (f := ⟨ "Rules", 23, 4, false, "", "", 56⟩) (by rw [← Array.getElem?_toList, tb_fields]; rfl) open_Rls
  rw [show Tryd.prog.cellsOf 25 = 5 by kernel_rfl] at hl
  rw [show Tryd.prog.cellsOf 9 = 1 by kernel_rfl] at ha
  rw [show Tryd.prog.cellsOf 3 = 1 by kernel_rfl] at hb
  rw [show Tryd.prog.cellsOf 4 = 1 by kernel_rfl] at hc
  rw [show Tryd.prog.cellsOf 22 = 1 by kernel_rfl] at hd
  rw [show Tryd.prog.cellsOf 23 = 1 by kernel_rfl] at he
  match cs, hl with
  | [c0, c1, c2, c3, c4], _ =>
    have ha' : [c0] = [.string ⟨a.toArray⟩] := ha
    have hb' : [c1] = [.int .i64 b] := hb
    have hc' : [c2] = [.bool c] := hc
    simp at ha' hb' hc'
    subst ha' hb' hc'
    exact ⟨⟨a, b, c, d, e⟩, c3, c4, rfl, la, ib, hd, he⟩

end Go.Proofs.YtlopccnehgolnabDoor
