
/- The types of this program, read as data: texts, cells, rules, tables. -/
import Derived.Test.YtlopccnehgolnabOpenRg
import Derived.Test.YtlopccnehgolnabTab
namespace Go.Proofs.Ytlopccnehgolnab
open Go.RowKit Rb

theorem open_Txt : Opens Try.prog rStr 9 := Opens.str Try.underlying9
theorem open_Bool : Opens Try.prog rBool 4 := Opens.bool Try.underlying4
theorem open_Rgs' : Opens Try.prog (rSl rRg) 72 := open_Rgs
theorem open_Ints : Opens Try.prog (rSl rInt) 28 := Opens.slice Try.underlying28 (by kernel_rfl) (by decide) (by kernel_rfl) open_Int
theorem open_Txts : Opens Try.prog (rSl rStr) 22 := Opens.slice Try.underlying22 (by kernel_rfl) (by decide) (by kernel_rfl) open_Txt

theorem cl_struct : Try.prog.underlying 74 = some (.struct (Try.prog.fieldsOf 74)) := by kernel_rfl
theorem cl_fields : (Try.prog.fieldsOf 74).toList = [⟨ "Not", 4, 0, false, "", "", 0⟩, ⟨ "Ranges", 72, 1, false, "", "", 8⟩] := by kernel_rfl
theorem open_Cl : Opens Try.prog rCl 74 := by
  intro H enc w base sp held fuel cs x h hn
  have hl := struct_len cl_struct h
  obtain ⟨a, ha⟩ := Opens.field cl_struct h hn (j := 0) (f := ⟨ "Not", 4, 0, false, "", "", 0⟩) (by rw [← Array.getElem?_toList, cl_fields]; rfl) open_Bool
  obtain ⟨b, hb⟩ := Opens.field cl_struct h hn (j := 1) (f := ⟨ "Ranges", 72, 1, false, "", "", 8⟩) (by rw [← Array.getElem?_toList, cl_fields]; rfl) open_Rgs'
  rw [show Try.prog.cellsOf 74 = 2 by kernel_rfl] at hl
  rw [show Try.prog.cellsOf 4 = 1 by kernel_rfl] at ha
  rw [show Try.prog.cellsOf 72 = 1 by kernel_rfl] at hb
  match cs, hl with
  | [c0, c1], _ =>
    have ha' : [c0] = [.bool a] := ha
    simp at ha'
    subst ha'
    exact ⟨⟨a, b⟩, c1, rfl, hb⟩
theorem open_Cls : Opens Try.prog (rSl rCl) 68 := Opens.slice Try.underlying68 (by kernel_rfl) (by decide) (by kernel_rfl) open_Cl

theorem rl_struct : Try.prog.underlying 70 = some (.struct (Try.prog.fieldsOf 70)) := by kernel_rfl
theorem rl_fields : (Try.prog.fieldsOf 70).toList = [⟨ "Cells", 68, 0, false, "", "", 0⟩, ⟨ "Out", 3, 1, false, "", "", 24⟩] := by kernel_rfl
theorem open_Rl : Opens Try.prog rRl 70 := by
  intro H enc w base sp held fuel cs x h hn
  have hl := struct_len rl_struct h
  obtain ⟨a, ha⟩ := Opens.field rl_struct h hn (j := 0) (f := ⟨ "Cells", 68, 0, false, "", "", 0⟩) (by rw [← Array.getElem?_toList, rl_fields]; rfl) open_Cls
  obtain ⟨b, hb, ib⟩ := Opens.field rl_struct h hn (j := 1) (f := ⟨ "Out", 3, 1, false, "", "", 24⟩) (by rw [← Array.getElem?_toList, rl_fields]; rfl) open_Int
  rw [show Try.prog.cellsOf 70 = 2 by kernel_rfl] at hl
  rw [show Try.prog.cellsOf 68 = 1 by kernel_rfl] at ha
  rw [show Try.prog.cellsOf 3 = 1 by kernel_rfl] at hb
  match cs, hl with
  | [c0, c1], _ =>
    have hb' : [c1] = [.int .i64 b] := hb
    simp at hb'
    subst hb'
    exact ⟨⟨a, b⟩, c0, rfl, ib, ha⟩
theorem open_Rls : Opens Try.prog (rSl rRl) 23 := Opens.slice Try.underlying23 (by kernel_rfl) (by decide) (by kernel_rfl) open_Rl

theorem tb_struct : Try.prog.underlying 25 = some (.struct (Try.prog.fieldsOf 25)) := by kernel_rfl
theorem tb_fields : (Try.prog.fieldsOf 25).toList = [⟨ "Name", 9, 0, false, "", "", 0⟩, ⟨ "Policy", 3, 1, false, "", "", 16⟩, ⟨ "Complete", 4, 2, false, "", "", 24⟩, ⟨ "Inputs", 22, 3, false, "", "", 32⟩, ⟨ "Rules", 23, 4, false, "", "", 56⟩] := by kernel_rfl
theorem open_Tb : Opens Try.prog rTb 25 := by
  intro H enc w base sp held fuel cs x h hn
  have hl := struct_len tb_struct h
  obtain ⟨a, ha, la⟩ := Opens.field tb_struct h hn (j := 0) (f := ⟨ "Name", 9, 0, false, "", "", 0⟩) (by rw [← Array.getElem?_toList, tb_fields]; rfl) open_Txt
  obtain ⟨b, hb, ib⟩ := Opens.field tb_struct h hn (j := 1) (f := ⟨ "Policy", 3, 1, false, "", "", 16⟩) (by rw [← Array.getElem?_toList, tb_fields]; rfl) open_Int
  obtain ⟨c, hc⟩ := Opens.field tb_struct h hn (j := 2) (f := ⟨ "Complete", 4, 2, false, "", "", 24⟩) (by rw [← Array.getElem?_toList, tb_fields]; rfl) open_Bool
  obtain ⟨d, hd⟩ := Opens.field tb_struct h hn (j := 3) (f := ⟨ "Inputs", 22, 3, false, "", "", 32⟩) (by rw [← Array.getElem?_toList, tb_fields]; rfl) open_Txts
  obtain ⟨e, he⟩ := Opens.field tb_struct h hn (j := 4) (f := ⟨ "Rules", 23, 4, false, "", "", 56⟩) (by rw [← Array.getElem?_toList, tb_fields]; rfl) open_Rls
  rw [show Try.prog.cellsOf 25 = 5 by kernel_rfl] at hl
  rw [show Try.prog.cellsOf 9 = 1 by kernel_rfl] at ha
  rw [show Try.prog.cellsOf 3 = 1 by kernel_rfl] at hb
  rw [show Try.prog.cellsOf 4 = 1 by kernel_rfl] at hc
  rw [show Try.prog.cellsOf 22 = 1 by kernel_rfl] at hd
  rw [show Try.prog.cellsOf 23 = 1 by kernel_rfl] at he
  match cs, hl with
  | [c0, c1, c2, c3, c4], _ =>
    have ha' : [c0] = [.string ⟨a.toArray⟩] := ha
    have hb' : [c1] = [.int .i64 b] := hb
    have hc' : [c2] = [.bool c] := hc
    simp at ha' hb' hc'
    subst ha' hb' hc'
    exact ⟨⟨a, b, c, d, e⟩, c3, c4, rfl, la, ib, hd, he⟩

end Go.Proofs.Ytlopccnehgolnab
