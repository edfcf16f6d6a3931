
/- What the keeper's laws of text call: Table and Parse at what was printed, and texts. -/
import Derived.Test.YtlopccnehgolnabDoorKeepT
import Derived.Test.YtlopccnehgolnabDoorTxtPa
namespace Go.Proofs.YtlopccnehgolnabDoor
open Go.RowKit Rb

theorem parse_dom_of {s : Txt} {d : Dm} (h : goodD d = true) (hs : splitEnd s [] = some (domW d)) (hl : s.length ≤ 2000) : parseR s = ⟨d, tb0, false, 0⟩ := by
  obtain ⟨hn, h1, h2⟩ := goodD_nums h
  have h0 : rd0 s = ⟨domW d, false⟩ := by unfold rd0; rw [hs]; rfl
  have e : domW d = kwD :: d.name :: Lib.itoa d.lo :: [46, 46] :: Lib.itoa d.hi :: [] := rfl
  have a1 : atR ⟨domW d, false⟩ kwD = (true, ⟨d.name :: Lib.itoa d.lo :: [46, 46] :: Lib.itoa d.hi :: [], false⟩) := by rw [e]; exact at_yes _ _ _
  have hd : domRd ⟨d.name :: Lib.itoa d.lo :: [46, 46] :: Lib.itoa d.hi :: [], false⟩ = (d, ⟨[], false⟩) := by
    unfold domRd
    simp only [name_ok hn, number_ok h1, take_yes, number_ok h2]
  unfold parseR
  rw [if_neg (by omega), h0]
  simp only [a1, hd, h]
  simp
/-- The text that 'texts' reads, and the domain that it says. -/
def exT : Txt := [100, 111, 109, 97, 105, 110, 32, 97, 32, 49, 46, 46, 57]
def exD : Dm := ⟨[97], 1, 9⟩
theorem itoa_1 : Lib.itoa 1 = [49] := (Lib.itoa_nonneg 1).trans (Lib.decDigits_one (by decide))
theorem itoa_9 : Lib.itoa 9 = [57] := (Lib.itoa_nonneg 9).trans (Lib.decDigits_one (by decide))
theorem exD_txt : domTxt exD = exT ++ [10] := by simp [domTxt, exD, exT, itoa_1, itoa_9]
theorem exD_good : goodD exD = true := by decide
theorem exT_parse : parseR exT = ⟨exD, tb0, false, 0⟩ := by
  refine parse_dom_of exD_good ?_ (by decide)
  have e : exT = kwD ++ (32 :: ([97] ++ (32 :: (Lib.itoa 1 ++ (46 :: 46 :: (Lib.itoa 9 ++ [])))))) := by simp [exT, kwD, itoa_1, itoa_9]
  rw [e, split_name [] (by decide) (by decide) (stop_sp _), split_sp, split_name _ (by decide) (by decide) (stop_sp _), split_sp, split_num _ _ (stop_dots _), split_dots, split_num _ _ Stop.nil]
  simp [splitEnd, splitGo, domW, exD]

/-- Parse at a text that says a domain. -/
theorem ParseD {s : Txt} {d : Dm} (h : parseR s = ⟨d, tb0, false, 0⟩) (w : World) (hs : s.length ≤ 140737488355328) (hw : LibW w) (hp : PolW w) :
    Calls Tryd.prog 7 #[.string ⟨s.toArray⟩] w fun e w' => ∃ A c B d', e = .returned (.tuple #[.agg #[.string ⟨d.name.toArray⟩, .int .i64 d.lo, .int .i64 d.hi], .agg #[.string ⟨#[]⟩, .int .i64 0, .bool false, .slice A 0 c, .slice B 0 d'], .bool false, .int .i64 0]) ∧ Below w.heap.size w w' := by
  refine (Parse_any s w hs hw hp).mono ?_
  rintro e w' ⟨v, u, rfl, hr, hb⟩
  rw [h] at hr ⊢
  obtain ⟨_, _, e1, _, _, hi, hrr⟩ := hr
  simp only [List.cons.injEq, and_true, true_and] at e1
  obtain ⟨rfl, rfl⟩ := e1
  obtain ⟨A, c, e2, _⟩ := rSl.elems hi
  obtain ⟨B, d', e3, _⟩ := rSl.elems hrr
  subst e2 e3
  exact ⟨A, c, B, d', rfl, hb⟩
/-- Parse at a good table's text. -/
theorem ParseT {t : Tb} (h : goodT t = true) (w : World) (hw : LibW w) (hp : PolW w) :
    Calls Tryd.prog 7 #[.string ⟨(tableTxt t).toArray⟩] w fun e w' => ∃ A c B d', e = .returned (.tuple #[.agg #[.string ⟨#[]⟩, .int .i64 0, .int .i64 0], .agg #[.string ⟨t.name.toArray⟩, .int .i64 t.pol, .bool t.comp, .slice A t.ins.length c, .slice B t.rules.length d'], .bool true, .int .i64 0]) ∧
      rTb.rel w' (Up (fun _ => False) w.heap.size) [.string ⟨t.name.toArray⟩, .int .i64 t.pol, .bool t.comp, .slice A t.ins.length c, .slice B t.rules.length d'] t ∧ Below w.heap.size w w' := by
  refine (Parse_any (tableTxt t) w (by have := tableTxt_len h; omega) hw hp).mono ?_
  rintro e w' ⟨v, u, rfl, hr, hb⟩
  rw [parse_table h] at hr ⊢
  have hr' := hr
  obtain ⟨_, _, e1, _, _, hi, hrr⟩ := hr'
  simp only [List.cons.injEq, and_true, true_and] at e1
  obtain ⟨rfl, rfl⟩ := e1
  obtain ⟨A, c, e2, _⟩ := rSl.elems hi
  obtain ⟨B, d', e3, _⟩ := rSl.elems hrr
  subst e2 e3
  exact ⟨A, c, B, d', rfl, hr, hb⟩

def tableT (t : Tb) : Txt × Int := if goodT t then (tableTxt t, 0) else ([], 1)
set_option maxRecDepth 100000 in
set_option maxHeartbeats 1600000 in
/-- Table at any table. -/
theorem Table_all {S : Nat → Prop} {cs : List Value} (t : Tb) (w : World) (hl : rTb.rel w S cs t) (hw : LibW w) (hpw : PolW w) :
    Calls Tryd.prog 6 #[.agg cs.toArray] w fun e w' => e = .returned (.tuple #[.string ⟨(tableT t).1.toArray⟩, .int .i64 (tableT t).2]) ∧ Below w.heap.size w w' := by
  unfold tableT
  cases hg : goodT t
  · have HL := Lib.hid hl
    obtain ⟨vi, vr, rfl, hnm, hp, hi, hr⟩ := hl
    obtain ⟨A, c, rfl, _⟩ := rSl.elems hi
    obtain ⟨B, d, rfl, _⟩ := rSl.elems hr
    obtain ⟨W0, e0, HB0, c0, c1, c2, c3, c4, hs0⟩ : ∃ W0, w.alloc (.cells #[.string ⟨t.name.toArray⟩, .int .i64 t.pol, .bool t.comp, .slice A t.ins.length c, .slice B t.rules.length d] 25) = W0 ∧ Hid (Below w.heap.size w W0) ∧
        W0.cell? ⟨w.heap.size, 0, none⟩ = some (.string ⟨t.name.toArray⟩) ∧ W0.cell? ⟨w.heap.size, 1, none⟩ = some (.int .i64 t.pol) ∧ W0.cell? ⟨w.heap.size, 2, none⟩ = some (.bool t.comp) ∧ W0.cell? ⟨w.heap.size, 3, none⟩ = some (.slice A t.ins.length c) ∧ W0.cell? ⟨w.heap.size, 4, none⟩ = some (.slice B t.rules.length d) ∧ w.heap.size < W0.heap.size :=
      ⟨_, rfl, Lib.hid ((Below.refl _ _).alloc (Nat.le_refl _) _), World.cell?_alloc_new _ _ _ _, World.cell?_alloc_new _ _ _ _, World.cell?_alloc_new _ _ _ _, World.cell?_alloc_new _ _ _ _, World.cell?_alloc_new _ _ _ _, by simp⟩
    have HG0 := Lib.hid (TGood_p W0 (Rd.below HL.out HB0.out) hg)
    clear hi hr hw hpw hg hnm hp
    go_enter Tryd.func6, Tryd.ntmps6
    go_wp2_with (first | (go_at_call 17; go_must ((with_reducible refine HG0.out.mono ?_); rintro e w1 ⟨rfl, hb1⟩; have HB1 := Lib.hid (HB0.out.trans (hb1.mono HB0.out.size)); clear hb1)))
    go_ret2
    exact ⟨rfl, HB1.out⟩
  · exact Table_any t w hl hg hw hpw

end Go.Proofs.YtlopccnehgolnabDoor
