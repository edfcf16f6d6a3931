
/- The keeper's texts: true. -/
import Derived.Test.YtlopccnehgolnabDoorTxtBk
namespace Go.Proofs.YtlopccnehgolnabDoor
open Go.RowKit Rb

set_option maxRecDepth 100000 in
set_option maxHeartbeats 1600000 in
theorem texts_any (w : World) (hw : LibW w) (hp : PolW w) : Calls Tryd.prog 10 #[] w fun e w' => e = .returned (.bool true) ∧ Below w.heap.size w w' := by
  have HP1 : Hid (Calls Tryd.prog 7 #[.string ⟨#[100, 111, 109, 97, 105, 110, 32, 97, 32, 49, 46, 46, 57]⟩] w fun e w' => ∃ A c B d', e = .returned (.tuple #[.agg #[.string ⟨#[97]⟩, .int .i64 1, .int .i64 9], .agg #[.string ⟨#[]⟩, .int .i64 0, .bool false, .slice A 0 c, .slice B 0 d'], .bool false, .int .i64 0]) ∧ Below w.heap.size w w') := Lib.hid (ParseD exT_parse w (by decide) hw hp)
  have HD : Hid (∀ w', Below w.heap.size w w' → Calls Tryd.prog 9 #[.agg #[.string ⟨#[97]⟩, .int .i64 1, .int .i64 9]] w' fun e w'' => e = .returned (.tuple #[.string ⟨#[100, 111, 109, 97, 105, 110, 32, 97, 32, 49, 46, 46, 57, 10]⟩, .int .i64 0]) ∧ Below w'.heap.size w' w'') := Lib.hid fun w' hb => by
    have h := Domain_any exD w' (by decide) ⟨by decide, by decide⟩ ⟨by decide, by decide⟩ (hw.below hb)
    have e : domainT exD = (exT ++ [10], 0) := by unfold domainT; rw [if_pos exD_good, exD_txt]
    rw [e] at h
    exact h
  clear hw hp
  go_enter Tryd.func10, Tryd.ntmps10
  go_wp2_with (first
    | (go_at_call 7; go_must ((with_reducible refine HP1.out.mono ?_); rintro e w1 ⟨A, c, B, d', rfl, hb1⟩; have HB1 := Lib.hid hb1; clear hb1; obtain ⟨W2, e2, HPB, HB2, HS2⟩ := PrB.start w1 27 25; obtain ⟨W3, e3, n0, n1, n2, m0, m1, m2, m3, m4, HB3, _⟩ := HPB.out.store ⟨[97], 1, 9⟩ [] 0 false (.slice A 0 c) (.slice B 0 d'); have a0 := HPB.out.a0; have a1 := HPB.out.a1; have a2 := HPB.out.a2; have b0 := HPB.out.b0; have b1 := HPB.out.b1; have b2 := HPB.out.b2; have b3 := HPB.out.b3; have b4 := HPB.out.b4; have x0 := HPB.out.x 0; have x1 := HPB.out.x 1; have x2 := HPB.out.x 2; have y0 := HPB.out.y 0; have y1 := HPB.out.y 1; have y2 := HPB.out.y 2; have y3 := HPB.out.y 3; have y4 := HPB.out.y 4; have HBW := Lib.hid (HB3.out _ HB1.out.size _ (HB1.out.trans (HB2.out.mono HB1.out.size))); dsimp only at e3 n0 n1 n2))
    | (go_at_call 9; go_must ((with_reducible refine (HD.out W3 HBW.out).mono ?_); rintro e w4 ⟨rfl, hb4⟩; have HB4 := Lib.hid (HBW.out.trans (hb4.mono HBW.out.size)); clear hb4)))
  go_ret
  exact ⟨rfl, HB4.out⟩

end Go.Proofs.YtlopccnehgolnabDoor
