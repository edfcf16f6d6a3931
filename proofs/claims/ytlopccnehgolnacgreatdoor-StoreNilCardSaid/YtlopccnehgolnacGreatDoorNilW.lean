
/- StoreNil: the walk. -/
import Derived.Test.YtlopccnehgolnacGreatDoorNilDo
import Derived.Test.YtlopccnehgolnacGreatDoorNilS
namespace Go.Proofs.YtlopccnehgolnacGreatDoor
open Go.RowKit

set_option maxRecDepth 100000 in
set_option maxHeartbeats 1600000 in
theorem StoreNil_walk (c0 c1 c2 c3 c4 : Value) (n : Int) (w : World) : Calls Tryz.prog 3 #[.agg #[c0, c1, c2, c3, c4], .int .i64 n] w fun e w' => e = .returned (.bool true) ∧ Below w.heap.size w w' := by
  obtain ⟨W0, e0, HB0, a0, a1, a2, a3, a4⟩ : ∃ W0, w.alloc (.cells #[c0, c1, c2, c3, c4] 24) = W0 ∧ Hid (Below w.heap.size w W0) ∧ W0.cell? ⟨w.heap.size, 0, none⟩ = some c0 ∧ W0.cell? ⟨w.heap.size, 1, none⟩ = some c1 ∧ W0.cell? ⟨w.heap.size, 2, none⟩ = some c2 ∧ W0.cell? ⟨w.heap.size, 3, none⟩ = some c3 ∧ W0.cell? ⟨w.heap.size, 4, none⟩ = some c4 :=
    ⟨_, rfl, Lib.hid ((Below.refl _ _).alloc (Nat.le_refl _) _), World.cell?_alloc_new _ _ _ _, World.cell?_alloc_new _ _ _ _, World.cell?_alloc_new _ _ _ _, World.cell?_alloc_new _ _ _ _, World.cell?_alloc_new _ _ _ _⟩
  go_enter Tryz.func3, Tryz.ntmps3
  go_wp2_with (first | (go_at_call 11; go_must ((with_reducible refine (Do_nil c0 c1 c2 c3 c4 W0).mono ?_); rintro e w1 ⟨rfl, hb1⟩; have HB1 := Lib.hid (HB0.out.trans (hb1.mono HB0.out.size)))) | (go_at_call 10; go_must ((with_reducible refine (SameReply_nil w1).mono ?_); rintro e w2 ⟨rfl, hb2⟩; have HB2 := Lib.hid (HB1.out.trans (hb2.mono HB1.out.size)))) | (go_at_call 12; go_must ((with_reducible refine (States_nil w2).mono ?_); rintro e w3 ⟨rfl, hb3⟩; have HB3 := Lib.hid (HB2.out.trans (hb3.mono HB2.out.size)))) | (go_at_call 14; go_must ((with_reducible refine (Session_nil n w3).mono ?_); rintro e w4 ⟨rfl, hb4⟩; have HB4 := Lib.hid (HB3.out.trans (hb4.mono HB3.out.size)))) | (go_at_call 13; go_must ((with_reducible refine (SameSession_nil w4).mono ?_); rintro e w5 ⟨rfl, hb5⟩; have HB5 := Lib.hid (HB4.out.trans (hb5.mono HB4.out.size)))))
  go_ret
  first | exact HB5.out | exact ⟨rfl, HB5.out⟩

end Go.Proofs.YtlopccnehgolnacGreatDoor
