
/- Sessions that are nothing are alike. -/
import Derived.Test.YtlopccnehgolnacGreatDoorNil
namespace Go.Proofs.YtlopccnehgolnacGreatDoor
open Go.RowKit

set_option maxRecDepth 100000 in
set_option maxHeartbeats 1600000 in
theorem SameSession_nil (w : World) : Calls Tryz.prog 13 #[.agg #[.bool false, .bool false, .int .i64 0, .slice none 0 0, .slice none 0 0, .slice none 0 0, .slice none 0 0], .agg #[.bool false, .bool false, .int .i64 0, .slice none 0 0, .slice none 0 0, .slice none 0 0, .slice none 0 0]] w fun e w' => e = .returned (.bool true) ∧ Below w.heap.size w w' := by
  obtain ⟨W0, e0, hb0, a0, a1, a2, a3, a4, a5, a6, hs0⟩ : ∃ W0, w.alloc (.cells #[.bool false, .bool false, .int .i64 0, .slice none 0 0, .slice none 0 0, .slice none 0 0, .slice none 0 0] 41) = W0 ∧ Below w.heap.size w W0 ∧ W0.cell? ⟨w.heap.size, 0, none⟩ = some (.bool false) ∧ W0.cell? ⟨w.heap.size, 1, none⟩ = some (.bool false) ∧ W0.cell? ⟨w.heap.size, 2, none⟩ = some (.int .i64 0) ∧ W0.cell? ⟨w.heap.size, 3, none⟩ = some (.slice none 0 0) ∧ W0.cell? ⟨w.heap.size, 4, none⟩ = some (.slice none 0 0) ∧ W0.cell? ⟨w.heap.size, 5, none⟩ = some (.slice none 0 0) ∧ W0.cell? ⟨w.heap.size, 6, none⟩ = some (.slice none 0 0) ∧ w.heap.size < W0.heap.size := ⟨_, rfl, (Below.refl _ _).alloc (Nat.le_refl _) _, World.cell?_alloc_new _ _ _ _, World.cell?_alloc_new _ _ _ _, World.cell?_alloc_new _ _ _ _, World.cell?_alloc_new _ _ _ _, World.cell?_alloc_new _ _ _ _, World.cell?_alloc_new _ _ _ _, World.cell?_alloc_new _ _ _ _, by simp⟩
  obtain ⟨W1, e1, hb1, b0, b1, b2, b3, b4, b5, b6, c0, c1, c2, c3, c4, c5, c6, hs1, hs2⟩ : ∃ W1, W0.alloc (.cells #[.bool false, .bool false, .int .i64 0, .slice none 0 0, .slice none 0 0, .slice none 0 0, .slice none 0 0] 41) = W1 ∧ Below W0.heap.size W0 W1 ∧ W1.cell? ⟨W0.heap.size, 0, none⟩ = some (.bool false) ∧ W1.cell? ⟨W0.heap.size, 1, none⟩ = some (.bool false) ∧ W1.cell? ⟨W0.heap.size, 2, none⟩ = some (.int .i64 0) ∧ W1.cell? ⟨W0.heap.size, 3, none⟩ = some (.slice none 0 0) ∧ W1.cell? ⟨W0.heap.size, 4, none⟩ = some (.slice none 0 0) ∧ W1.cell? ⟨W0.heap.size, 5, none⟩ = some (.slice none 0 0) ∧ W1.cell? ⟨W0.heap.size, 6, none⟩ = some (.slice none 0 0) ∧ W1.cell? ⟨w.heap.size, 0, none⟩ = some (.bool false) ∧ W1.cell? ⟨w.heap.size, 1, none⟩ = some (.bool false) ∧ W1.cell? ⟨w.heap.size, 2, none⟩ = some (.int .i64 0) ∧ W1.cell? ⟨w.heap.size, 3, none⟩ = some (.slice none 0 0) ∧ W1.cell? ⟨w.heap.size, 4, none⟩ = some (.slice none 0 0) ∧ W1.cell? ⟨w.heap.size, 5, none⟩ = some (.slice none 0 0) ∧ W1.cell? ⟨w.heap.size, 6, none⟩ = some (.slice none 0 0) ∧ W0.heap.size < W1.heap.size ∧ w.heap.size < W1.heap.size := ⟨_, rfl, (Below.refl _ _).alloc (Nat.le_refl _) _, World.cell?_alloc_new _ _ _ _, World.cell?_alloc_new _ _ _ _, World.cell?_alloc_new _ _ _ _, World.cell?_alloc_new _ _ _ _, World.cell?_alloc_new _ _ _ _, World.cell?_alloc_new _ _ _ _, World.cell?_alloc_new _ _ _ _, (World.cell?_alloc_lt _ _ _ hs0).trans a0, (World.cell?_alloc_lt _ _ _ hs0).trans a1, (World.cell?_alloc_lt _ _ _ hs0).trans a2, (World.cell?_alloc_lt _ _ _ hs0).trans a3, (World.cell?_alloc_lt _ _ _ hs0).trans a4, (World.cell?_alloc_lt _ _ _ hs0).trans a5, (World.cell?_alloc_lt _ _ _ hs0).trans a6, by simp, by simp; omega⟩
  have HB1 := Lib.hid (hb0.trans (hb1.mono hb0.size))
  clear hb0 hb1 hs0 a0 a1 a2 a3 a4 a5 a6
  have HCB := Lib.hid fun w' (_ : Below W1.heap.size W1 w') => SameBook_nil w'
  have HCJ := Lib.hid fun w' (_ : Below W1.heap.size W1 w') => join_nil w'
  go_enter Tryz.func13, Tryz.ntmps13
  go_wp2
  refine wp_region_quiet_below (by kernel_rfl) (by kernel_rfl) ?_
  repeat (go_big_quiet_step (first | with_reducible exact Calls.inBelowR HCB.out _ _ | with_reducible exact Calls.inBelowR HCJ.out _ _))
  refine wpQuiet_nil ?_
  intro _ hw'
  obtain ⟨⟨dq, osq⟩, hw''⟩ := hw'
  subst hw''
  go_wp2
  go_ret
  first | exact HB1.out.trans ((below_regrown _ _ _).mono HB1.out.size) | exact ⟨rfl, HB1.out.trans ((below_regrown _ _ _).mono HB1.out.size)⟩

end Go.Proofs.YtlopccnehgolnacGreatDoor
