
/- A nil store does nothing. -/
import Derived.Test.YtlopccnehgolnacGreatDoorNil
namespace Go.Proofs.YtlopccnehgolnacGreatDoor
open Go.RowKit

set_option maxRecDepth 100000 in
set_option maxHeartbeats 800000 in
theorem Do_nil (c0 c1 c2 c3 c4 : Value) (w : World) : Calls Tryz.prog 11 #[.pointer none, .agg #[c0, c1, c2, c3, c4]] w fun e w' => e = .returned (.agg #[.int .i64 3, .int .i64 0, .string ⟨#[]⟩, .slice none 0 0, .slice none 0 0]) ∧ Below w.heap.size w w' := by
  obtain ⟨W0, e0, hb0, hs0⟩ : ∃ W0, w.alloc (.cells #[c0, c1, c2, c3, c4] 24) = W0 ∧ Below w.heap.size w W0 ∧ w.heap.size + 1 = W0.heap.size := ⟨_, rfl, (Below.refl _ _).alloc (Nat.le_refl _) _, by simp⟩
  obtain ⟨W1, e1, hb1, f0, f1, f2, f3, f4, z0, z1, z2, z3, z4, hs1⟩ : ∃ W1, W0.alloc (.cells #[.int .i64 0, .int .i64 0, .string ⟨#[]⟩, .slice none 0 0, .slice none 0 0] 30) = W1 ∧ Below W0.heap.size W0 W1 ∧ W1.cell? ⟨W0.heap.size, 0, none⟩ = some (.int .i64 0) ∧ W1.cell? ⟨W0.heap.size, 1, none⟩ = some (.int .i64 0) ∧ W1.cell? ⟨W0.heap.size, 2, none⟩ = some (.string ⟨#[]⟩) ∧ W1.cell? ⟨W0.heap.size, 3, none⟩ = some (.slice none 0 0) ∧ W1.cell? ⟨W0.heap.size, 4, none⟩ = some (.slice none 0 0) ∧ W1.frozen? ⟨W0.heap.size, 0, none⟩ = false ∧ W1.frozen? ⟨W0.heap.size, 1, none⟩ = false ∧ W1.frozen? ⟨W0.heap.size, 2, none⟩ = false ∧ W1.frozen? ⟨W0.heap.size, 3, none⟩ = false ∧ W1.frozen? ⟨W0.heap.size, 4, none⟩ = false ∧ W0.heap.size < W1.heap.size :=
    ⟨_, rfl, (Below.refl _ _).alloc (Nat.le_refl _) _, World.cell?_alloc_new _ _ _ _, World.cell?_alloc_new _ _ _ _, World.cell?_alloc_new _ _ _ _, World.cell?_alloc_new _ _ _ _, World.cell?_alloc_new _ _ _ _, by simp, by simp, by simp, by simp, by simp, by simp⟩
  go_enter Tryz.func11, Tryz.ntmps11
  have HB1 := Lib.hid (hb0.trans (hb1.mono hb0.size))
  have HS := Lib.hid hs1
  have HL := Lib.hid (show w.heap.size ≤ W0.heap.size by omega)
  clear hb0 hb1 hs1
  go_wp2_with (first | (go_at_call 31; go_must ((with_reducible refine (no_any W1).mono ?_); rintro e w2 ⟨rfl, hb2⟩; have HB2 := Lib.hid (HB1.out.trans (hb2.mono HB1.out.size)); have g0 := (hb2.cell (p := ⟨W0.heap.size, 0, none⟩) HS.out).trans f0; have g1 := (hb2.cell (p := ⟨W0.heap.size, 1, none⟩) HS.out).trans f1; have g2 := (hb2.cell (p := ⟨W0.heap.size, 2, none⟩) HS.out).trans f2; have g3 := (hb2.cell (p := ⟨W0.heap.size, 3, none⟩) HS.out).trans f3; have g4 := (hb2.cell (p := ⟨W0.heap.size, 4, none⟩) HS.out).trans f4; have y0 : w2.frozen? ⟨W0.heap.size, 0, none⟩ = false := (hb2.frozen (p := ⟨W0.heap.size, 0, none⟩) HS.out).trans z0; have y1 : w2.frozen? ⟨W0.heap.size, 1, none⟩ = false := (hb2.frozen (p := ⟨W0.heap.size, 1, none⟩) HS.out).trans z1; have y2 : w2.frozen? ⟨W0.heap.size, 2, none⟩ = false := (hb2.frozen (p := ⟨W0.heap.size, 2, none⟩) HS.out).trans z2; have y3 : w2.frozen? ⟨W0.heap.size, 3, none⟩ = false := (hb2.frozen (p := ⟨W0.heap.size, 3, none⟩) HS.out).trans z3; have y4 : w2.frozen? ⟨W0.heap.size, 4, none⟩ = false := (hb2.frozen (p := ⟨W0.heap.size, 4, none⟩) HS.out).trans z4; obtain ⟨W4, e4, hB4, n0, n1, n2, n3, n4⟩ := store5R (.int .i64 3) (.int .i64 0) (.string ⟨#[]⟩) (.slice none 0 0) (.slice none 0 0) g0 g1 g2 g3 g4; have HB4 := Lib.hid (hB4 _ HL.out _ HB2.out); clear hB4 hb2)))
  refine bodyPost_ret (by simp [results, Tryz.results11, go_sem, n0, n1, n2, n3, n4]; rfl) rfl ?_
  exact ⟨rfl, HB4.out⟩

end Go.Proofs.YtlopccnehgolnacGreatDoor
