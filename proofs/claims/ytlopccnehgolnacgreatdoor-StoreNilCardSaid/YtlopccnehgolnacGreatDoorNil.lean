
/- StoreNil: the walk: a store that is nil. -/
import Derived.Test.YtlopccnehgolnacGreatDoorBase
import Derived.Test.YtlopccnehgolnacGreatDoorProg
import Derived.Lib.QuietBelow
import Derived.BigQuiet
import Derived.Lib.Hide
import Derived.Deep.DeepMust
namespace Go.Proofs.YtlopccnehgolnacGreatDoor
open Go.RowKit

/-- Cells are stored over. -/
theorem store5R {w : World} {q : Nat} {u0 u1 u2 u3 u4 : Value} (v0 v1 v2 v3 v4 : Value) (h0 : w.cell? ⟨q, 0, none⟩ = some u0) (h1 : w.cell? ⟨q, 1, none⟩ = some u1) (h2 : w.cell? ⟨q, 2, none⟩ = some u2) (h3 : w.cell? ⟨q, 3, none⟩ = some u3) (h4 : w.cell? ⟨q, 4, none⟩ = some u4) :
    ∃ W, ((((w.setCell ⟨q, 0, none⟩ v0).setCell ⟨q, 1, none⟩ v1).setCell ⟨q, 2, none⟩ v2).setCell ⟨q, 3, none⟩ v3).setCell ⟨q, 4, none⟩ v4 = W ∧ (∀ B, B ≤ q → ∀ w0, Below B w0 w → Below B w0 W) ∧ W.cell? ⟨q, 0, none⟩ = some v0 ∧ W.cell? ⟨q, 1, none⟩ = some v1 ∧ W.cell? ⟨q, 2, none⟩ = some v2 ∧ W.cell? ⟨q, 3, none⟩ = some v3 ∧ W.cell? ⟨q, 4, none⟩ = some v4 := by
  have o : ∀ (w : World) (i j : Nat) (v : Value), i ≠ j → (w.setCell ⟨q, i, none⟩ v).cell? ⟨q, j, none⟩ = w.cell? ⟨q, j, none⟩ := fun w i j v h => World.cell?_setCell_other _ _ _ _ (by simp <;> omega)
  refine ⟨_, rfl, fun B hB w0 hb => ((((hb.setCell hB _).setCell hB _).setCell hB _).setCell hB _).setCell hB _, ?_, ?_, ?_, ?_, ?_⟩
  · rw [o _ 4 0 _ (by decide), o _ 3 0 _ (by decide), o _ 2 0 _ (by decide), o _ 1 0 _ (by decide)]
    exact World.cell?_setCell_same _ _ _ (h0)
  · rw [o _ 4 1 _ (by decide), o _ 3 1 _ (by decide), o _ 2 1 _ (by decide)]
    exact World.cell?_setCell_same _ _ _ ((o _ 0 1 _ (by decide)).trans h1)
  · rw [o _ 4 2 _ (by decide), o _ 3 2 _ (by decide)]
    exact World.cell?_setCell_same _ _ _ ((o _ 1 2 _ (by decide)).trans ((o _ 0 2 _ (by decide)).trans h2))
  · rw [o _ 4 3 _ (by decide)]
    exact World.cell?_setCell_same _ _ _ ((o _ 2 3 _ (by decide)).trans ((o _ 1 3 _ (by decide)).trans ((o _ 0 3 _ (by decide)).trans h3)))
  · exact World.cell?_setCell_same _ _ _ ((o _ 3 4 _ (by decide)).trans ((o _ 2 4 _ (by decide)).trans ((o _ 1 4 _ (by decide)).trans ((o _ 0 4 _ (by decide)).trans h4))))
theorem store7R {w : World} {q : Nat} {u0 u1 u2 u3 u4 u5 u6 : Value} (v0 v1 v2 v3 v4 v5 v6 : Value) (h0 : w.cell? ⟨q, 0, none⟩ = some u0) (h1 : w.cell? ⟨q, 1, none⟩ = some u1) (h2 : w.cell? ⟨q, 2, none⟩ = some u2) (h3 : w.cell? ⟨q, 3, none⟩ = some u3) (h4 : w.cell? ⟨q, 4, none⟩ = some u4) (h5 : w.cell? ⟨q, 5, none⟩ = some u5) (h6 : w.cell? ⟨q, 6, none⟩ = some u6) :
    ∃ W, ((((((w.setCell ⟨q, 0, none⟩ v0).setCell ⟨q, 1, none⟩ v1).setCell ⟨q, 2, none⟩ v2).setCell ⟨q, 3, none⟩ v3).setCell ⟨q, 4, none⟩ v4).setCell ⟨q, 5, none⟩ v5).setCell ⟨q, 6, none⟩ v6 = W ∧ (∀ B, B ≤ q → ∀ w0, Below B w0 w → Below B w0 W) ∧ W.cell? ⟨q, 0, none⟩ = some v0 ∧ W.cell? ⟨q, 1, none⟩ = some v1 ∧ W.cell? ⟨q, 2, none⟩ = some v2 ∧ W.cell? ⟨q, 3, none⟩ = some v3 ∧ W.cell? ⟨q, 4, none⟩ = some v4 ∧ W.cell? ⟨q, 5, none⟩ = some v5 ∧ W.cell? ⟨q, 6, none⟩ = some v6 := by
  have o : ∀ (w : World) (i j : Nat) (v : Value), i ≠ j → (w.setCell ⟨q, i, none⟩ v).cell? ⟨q, j, none⟩ = w.cell? ⟨q, j, none⟩ := fun w i j v h => World.cell?_setCell_other _ _ _ _ (by simp <;> omega)
  refine ⟨_, rfl, fun B hB w0 hb => ((((((hb.setCell hB _).setCell hB _).setCell hB _).setCell hB _).setCell hB _).setCell hB _).setCell hB _, ?_, ?_, ?_, ?_, ?_, ?_, ?_⟩
  · rw [o _ 6 0 _ (by decide), o _ 5 0 _ (by decide), o _ 4 0 _ (by decide), o _ 3 0 _ (by decide), o _ 2 0 _ (by decide), o _ 1 0 _ (by decide)]
    exact World.cell?_setCell_same _ _ _ (h0)
  · rw [o _ 6 1 _ (by decide), o _ 5 1 _ (by decide), o _ 4 1 _ (by decide), o _ 3 1 _ (by decide), o _ 2 1 _ (by decide)]
    exact World.cell?_setCell_same _ _ _ ((o _ 0 1 _ (by decide)).trans h1)
  · rw [o _ 6 2 _ (by decide), o _ 5 2 _ (by decide), o _ 4 2 _ (by decide), o _ 3 2 _ (by decide)]
    exact World.cell?_setCell_same _ _ _ ((o _ 1 2 _ (by decide)).trans ((o _ 0 2 _ (by decide)).trans h2))
  · rw [o _ 6 3 _ (by decide), o _ 5 3 _ (by decide), o _ 4 3 _ (by decide)]
    exact World.cell?_setCell_same _ _ _ ((o _ 2 3 _ (by decide)).trans ((o _ 1 3 _ (by decide)).trans ((o _ 0 3 _ (by decide)).trans h3)))
  · rw [o _ 6 4 _ (by decide), o _ 5 4 _ (by decide)]
    exact World.cell?_setCell_same _ _ _ ((o _ 3 4 _ (by decide)).trans ((o _ 2 4 _ (by decide)).trans ((o _ 1 4 _ (by decide)).trans ((o _ 0 4 _ (by decide)).trans h4))))
  · rw [o _ 6 5 _ (by decide)]
    exact World.cell?_setCell_same _ _ _ ((o _ 4 5 _ (by decide)).trans ((o _ 3 5 _ (by decide)).trans ((o _ 2 5 _ (by decide)).trans ((o _ 1 5 _ (by decide)).trans ((o _ 0 5 _ (by decide)).trans h5)))))
  · exact World.cell?_setCell_same _ _ _ ((o _ 5 6 _ (by decide)).trans ((o _ 4 6 _ (by decide)).trans ((o _ 3 6 _ (by decide)).trans ((o _ 2 6 _ (by decide)).trans ((o _ 1 6 _ (by decide)).trans ((o _ 0 6 _ (by decide)).trans h6))))))

/-- A contract, met in a world of the class 'old memory as it was'. -/
theorem Calls.inBelowR {P : Program} {f : FuncId} {args : Array Value} {W : World} {u : Value} (h : ∀ w, Below W.heap.size W w → Calls P f args w fun e w' => e = .returned u ∧ Below w.heap.size w w') (p : Nat) (os : Array Obj) :
    Calls P f args (Go.Sort.grow (redrawn W p) os) fun e w'' => e = .returned u ∧ ∃ p : Regrown, w'' = Go.Sort.grow (redrawn W p.d) p.os := Calls.regrown_of (h _ (below_regrown W p os))
/-- A class of worlds: old memory as it was; and a load in it. -/
@[go_sem] theorem regrown_cellR {w : World} {a : Addr} (d : Nat) (os : Array Obj) (h : a.block < w.heap.size) : (Go.Sort.grow (redrawn w d) os).cell? a = w.cell? a :=
  (below_regrown w d os).cell h

theorem join_nil (w : World) : Calls Tryz.prog 41 #[.slice none 0 0, .string ⟨#[44]⟩] w fun e w' => e = .returned (.string ⟨#[]⟩) ∧ Below w.heap.size w w' := by
  go_enter Tryz.func41, Tryz.ntmps41
  go_wp2
  go_ret
  first | exact Below.refl _ _ | exact ⟨rfl, Below.refl _ _⟩

set_option maxRecDepth 100000 in
theorem no_any (w : World) : Calls Tryz.prog 31 #[.int .i64 3] w fun e w' => e = .returned (.agg #[.int .i64 3, .int .i64 0, .string ⟨#[]⟩, .slice none 0 0, .slice none 0 0]) ∧ Below w.heap.size w w' := by
  obtain ⟨W1, e1, hb1, f0, f1, f2, f3, f4, z0, z1, z2, z3, z4, hs1⟩ : ∃ W1, w.alloc (.cells #[.int .i64 0, .int .i64 0, .string ⟨#[]⟩, .slice none 0 0, .slice none 0 0] 30) = W1 ∧ Below w.heap.size w W1 ∧ W1.cell? ⟨w.heap.size, 0, none⟩ = some (.int .i64 0) ∧ W1.cell? ⟨w.heap.size, 1, none⟩ = some (.int .i64 0) ∧ W1.cell? ⟨w.heap.size, 2, none⟩ = some (.string ⟨#[]⟩) ∧ W1.cell? ⟨w.heap.size, 3, none⟩ = some (.slice none 0 0) ∧ W1.cell? ⟨w.heap.size, 4, none⟩ = some (.slice none 0 0) ∧ W1.frozen? ⟨w.heap.size, 0, none⟩ = false ∧ W1.frozen? ⟨w.heap.size, 1, none⟩ = false ∧ W1.frozen? ⟨w.heap.size, 2, none⟩ = false ∧ W1.frozen? ⟨w.heap.size, 3, none⟩ = false ∧ W1.frozen? ⟨w.heap.size, 4, none⟩ = false ∧ w.heap.size < W1.heap.size :=
    ⟨_, rfl, (Below.refl _ _).alloc (Nat.le_refl _) _, World.cell?_alloc_new _ _ _ _, World.cell?_alloc_new _ _ _ _, World.cell?_alloc_new _ _ _ _, World.cell?_alloc_new _ _ _ _, World.cell?_alloc_new _ _ _ _, by simp, by simp, by simp, by simp, by simp, by simp⟩
  obtain ⟨W4, e4, hB4, n0, n1, n2, n3, n4⟩ := store5R (.int .i64 3) (.int .i64 0) (.string ⟨#[]⟩) (.slice none 0 0) (.slice none 0 0) f0 f1 f2 f3 f4
  have HB4 := Lib.hid (hB4 _ (Nat.le_refl _) _ hb1)
  clear hB4 hb1
  go_enter Tryz.func31, Tryz.ntmps31
  go_wp2
  refine bodyPost_ret (by simp [results, Tryz.results31, go_sem, n0, n1, n2, n3, n4]; rfl) rfl ?_
  exact ⟨rfl, HB4.out⟩

theorem States_nil (w : World) : Calls Tryz.prog 12 #[.pointer none] w fun e w' => e = .returned (.slice none 0 0) ∧ Below w.heap.size w w' := by
  go_enter Tryz.func12, Tryz.ntmps12
  go_wp2
  go_ret
  first | exact Below.refl _ _ | exact ⟨rfl, Below.refl _ _⟩

set_option maxRecDepth 100000 in
theorem Session_nil (n : Int) (w : World) : Calls Tryz.prog 14 #[.pointer none, .int .i64 n] w fun e w' => e = .returned (.agg #[.bool false, .bool false, .int .i64 0, .slice none 0 0, .slice none 0 0, .slice none 0 0, .slice none 0 0]) ∧ Below w.heap.size w w' := by
  obtain ⟨W1, e1, hb1, f0, f1, f2, f3, f4, f5, f6, z0, z1, z2, z3, z4, z5, z6, hs1⟩ : ∃ W1, w.alloc (.cells #[.bool false, .bool false, .int .i64 0, .slice none 0 0, .slice none 0 0, .slice none 0 0, .slice none 0 0] 41) = W1 ∧ Below w.heap.size w W1 ∧ W1.cell? ⟨w.heap.size, 0, none⟩ = some (.bool false) ∧ W1.cell? ⟨w.heap.size, 1, none⟩ = some (.bool false) ∧ W1.cell? ⟨w.heap.size, 2, none⟩ = some (.int .i64 0) ∧ W1.cell? ⟨w.heap.size, 3, none⟩ = some (.slice none 0 0) ∧ W1.cell? ⟨w.heap.size, 4, none⟩ = some (.slice none 0 0) ∧ W1.cell? ⟨w.heap.size, 5, none⟩ = some (.slice none 0 0) ∧ W1.cell? ⟨w.heap.size, 6, none⟩ = some (.slice none 0 0) ∧ W1.frozen? ⟨w.heap.size, 0, none⟩ = false ∧ W1.frozen? ⟨w.heap.size, 1, none⟩ = false ∧ W1.frozen? ⟨w.heap.size, 2, none⟩ = false ∧ W1.frozen? ⟨w.heap.size, 3, none⟩ = false ∧ W1.frozen? ⟨w.heap.size, 4, none⟩ = false ∧ W1.frozen? ⟨w.heap.size, 5, none⟩ = false ∧ W1.frozen? ⟨w.heap.size, 6, none⟩ = false ∧ w.heap.size < W1.heap.size :=
    ⟨_, rfl, (Below.refl _ _).alloc (Nat.le_refl _) _, World.cell?_alloc_new _ _ _ _, World.cell?_alloc_new _ _ _ _, World.cell?_alloc_new _ _ _ _, World.cell?_alloc_new _ _ _ _, World.cell?_alloc_new _ _ _ _, World.cell?_alloc_new _ _ _ _, World.cell?_alloc_new _ _ _ _, by simp, by simp, by simp, by simp, by simp, by simp, by simp, by simp⟩
  obtain ⟨W4, e4, hB4, n0, n1, n2, n3, n4, n5, n6⟩ := store7R (.bool false) (.bool false) (.int .i64 0) (.slice none 0 0) (.slice none 0 0) (.slice none 0 0) (.slice none 0 0) f0 f1 f2 f3 f4 f5 f6
  have HB4 := Lib.hid (hB4 _ (Nat.le_refl _) _ hb1)
  clear hB4 hb1
  go_enter Tryz.func14, Tryz.ntmps14
  go_wp2
  refine bodyPost_ret (by simp [results, Tryz.results14, go_sem, n0, n1, n2, n3, n4, n5, n6]; rfl) rfl ?_
  exact ⟨rfl, HB4.out⟩

theorem SameAnswers_nil (w : World) : Calls Tryz.prog 29 #[.slice none 0 0, .slice none 0 0] w fun e w' => e = .returned (.bool true) ∧ Below w.heap.size w w' := by
  go_enter Tryz.func29, Tryz.ntmps29
  go_wp2
  go_loopw [13] (fun i wr => i = .int .i64 0 ∧ Hid (Below w.heap.size w wr)) (fun _ _ => 0)
  case atStart => exact ⟨rfl, Lib.hid (Below.refl _ _)⟩
  case round =>
    obtain ⟨rfl, HB⟩ := hrel
    go_wp2
    go_ret
    first | exact HB.out | exact ⟨rfl, HB.out⟩

theorem SameNumbers_nil (w : World) : Calls Tryz.prog 30 #[.slice none 0 0, .slice none 0 0] w fun e w' => e = .returned (.bool true) ∧ Below w.heap.size w w' := by
  go_enter Tryz.func30, Tryz.ntmps30
  go_wp2
  go_loopw [13] (fun i wr => i = .int .i64 0 ∧ Hid (Below w.heap.size w wr)) (fun _ _ => 0)
  case atStart => exact ⟨rfl, Lib.hid (Below.refl _ _)⟩
  case round =>
    obtain ⟨rfl, HB⟩ := hrel
    go_wp2
    go_ret
    first | exact HB.out | exact ⟨rfl, HB.out⟩

theorem SameBook_nil (w : World) : Calls Tryz.prog 40 #[.agg #[.slice none 0 0, .slice none 0 0], .agg #[.slice none 0 0, .slice none 0 0]] w fun e w' => e = .returned (.bool true) ∧ Below w.heap.size w w' := by
  obtain ⟨W0, e0, hb0, a0, a1, hs0⟩ : ∃ W0, w.alloc (.cells #[.slice none 0 0, .slice none 0 0] 38) = W0 ∧ Below w.heap.size w W0 ∧ W0.cell? ⟨w.heap.size, 0, none⟩ = some (.slice none 0 0) ∧ W0.cell? ⟨w.heap.size, 1, none⟩ = some (.slice none 0 0) ∧ w.heap.size < W0.heap.size := ⟨_, rfl, (Below.refl _ _).alloc (Nat.le_refl _) _, World.cell?_alloc_new _ _ _ _, World.cell?_alloc_new _ _ _ _, by simp⟩
  obtain ⟨W1, e1, hb1, b0, b1, c0, c1⟩ : ∃ W1, W0.alloc (.cells #[.slice none 0 0, .slice none 0 0] 38) = W1 ∧ Below W0.heap.size W0 W1 ∧ W1.cell? ⟨W0.heap.size, 0, none⟩ = some (.slice none 0 0) ∧ W1.cell? ⟨W0.heap.size, 1, none⟩ = some (.slice none 0 0) ∧ W1.cell? ⟨w.heap.size, 0, none⟩ = some (.slice none 0 0) ∧ W1.cell? ⟨w.heap.size, 1, none⟩ = some (.slice none 0 0) := ⟨_, rfl, (Below.refl _ _).alloc (Nat.le_refl _) _, World.cell?_alloc_new _ _ _ _, World.cell?_alloc_new _ _ _ _, (World.cell?_alloc_lt _ _ _ hs0).trans a0, (World.cell?_alloc_lt _ _ _ hs0).trans a1⟩
  have HB1 := Lib.hid (hb0.trans (hb1.mono hb0.size))
  clear hb0 hb1 hs0 a0 a1
  go_enter Tryz.func40, Tryz.ntmps40
  go_wp2
  go_loopw [26] (fun i wr => i = .int .i64 0 ∧ wr = W1) (fun _ _ => 0)
  case atStart => exact ⟨rfl, rfl⟩
  case round =>
    obtain ⟨rfl, rfl⟩ := hrel
    go_wp2
    go_loopw [44] (fun i wi => i = .int .i64 0 ∧ wi = wr) (fun _ _ => 0)
    case atStart => exact ⟨rfl, rfl⟩
    case round =>
      obtain ⟨rfl, rfl⟩ := hrel
      go_wp2
      go_ret
      first | exact HB1.out | exact ⟨rfl, HB1.out⟩

set_option maxRecDepth 100000 in
set_option maxHeartbeats 800000 in
theorem SameReply_nil (w : World) : Calls Tryz.prog 10 #[.agg #[.int .i64 3, .int .i64 0, .string ⟨#[]⟩, .slice none 0 0, .slice none 0 0], .agg #[.int .i64 3, .int .i64 0, .string ⟨#[]⟩, .slice none 0 0, .slice none 0 0]] w fun e w' => e = .returned (.bool true) ∧ Below w.heap.size w w' := by
  obtain ⟨W0, e0, hb0, a0, a1, a2, a3, a4, hs0⟩ : ∃ W0, w.alloc (.cells #[.int .i64 3, .int .i64 0, .string ⟨#[]⟩, .slice none 0 0, .slice none 0 0] 30) = W0 ∧ Below w.heap.size w W0 ∧ W0.cell? ⟨w.heap.size, 0, none⟩ = some (.int .i64 3) ∧ W0.cell? ⟨w.heap.size, 1, none⟩ = some (.int .i64 0) ∧ W0.cell? ⟨w.heap.size, 2, none⟩ = some (.string ⟨#[]⟩) ∧ W0.cell? ⟨w.heap.size, 3, none⟩ = some (.slice none 0 0) ∧ W0.cell? ⟨w.heap.size, 4, none⟩ = some (.slice none 0 0) ∧ w.heap.size < W0.heap.size := ⟨_, rfl, (Below.refl _ _).alloc (Nat.le_refl _) _, World.cell?_alloc_new _ _ _ _, World.cell?_alloc_new _ _ _ _, World.cell?_alloc_new _ _ _ _, World.cell?_alloc_new _ _ _ _, World.cell?_alloc_new _ _ _ _, by simp⟩
  obtain ⟨W1, e1, hb1, b0, b1, b2, b3, b4, c0, c1, c2, c3, c4, hs1, hs2⟩ : ∃ W1, W0.alloc (.cells #[.int .i64 3, .int .i64 0, .string ⟨#[]⟩, .slice none 0 0, .slice none 0 0] 30) = W1 ∧ Below W0.heap.size W0 W1 ∧ W1.cell? ⟨W0.heap.size, 0, none⟩ = some (.int .i64 3) ∧ W1.cell? ⟨W0.heap.size, 1, none⟩ = some (.int .i64 0) ∧ W1.cell? ⟨W0.heap.size, 2, none⟩ = some (.string ⟨#[]⟩) ∧ W1.cell? ⟨W0.heap.size, 3, none⟩ = some (.slice none 0 0) ∧ W1.cell? ⟨W0.heap.size, 4, none⟩ = some (.slice none 0 0) ∧ W1.cell? ⟨w.heap.size, 0, none⟩ = some (.int .i64 3) ∧ W1.cell? ⟨w.heap.size, 1, none⟩ = some (.int .i64 0) ∧ W1.cell? ⟨w.heap.size, 2, none⟩ = some (.string ⟨#[]⟩) ∧ W1.cell? ⟨w.heap.size, 3, none⟩ = some (.slice none 0 0) ∧ W1.cell? ⟨w.heap.size, 4, none⟩ = some (.slice none 0 0) ∧ W0.heap.size < W1.heap.size ∧ w.heap.size < W1.heap.size := ⟨_, rfl, (Below.refl _ _).alloc (Nat.le_refl _) _, World.cell?_alloc_new _ _ _ _, World.cell?_alloc_new _ _ _ _, World.cell?_alloc_new _ _ _ _, World.cell?_alloc_new _ _ _ _, World.cell?_alloc_new _ _ _ _, (World.cell?_alloc_lt _ _ _ hs0).trans a0, (World.cell?_alloc_lt _ _ _ hs0).trans a1, (World.cell?_alloc_lt _ _ _ hs0).trans a2, (World.cell?_alloc_lt _ _ _ hs0).trans a3, (World.cell?_alloc_lt _ _ _ hs0).trans a4, by simp, by simp; omega⟩
  have HB1 := Lib.hid (hb0.trans (hb1.mono hb0.size))
  clear hb0 hb1 hs0 a0 a1 a2 a3 a4
  have HS1 := Lib.hid hs1
  have HS2 := Lib.hid hs2
  go_enter Tryz.func10, Tryz.ntmps10
  go_wp2_with (first | (go_at_call 29; go_must ((with_reducible refine (SameAnswers_nil W1).mono ?_); rintro e w2 ⟨rfl, hb2⟩; have HB2 := Lib.hid (HB1.out.trans (hb2.mono HB1.out.size)); have d4 := (hb2.cell (p := ⟨W0.heap.size, 4, none⟩) HS1.out).trans b4; have g4 := (hb2.cell (p := ⟨w.heap.size, 4, none⟩) HS2.out).trans c4)) | (go_at_call 30; go_must ((with_reducible refine (SameNumbers_nil w2).mono ?_); rintro e w3 ⟨rfl, hb3⟩; have HB3 := Lib.hid (HB2.out.trans (hb3.mono HB2.out.size)))))
  go_ret
  first | exact HB3.out | exact ⟨rfl, HB3.out⟩

end Go.Proofs.YtlopccnehgolnacGreatDoor
