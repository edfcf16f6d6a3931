
/- Contracts of the little helpers of laws over tables: tables, pick. -/
import Derived.Test.YtlopccnehgolnabDoorTabS
import Derived.Test.YtlopccnehgolnabDoorLit
namespace Go.Proofs.YtlopccnehgolnabDoor
open Go.RowKit Rb

def tbEx : Tb := ⟨[97], 5, false, [[98]], [⟨[⟨false, [(1, 4)]⟩], 7⟩, ⟨[⟨false, []⟩], 5⟩]⟩
theorem says_ex2 : saysT tbEx [2] = (7, true, 0) := by decide
theorem says_ex9 : saysT tbEx [9] = (5, true, 0) := by decide

theorem lit_tb (w : World) : rTb.rel (((((w.alloc (.cells #[.string ⟨#[98]⟩] 9)).alloc (.cells #[.int .i64 1, .int .i64 4] 72)).alloc (.cells #[.bool false, .slice (some ⟨w.heap.size + 1, 0, none⟩) 1 1] 53)).alloc
    (.cells #[.bool false, .slice none 0 0] 53)).alloc (.cells #[.slice (some ⟨w.heap.size + 1 + 1, 0, none⟩) 1 1, .int .i64 7, .slice (some ⟨w.heap.size + 1 + 1 + 1, 0, none⟩) 1 1, .int .i64 5] 43)) (fun _ => True)
    [.string ⟨#[97]⟩, .int .i64 5, .bool false, .slice (some ⟨w.heap.size, 0, none⟩) 1 1, .slice (some ⟨w.heap.size + 1 + 1 + 1 + 1, 0, none⟩) 2 2] tbEx := by
  have h1 := Rd.lit1 (R := rStr) (w := w) (S := fun _ => True) (x := [98]) (cells := [.string ⟨#[98]⟩]) 9 rfl (by decide) (by decide) ⟨rfl, by decide⟩
  have h2 := Rd.lit1 (R := rRg) (w := w.alloc (.cells #[.string ⟨#[98]⟩] 9)) (S := fun _ => True) (x := (1, 4)) (cells := [.int .i64 1, .int .i64 4]) (n := w.heap.size + 1) 72 (by simp) (by decide) (by decide) ⟨rfl, by unfold InI; omega, by unfold InI; omega⟩
  have h3 := Rd.lit1 (R := rCl) (S := fun _ => True) (x := ⟨false, [(1, 4)]⟩) (cells := [.bool false, .slice (some ⟨w.heap.size + 1, 0, none⟩) 1 1]) (n := w.heap.size + 1 + 1) 53 (by simp) (by decide) (by decide) ⟨_, rfl, h2⟩
  have h4 := Rd.lit1 (R := rCl) (w := ((w.alloc (.cells #[.string ⟨#[98]⟩] 9)).alloc (.cells #[.int .i64 1, .int .i64 4] 72)).alloc (.cells #[.bool false, .slice (some ⟨w.heap.size + 1, 0, none⟩) 1 1] 53))
    (S := fun _ => True) (x := ⟨false, []⟩) (cells := [.bool false, .slice none 0 0]) (n := w.heap.size + 1 + 1 + 1) 53 (by simp) (by decide) (by decide) ⟨_, rfl, none, 0, rfl, Nat.le_refl _, by decide, by decide, fun i x hx => by simp at hx⟩
  have h5 := Rd.lit2 (R := rRl) (S := fun _ => True) (x := ⟨[⟨false, [(1, 4)]⟩], 7⟩) (y := ⟨[⟨false, []⟩], 5⟩) (c1 := [.slice (some ⟨w.heap.size + 1 + 1, 0, none⟩) 1 1, .int .i64 7]) (c2 := [.slice (some ⟨w.heap.size + 1 + 1 + 1, 0, none⟩) 1 1, .int .i64 5]) (n := w.heap.size + 1 + 1 + 1 + 1) 43 (by simp) (by decide) (by decide)
    ⟨_, rfl, by unfold InI; dsimp only; omega, Rd.alloc h3 _⟩ ⟨_, rfl, by unfold InI; dsimp only; omega, h4⟩
  exact ⟨_, _, rfl, by decide, by unfold InI; decide, Rd.alloc (Rd.alloc (Rd.alloc (Rd.alloc h1 _) _) _) _, h5⟩

theorem Says_at {S T : Nat → Prop} {cs : List Value} {t : Tb} {u : Value} {ns : List Int} {x : Int × Bool × Int} (w : World) (hl : rTb.rel w S cs t) (hn : (rSl rInt).rel w T [u] ns) (hx : saysT t ns = x) :
    Calls Tryd.prog 33 #[.agg cs.toArray, u] w fun e w' => e = .returned (sayV x) ∧ Below w.heap.size w w' := hx ▸ Says_any w hl hn

set_option maxHeartbeats 800000 in
theorem tablesLaw_any (w : World) : Calls Tryd.prog 12 #[] w fun e w' => e = .returned (.bool true) ∧ Below w.heap.size w w' := by
  have hl := lit_tb w
  obtain ⟨W0, e0, hl0, hb0, hs0⟩ : ∃ W0, ((((w.alloc (.cells #[.string ⟨#[98]⟩] 9)).alloc (.cells #[.int .i64 1, .int .i64 4] 72)).alloc (.cells #[.bool false, .slice (some ⟨w.heap.size + 1, 0, none⟩) 1 1] 53)).alloc
    (.cells #[.bool false, .slice none 0 0] 53)).alloc (.cells #[.slice (some ⟨w.heap.size + 1 + 1, 0, none⟩) 1 1, .int .i64 7, .slice (some ⟨w.heap.size + 1 + 1 + 1, 0, none⟩) 1 1, .int .i64 5] 43) = W0 ∧
      rTb.rel W0 (fun _ => True) [.string ⟨#[97]⟩, .int .i64 5, .bool false, .slice (some ⟨w.heap.size, 0, none⟩) 1 1, .slice (some ⟨w.heap.size + 1 + 1 + 1 + 1, 0, none⟩) 2 2] tbEx ∧ Below w.heap.size w W0 ∧ W0.heap.size = w.heap.size + 1 + 1 + 1 + 1 + 1 :=
    ⟨_, rfl, hl, ((((((Below.refl _ _).alloc (Nat.le_refl _) _).alloc (by simp) _).alloc (by simp; omega) _).alloc (by simp; omega) _).alloc (by simp; omega) _), by simp⟩
  clear hl
  obtain ⟨W1, e1, hl1, hb1, c0, c1, c2, c3, c4, hs1⟩ : ∃ W1, W0.alloc (.cells #[.string ⟨#[97]⟩, .int .i64 5, .bool false, .slice (some ⟨w.heap.size, 0, none⟩) 1 1, .slice (some ⟨w.heap.size + 1 + 1 + 1 + 1, 0, none⟩) 2 2] 25) = W1 ∧
      rTb.rel W1 (fun _ => True) [.string ⟨#[97]⟩, .int .i64 5, .bool false, .slice (some ⟨w.heap.size, 0, none⟩) 1 1, .slice (some ⟨w.heap.size + 1 + 1 + 1 + 1, 0, none⟩) 2 2] tbEx ∧ Below w.heap.size w W1 ∧
      W1.cell? ⟨w.heap.size + 1 + 1 + 1 + 1 + 1, 0, none⟩ = some (.string ⟨#[97]⟩) ∧ W1.cell? ⟨w.heap.size + 1 + 1 + 1 + 1 + 1, 1, none⟩ = some (.int .i64 5) ∧ W1.cell? ⟨w.heap.size + 1 + 1 + 1 + 1 + 1, 2, none⟩ = some (.bool false) ∧
      W1.cell? ⟨w.heap.size + 1 + 1 + 1 + 1 + 1, 3, none⟩ = some (.slice (some ⟨w.heap.size, 0, none⟩) 1 1) ∧ W1.cell? ⟨w.heap.size + 1 + 1 + 1 + 1 + 1, 4, none⟩ = some (.slice (some ⟨w.heap.size + 1 + 1 + 1 + 1, 0, none⟩) 2 2) ∧ W1.heap.size = w.heap.size + 1 + 1 + 1 + 1 + 1 + 1 :=
    ⟨_, rfl, Rd.alloc hl0 _, hb0.alloc hb0.size _, by rw [← hs0]; exact World.cell?_alloc_new _ _ _ _, by rw [← hs0]; exact World.cell?_alloc_new _ _ _ _, by rw [← hs0]; exact World.cell?_alloc_new _ _ _ _, by rw [← hs0]; exact World.cell?_alloc_new _ _ _ _, by rw [← hs0]; exact World.cell?_alloc_new _ _ _ _, by simp [hs0]⟩
  have HL1 := Lib.hid hl1
  have hin : InI 2 ∧ InI 9 := by unfold InI; omega
  have hn2 := Rd.lit1 (R := rInt) (w := W1) (S := fun _ => True) (x := 2) (cells := [.int .i64 2]) (n := w.heap.size + 1 + 1 + 1 + 1 + 1 + 1) 3 hs1 (by decide) (by decide) ⟨rfl, hin.1⟩
  have HC2 := Lib.hid (Says_at _ (Rd.alloc hl1 (.cells #[.int .i64 2] 3)) hn2 says_ex2)
  have HB2 := Lib.hid (hb1.alloc hb1.size (.cells #[.int .i64 2] 3))
  have HR : Hid (∀ w2, Below (W1.alloc (.cells #[.int .i64 2] 3)).heap.size (W1.alloc (.cells #[.int .i64 2] 3)) w2 → ∀ o u, W1.cell? ⟨w.heap.size + 1 + 1 + 1 + 1 + 1, o, none⟩ = some u → w2.cell? ⟨w.heap.size + 1 + 1 + 1 + 1 + 1, o, none⟩ = some u) :=
    Lib.hid fun w2 hb o u hu => by
      have hb' := (((Below.refl W1.heap.size W1).alloc (Nat.le_refl _) (.cells #[.int .i64 2] 3)).trans (hb.mono (by simp)))
      rw [hb'.cell (p := ⟨w.heap.size + 1 + 1 + 1 + 1 + 1, o, none⟩) (by show w.heap.size + 1 + 1 + 1 + 1 + 1 < W1.heap.size; omega)]; exact hu
  have HC9 : Hid (∀ w2, Below (W1.alloc (.cells #[.int .i64 2] 3)).heap.size (W1.alloc (.cells #[.int .i64 2] 3)) w2 → Calls Tryd.prog 33 #[.agg #[.string ⟨#[97]⟩, .int .i64 5, .bool false, .slice (some ⟨w.heap.size, 0, none⟩) 1 1, .slice (some ⟨w.heap.size + 1 + 1 + 1 + 1, 0, none⟩) 2 2], .slice (some ⟨w2.heap.size, 0, none⟩) 1 1] (w2.alloc (.cells #[.int .i64 9] 3)) fun e w' => e = .returned (sayV (5, true, 0)) ∧ Below w.heap.size w w') :=
    Lib.hid fun w2 hb => by
      have hb' := (((Below.refl W1.heap.size W1).alloc (Nat.le_refl _) (.cells #[.int .i64 2] 3)).trans (hb.mono (by simp)))
      have hbb := hb1.trans (hb'.mono hb1.size)
      refine (Says_at _ (Rd.alloc (Rd.below HL1.out hb') (.cells #[.int .i64 9] 3)) (Rd.lit1 (R := rInt) (w := w2) (S := fun _ => True) (x := 9) (cells := [.int .i64 9]) 3 rfl (by decide) (by decide) ⟨rfl, hin.2⟩) says_ex9).mono fun e w' ⟨h1, h2⟩ => ⟨h1, ?_⟩
      exact (hbb.alloc hbb.size _).trans (h2.mono (by have := hbb.size; simp; omega))
  clear hl0 hb0 hl1 hn2
  go_enter Tryd.func12, Tryd.ntmps12
  go_wp2_with (first | (go_at_call 33; ((with_reducible refine HC2.out.mono ?_); rintro e w2 ⟨rfl, hb2⟩; unfold sayV; have k0 := HR.out w2 hb2 _ _ c0; have k1 := HR.out w2 hb2 _ _ c1; have k2 := HR.out w2 hb2 _ _ c2; have k3 := HR.out w2 hb2 _ _ c3; have k4 := HR.out w2 hb2 _ _ c4)) | (go_at_call 33; ((with_reducible refine (HC9.out _ hb2).mono ?_); rintro e w3 ⟨rfl, hb3⟩; unfold sayV)))
  go_ret
  exact ⟨rfl, hb3⟩

end Go.Proofs.YtlopccnehgolnabDoor
