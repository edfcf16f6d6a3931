
/- Contracts of the reference's CellHolds and SameNumbers. -/
import Derived.Test.YtlopccnehgolnabDoorTabT
import Derived.BigQuiet
namespace Go.Proofs.YtlopccnehgolnabDoor
open Go.RowKit Rb

set_option maxRecDepth 100000 in
set_option maxHeartbeats 400000 in
theorem CellHolds_any {S : Nat → Prop} {v : Value} {c : Cl} (n : Int) (w : World) (hl : (rSl rRg).rel w S [v] c.rs) :
    Calls Tryd.prog 43 #[.agg #[.bool c.no, v], .int .i64 n] w fun e w' => e = .returned (.bool (cellHolds c n)) ∧ Below w.heap.size w w' := by
  obtain ⟨no, rs⟩ := c
  dsimp only at *
  have hv : cellHolds ⟨no, rs⟩ n = (decide (rs.length = 0) || (hasL rs n != no)) := by
    show (decide (rs.length = 0) && !no || (hasL rs n != no)) = _
    cases rs with
    | nil => cases no <;> rfl
    | cons r rs => simp
  obtain ⟨A, d, rfl, _⟩ := rSl.elems hl
  have hl2 := fun o => Rd.alloc hl o
  have hC := fun o w' hb => InSet_any n w' (Rd.below (hl2 o) hb)
  clear hl hl2
  generalize rs.length = m at *
  generalize hasL rs n = x at *
  have HC := Lib.hid hC
  have HV := Lib.hid hv
  clear hv hC
  rcases Nat.eq_zero_or_pos m with h0 | h0
  · go_enter Tryd.func43, Tryd.ntmps43
    go_wp2
    go_ret
    exact ⟨ret_bool (by rw [HV.out]; simp [h0]), (Below.refl _ _).alloc (Nat.le_refl _) _⟩
  · have h1 : ((m : Int) == 0) = false := by rw [beq_eq_false_iff_ne]; omega
    go_enter Tryd.func43, Tryd.ntmps43
    go_wp2
    refine wp_region_quiet_below (by kernel_rfl) (by kernel_rfl) ?_
    repeat (go_big_quiet_step (exact Calls.inBelow (HC.out _) _ _))
    refine wpQuiet_nil ?_
    intro _ hw'
    obtain ⟨⟨dq, osq⟩, hw''⟩ := hw'
    subst hw''
    go_wp2
    go_ret
    exact ⟨ret_bool (by rw [HV.out, decide_eq_false (show ¬ m = 0 by omega), Bool.false_or]; cases x <;> cases no <;> rfl), ((Below.refl _ _).alloc (Nat.le_refl _) _).trans ((below_regrown _ _ _).mono (by simp))⟩

end Go.Proofs.YtlopccnehgolnabDoor
