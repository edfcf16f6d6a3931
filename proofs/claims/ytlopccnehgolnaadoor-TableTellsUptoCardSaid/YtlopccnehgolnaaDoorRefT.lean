
/- Contracts of the reference's CellHolds and SameNumbers. -/
import Derived.Test.YtlopccnehgolnaaDoorTabT
import Derived.BigQuiet
namespace Go.Proofs.YtlopccnehgolnaaDoor
open Go.RowKit Rb

set_option maxRecDepth 100000 in
set_option maxHeartbeats 400000 in
theorem CellHolds_any {S : Nat → Prop} {v : Value} {c : Cl} (n : Int) (w : World) (hl : (rSl rRg).rel w S [v] c.rs) :
    Calls Tryd.prog 15 #[.agg #[.bool c.no, v], .int .i64 n] w fun e w' => e = .returned (.bool (cellHolds c n)) ∧ Below w.heap.size w w' := by
  obtain ⟨no, rs⟩ := c
  dsimp only at *
  have hv : cellHolds ⟨no, rs⟩ n = (decide (rs.length = 0) || (hasL rs n != no)) := by
    show (decide (rs.length = 0) && !no || (hasL rs n != no)) = _
    cases rs with
    | nil => cases no <;> rfl
    | cons r rs => simp
  obtain ⟨A, d, rfl, _⟩ := rSl.elems hl
  have hl2 := fun o => Rd.alloc hl o
  have hC := fun o w' hb => InSet_any n w' (Rd.below (hl2 o) hb)
  clear hl hl2
  generalize rs.length = m at *
  generalize hasL rs n = x at *
  have HC := Lib.hid hC
  have HV := Lib.hid hv
  clear hv hC
  rcases Nat.eq_zero_or_pos m with h0 | h0
  · go_enter Tryd.func15, Tryd.ntmps15
    go_wp2
    go_ret
    exact ⟨ret_bool (by rw [HV.out]; simp [h0]), (Below.refl _ _).alloc (Nat.le_refl _) _⟩
  · have h1 : ((m : Int) == 0) = false := by rw [beq_eq_false_iff_ne]; omega
    go_enter Tryd.func15, Tryd.ntmps15
    go_wp2
    refine wp_region_quiet_below (by kernel_rfl) (by kernel_rfl) ?_
    repeat (go_big_quiet_step (exact Calls.inBelow (HC.out _) _ _))
    refine wpQuiet_nil ?_
    intro _ hw'
    obtain ⟨⟨dq, osq⟩, hw''⟩ := hw'
    subst hw''
    go_wp2
    go_ret
    exact ⟨ret_bool (by rw [HV.out, decide_eq_false (show ¬ m = 0 by omega), Bool.false_or]; cases x <;> cases no <;> rfl), ((Below.refl _ _).alloc (Nat.le_refl _) _).trans ((below_regrown _ _ _).mono (by simp))⟩

set_option maxRecDepth 100000 in
set_option maxHeartbeats 400000 in
theorem SameNumbers_any {S T : Nat → Prop} {v u : Value} {a b : List Int} (w : World) (hl : (rSl rInt).rel w S [v] a) (hm : (rSl rInt).rel w T [u] b) :
    Calls Tryd.prog 11 #[v, u] w fun e w' => e = .returned (.bool (decide (a = b))) ∧ Below w.heap.size w w' := by
  obtain ⟨A, c, rfl, _, _, hba, hE⟩ := rSl.elems hl
  obtain ⟨B, d, rfl, _, _, hbb, hF⟩ := rSl.elems hm
  have hal : a.length ≤ 17592186044416 := by simp only [rInt] at hba; omega
  have hbl : b.length ≤ 17592186044416 := by simp only [rInt] at hbb; omega
  clear hl hm hba hbb
  by_cases hlen : a.length = b.length
  case neg =>
    have hne : ((a.length : Int) != (b.length : Int)) = true := by rw [bne_iff_ne]; omega
    have HF : Hid (decide (a = b) = false) := Lib.hid (decide_eq_false fun e => hlen (by rw [e]))
    clear hlen
    go_enter Tryd.func11, Tryd.ntmps11
    go_wp2
    go_ret
    exact ⟨ret_bool HF.out.symm, Below.refl _ _⟩
  have hne : ((a.length : Int) != (b.length : Int)) = false := by rw [bne_eq_false_iff_eq]; omega
  have HL := Lib.hid hlen
  clear hlen
  go_enter Tryd.func11, Tryd.ntmps11
  go_wp2
  clear hne
  go_loopw [5, 13] (fun _ i wr => ∃ k : Nat, k ≤ a.length ∧ i = .int .i64 k ∧ Hid (a.take k = b.take k) ∧ Below w.heap.size w wr) (fun _ i _ => a.length - (intOf i).toNat)
  case atStart => exact ⟨0, Nat.zero_le _, rfl, Lib.hid rfl, Below.refl _ _⟩
  case round =>
    obtain ⟨k, hk, rfl, HT, hb⟩ := hrel
    by_cases hlt : k < a.length
    · have hlt2 : k < b.length := by have := HL.out; omega
      obtain ⟨p, off, x, rfl, _, hp, hx, hxi, g1⟩ := hE.intAt hlt
      obtain ⟨q, off', y, rfl, _, hq, hy, hyi, g2⟩ := hF.intAt hlt2
      rw [← hb.cell (p := ⟨p, _, none⟩) hp] at g1
      rw [← hb.cell (p := ⟨q, _, none⟩) hq] at g2
      have hik : (k : Int) < (a.length : Int) := by omega
      have hik2 : (k : Int) < (b.length : Int) := by omega
      have HX := Lib.hid hx
      have HY := Lib.hid hy
      clear hx hy hE hF
      by_cases h1 : x = y
      · have HT' : Hid (a.take (k + 1) = b.take (k + 1)) := Lib.hid (by rw [take_getElem? HX.out, take_getElem? HY.out, HT.out, h1])
        have hxy : (x != y) = false := by rw [bne_eq_false_iff_eq]; exact h1
        clear h1
        go_wp2
        go_quiet (fail)
        go_wp2
        go_roundw
        case rel => exact ⟨k + 1, by omega, by go_num, HT', drewN_below hb _⟩
        case measure => simp [intOf]; omega
      · have HF : Hid (decide (a = b) = false) := Lib.hid (decide_eq_false fun e => h1 (by have := HX.out; rw [e, HY.out] at this; exact (Option.some.inj this).symm))
        have hxy : (x != y) = true := by rw [bne_iff_ne]; exact h1
        clear h1
        go_wp2
        go_quiet (fail)
        go_wp2
        go_ret
        exact ⟨ret_bool HF.out.symm, drewN_below hb _⟩
    · have HF : Hid (decide (a = b) = true) := Lib.hid (decide_eq_true (by
        have h1 := HT.out
        have h2 := HL.out
        rwa [List.take_of_length_le (by omega), List.take_of_length_le (by omega)] at h1))
      go_wp2
      go_ret
      exact ⟨ret_bool HF.out.symm, hb⟩

end Go.Proofs.YtlopccnehgolnaaDoor
