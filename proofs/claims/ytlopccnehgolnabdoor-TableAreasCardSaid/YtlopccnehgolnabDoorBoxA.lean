
/- Contracts of Has, InBox, SameBox, Point, Size of boxes. -/
import Derived.Test.YtlopccnehgolnabDoorBox

namespace Go.Proofs.YtlopccnehgolnabDoor
open Go.RowKit Rb

def hasBx (b : Bx) (ns : List Int) : Bool := inBx b ns
theorem hasBx_no {b : Bx} {ns : List Int} (h : b.length ≠ ns.length) : inBx b ns = false := by
  cases hh : inBx b ns
  · rfl
  · exact absurd (inBx_len hh) h

set_option maxRecDepth 100000 in
set_option maxHeartbeats 400000 in
theorem SameBox_any {S T : Nat → Prop} {v u : Value} {b c : Bx} (w : World) (hl : rBx.rel w S [v] b) (hn : rBx.rel w T [u] c) :
    Calls Tryd.prog 16 #[v, u] w fun e w' => e = .returned (.bool (decide (b = c))) ∧ Below w.heap.size w w' := by
  have hbl := rSl.lenle hl (by decide)
  have hnl := rSl.lenle hn (by decide)
  obtain ⟨A, c1, rfl, _, _, _, hE⟩ := rSl.elems hl
  obtain ⟨B, d1, rfl, _, _, _, hF⟩ := rSl.elems hn
  clear hl hn
  by_cases hlen : b.length = c.length
  case neg =>
    have hne : ((b.length : Int) != (c.length : Int)) = true := by rw [bne_iff_ne]; omega
    have HF : Hid (decide (b = c) = false) := Lib.hid (by simp; intro h; exact hlen (by rw [h]))
    clear hlen
    go_enter Tryd.func16, Tryd.ntmps16
    go_wp2
    go_ret
    exact ⟨ret_bool HF.out.symm, Below.refl _ _⟩
  have hne : ((b.length : Int) != (c.length : Int)) = false := by rw [bne_eq_false_iff_eq]; omega
  have HL := Lib.hid hlen
  clear hlen
  go_enter Tryd.func16, Tryd.ntmps16
  go_wp2
  go_loopw [13] (fun i wr => ∃ k : Nat, k ≤ b.length ∧ i = .int .i64 k ∧ Hid (b.take k = c.take k) ∧ Below w.heap.size w wr) (fun i _ => b.length - (intOf i).toNat)
  case atStart => exact ⟨0, Nat.zero_le _, rfl, Lib.hid rfl, Below.refl _ _⟩
  case round =>
    obtain ⟨k, hk, rfl, HK, hb⟩ := hrel
    by_cases hlt : k < b.length
    · obtain ⟨p, off, v, s, rfl, _, hp, hx, hs, h1⟩ := hE.sl hlt
      obtain ⟨q, off', v', s', rfl, _, hq, hx', hs', h2⟩ := hF.sl (show k < c.length by have := HL.out; omega)
      rw [← hb.cell (p := ⟨p, _, none⟩) hp] at h1
      rw [← hb.cell (p := ⟨q, _, none⟩) hq] at h2
      have hp2 : p < wr.heap.size := Nat.lt_of_lt_of_le hp hb.size
      have hq2 : q < wr.heap.size := Nat.lt_of_lt_of_le hq hb.size
      have hik : (k : Int) < (b.length : Int) := by omega
      have hik2 : (k : Int) < (c.length : Int) := by have := HL.out; omega
      have hsb := Rd.below hs hb
      have hsb' := Rd.below hs' hb
      have HC := Lib.hid fun w' hb' => SameSet_any w' (Rd.below hsb hb') (Rd.below hsb' hb')
      have HX := Lib.hid (And.intro hx hx')
      obtain ⟨A2, c2, rfl, _⟩ := rSl.elems hs
      obtain ⟨A3, c3, rfl, _⟩ := rSl.elems hs'
      clear hx hx' hs hs' hsb hsb' hE hF
      by_cases hh : s = s'
      · have HS : Hid (b.take (k + 1) = c.take (k + 1)) := Lib.hid (by rw [take_getElem? HX.out.1, take_getElem? HX.out.2, HK.out, hh])
        rw [show decide (s = s') = true by simp [hh]] at HC
        clear hh
        go_wp2
        refine wp_region_quiet_below (by kernel_rfl) (by kernel_rfl) ?_
        repeat (go_big_quiet_step (exact Calls.inBelow HC.out _ _))
        refine wpQuiet_nil ?_
        intro _ hw'
        obtain ⟨⟨dq, osq⟩, hw''⟩ := hw'
        subst hw''
        go_wp2
        go_roundw
        case rel => exact ⟨k + 1, by omega, by go_num, HS, hb.trans ((below_regrown _ _ _).mono hb.size)⟩
        case measure => simp [intOf]; omega
      · have HF : Hid (decide (b = c) = false) := Lib.hid (by
          simp; intro h
          have h3 := HX.out.1
          rw [h, HX.out.2] at h3
          exact hh (Option.some.inj h3).symm)
        rw [show decide (s = s') = false by simp [hh]] at HC
        clear hh
        go_wp2
        refine wp_region_quiet_below (by kernel_rfl) (by kernel_rfl) ?_
        repeat (go_big_quiet_step (exact Calls.inBelow HC.out _ _))
        refine wpQuiet_nil ?_
        intro _ hw'
        obtain ⟨⟨dq, osq⟩, hw''⟩ := hw'
        subst hw''
        go_wp2
        go_ret
        exact ⟨ret_bool HF.out.symm, hb.trans ((below_regrown _ _ _).mono hb.size)⟩
    · have HF : Hid (decide (b = c) = true) := Lib.hid (by
        have h1 := HK.out
        have h2 := HL.out
        rw [List.take_of_length_le (by omega), List.take_of_length_le (by omega)] at h1
        simp [h1])
      go_wp2
      go_ret
      exact ⟨ret_bool HF.out.symm, hb⟩

/-- The least input of a box. -/
def pointBx (b : Bx) : List Int := b.filterMap fun s => s.head?.map (·.1)
def headL : List Rg → List Int
  | [] => []
  | r :: _ => [r.1]
theorem pointBx_at {b : Bx} {k : Nat} {s : List Rg} (h : b[k]? = some s) : pointBx (b.take (k + 1)) = pointBx (b.take k) ++ headL s := by
  unfold pointBx
  rw [take_getElem? h, List.filterMap_append]
  cases s <;> rfl
theorem pointBx_len (b : Bx) (k : Nat) : (pointBx (b.take k)).length ≤ k := by
  unfold pointBx
  refine Nat.le_trans (List.length_filterMap_le _ _) ?_
  rw [List.length_take]; omega

end Go.Proofs.YtlopccnehgolnabDoor
