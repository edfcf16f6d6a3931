
/- Contracts of table's plain readers: Named, number, Contains, Holds. -/
import Derived.Test.YtlopccnehgolnabDoorTab
import Derived.Test.YtlopccnehgolnabDoorSpanC
namespace Go.Proofs.YtlopccnehgolnabDoor
open Go.RowKit Rb

theorem tnumber_any (n : Int) (w : World) : Calls Tryd.prog 47 #[.int .i64 n] w fun e w' => e = .returned (.bool (isNum n)) ∧ w = w' := by
  go_enter Tryd.func47, Tryd.ntmps47
  go_wp2
  all_goals
    go_ret
    refine ⟨ret_bool ?_, rfl⟩
    rw [Bool.eq_iff_iff, isNum_iff]
    simp
    omega

def lowB (c : UInt8) : Bool := decide (97 ≤ c.toNat) && decide (c.toNat ≤ 122)
theorem named_eq (s : Txt) : named s = (s.all lowB && (decide (1 ≤ s.length) && decide (s.length ≤ 8))) := rfl
theorem all_take_succ {s : Txt} {k : Nat} {c : UInt8} (h : s[k]? = some c) : (s.take (k + 1)).all lowB = ((s.take k).all lowB && lowB c) := by
  rw [take_getElem? h]; simp
theorem all_take_false {s : Txt} {k : Nat} (h : (s.take k).all lowB = false) : s.all lowB = false := by
  rw [← List.take_append_drop k s, List.all_append, h]; rfl

theorem Named_any (s : Txt) (w : World) (hs : s.length ≤ 140737488355328) : Calls Tryd.prog 45 #[.string ⟨s.toArray⟩] w fun e w' => e = .returned (.bool (named s)) ∧ w = w' := by
  have hN := Lib.hid (named_eq s)
  go_enter Tryd.func45, Tryd.ntmps45
  go_wp2
  go_loop [6] (fun i => ∃ k : Nat, k ≤ s.length ∧ i = .int .i64 k ∧ Hid ((s.take k).all lowB = true)) (fun i => s.length - (intOf i).toNat)
  case atStart => exact ⟨0, Nat.zero_le _, rfl, Lib.hid (by simp)⟩
  case round =>
    obtain ⟨k, hk, rfl, HS⟩ := hrel
    by_cases hlt : k < s.length
    · have hx : s[k]? = some s[k] := List.getElem?_eq_getElem hlt
      have h1 := all_take_succ hx
      rw [HS.out, Bool.true_and] at h1
      have HX := Lib.hid h1
      clear h1
      have hi : (k : Int) < (s.length : Int) := by omega
      obtain ⟨c, hc⟩ : ∃ c : UInt8, (⟨s.toArray⟩ : ByteArray)[k]'hlt = c := ⟨_, rfl⟩
      have hc' : s[k] = c := hc
      rw [hc'] at HX
      have hd : (c.toNat : Int) < 97 ∨ (97 ≤ (c.toNat : Int) ∧ 122 < (c.toNat : Int)) ∨ (97 ≤ (c.toNat : Int) ∧ (c.toNat : Int) ≤ 122) := by omega
      have hF : lowB c = false → Hid (named s = false) := fun h => Lib.hid (by rw [hN.out, all_take_false (HX.out.trans h)]; rfl)
      clear hc'
      rcases hd with hd | hd | hd
      · have HF := hF (by simp [lowB]; omega)
        clear hF hx HX
        go_wp2
        go_ret
        exact ⟨ret_bool HF.out.symm, rfl⟩
      · obtain ⟨hd1, hd2⟩ := hd
        have HF := hF (by simp [lowB]; omega)
        clear hF hx HX
        go_wp2
        go_ret
        exact ⟨ret_bool HF.out.symm, rfl⟩
      · obtain ⟨hd1, hd2⟩ := hd
        have HS' : Hid ((s.take (k + 1)).all lowB = true) := Lib.hid (HX.out.trans (by simp [lowB]; omega))
        clear hF hx HX
        go_wp2
        go_round
        case rel => exact ⟨k + 1, by omega, by go_num, HS'⟩
        case measure => simp [intOf]; omega
    · have HF : Hid (named s = (decide (1 ≤ s.length) && decide (s.length ≤ 8))) := Lib.hid (by
        have h1 := HS.out
        rw [List.take_of_length_le (by omega)] at h1
        rw [hN.out, h1]; rfl)
      have hd : s.length = 0 ∨ 0 < s.length := by omega
      rcases hd with hd | hd
      · obtain rfl : s = [] := List.eq_nil_of_length_eq_zero hd
        go_wp2
        go_ret
        exact ⟨ret_bool (by rw [HF.out]; rfl), rfl⟩
      · have h1 : (1 : Int) ≤ (s.length : Int) := by omega
        go_wp2
        go_ret
        exact ⟨ret_bool (by rw [HF.out, Bool.eq_iff_iff]; simp; omega), rfl⟩

theorem Index_any {S : Nat → Prop} {v : Value} {l : List Txt} (s : Txt) (w : World) (hl : (rSl rStr).rel w S [v] l) :
    Calls Tryd.prog 57 #[v, .string ⟨s.toArray⟩] w fun e w' => e = .returned (.int .i64 (idxOf l s)) ∧ w = w' := by
  obtain ⟨A, c, rfl, _, _, hn, hE⟩ := rSl.elems hl
  have hn' : l.length ≤ 8796093022208 := by simp only [rStr] at hn; omega
  clear hl hn
  go_enter Tryd.func57, Tryd.ntmps57
  go_wp2
  go_loop [5, 8] (fun _ i => ∃ k : Nat, k ≤ l.length ∧ i = .int .i64 k ∧ Hid (∀ j, j < k → l[j]? ≠ some s)) (fun _ i => l.length - (intOf i).toNat)
  case atStart => exact ⟨0, Nat.zero_le _, rfl, Lib.hid (fun j h => by omega)⟩
  case round =>
    obtain ⟨k, hk, rfl, HS⟩ := hrel
    by_cases hlt : k < l.length
    · obtain ⟨b, off, t, rfl, _, hb, hx, _, h1⟩ := hE.str hlt
      have hi : (k : Int) < (l.length : Int) := by omega
      have HX := Lib.hid hx
      clear hx hE
      by_cases hc : s = t
      · have HF : Hid (l.findIdx? (· == s) = some k) := Lib.hid (by
          rw [List.findIdx?_eq_some_iff_getElem]
          have h2 := HX.out
          rw [List.getElem?_eq_getElem hlt] at h2
          refine ⟨hlt, by rw [Option.some.inj h2, hc]; simp, fun j hj => ?_⟩
          have h3 := HS.out j hj
          rw [List.getElem?_eq_getElem (by omega)] at h3
          simpa using h3)
        subst hc
        go_wp2
        go_ret
        exact ⟨ret_int (by rw [idxOf, HF.out]), rfl⟩
      · have hq : (s == t) = false := by simpa using hc
        have HS' : Hid (∀ j, j < k + 1 → l[j]? ≠ some s) := Lib.hid (fun j hj h => by
          rcases Nat.lt_or_ge j k with h' | h'
          · exact HS.out j h' h
          · obtain rfl : j = k := by omega
            rw [HX.out] at h
            exact hc (Option.some.inj h).symm)
        clear hc
        go_wp2
        go_round
        case rel => exact ⟨k + 1, by omega, by go_num, HS'⟩
        case measure => simp [intOf]; omega
    · have HF : Hid (l.findIdx? (· == s) = none) := Lib.hid (by
        rw [List.findIdx?_eq_none_iff]
        intro x hx
        obtain ⟨j, hj, rfl⟩ := List.getElem_of_mem hx
        have h3 := HS.out j (by omega)
        rw [List.getElem?_eq_getElem (by omega)] at h3
        simpa using h3)
      go_wp2
      go_ret
      exact ⟨ret_int (by rw [idxOf, HF.out]), rfl⟩

theorem Contains_any {S : Nat → Prop} {v : Value} {l : List Txt} (s : Txt) (w : World) (hl : (rSl rStr).rel w S [v] l) :
    Calls Tryd.prog 46 #[v, .string ⟨s.toArray⟩] w fun e w' => e = .returned (.bool (l.contains s)) ∧ w = w' := by
  have HC := Lib.hid (Index_any s w hl)
  clear hl
  go_enter Tryd.func46, Tryd.ntmps46
  go_wp2_with (first | (go_at_call 57; refine HC.out.mono ?_; rintro e w' ⟨rfl, rfl⟩))
  go_ret
  refine ⟨ret_bool ?_, rfl⟩
  clear HC
  unfold idxOf
  cases h : l.findIdx? (· == s) with
  | some i =>
    have h' := (List.findIdx?_eq_some_iff_getElem.1 h)
    obtain ⟨hi, h1, _⟩ := h'
    have : s ∈ l := by
      have : l[i] = s := by simpa using h1
      exact this ▸ List.getElem_mem hi
    simp [this]
  | none =>
    rw [List.findIdx?_eq_none_iff] at h
    have : s ∉ l := fun hm => by simpa using h s hm
    simp [this]

/-- A contract, met in a world of the class 'old memory as it was'. -/
theorem Calls.inBelow {P : Program} {f : FuncId} {args : Array Value} {W : World} {u : Value} (h : ∀ w, Below W.heap.size W w → Calls P f args w fun e w' => e = .returned u ∧ Below w.heap.size w w') (p : Nat) (os : Array Obj) :
    Calls P f args (Go.Sort.grow (redrawn W p) os) fun e w'' => e = .returned u ∧ ∃ p : Regrown, w'' = Go.Sort.grow (redrawn W p.d) p.os := Calls.regrown_of (h _ (below_regrown W p os))

set_option maxRecDepth 100000 in
theorem Holds_any {S : Nat → Prop} {v : Value} {c : Cl} (n : Int) (w : World) (hl : (rSl rRg).rel w S [v] c.rs) :
    Calls Tryd.prog 79 #[.agg #[.bool c.no, v], .int .i64 n] w fun e w' => e = .returned (.bool (cellHolds c n)) ∧ Below w.heap.size w w' := by
  obtain ⟨no, rs⟩ := c
  dsimp only at *
  have hv : cellHolds ⟨no, rs⟩ n = (decide (rs.length = 0) && !no || (hasL rs n != no)) := rfl
  obtain ⟨A, d, rfl, _⟩ := rSl.elems hl
  have hl2 := fun o => Rd.alloc hl o
  have hC := fun o w' hb => Has_any n w' (Rd.below (hl2 o) hb)
  clear hl hl2
  generalize rs.length = m at *
  generalize hasL rs n = x at *
  have HC := Lib.hid hC
  have HV := Lib.hid hv
  clear hv hC
  have hx : m = 0 ∧ no = false ∨ (m = 0 ∧ no = true) ∨ (0 < m ∧ ((m : Int) == 0) = false ∧ ¬ m = 0) := by
    cases no <;> cases m <;> simp <;> omega
  rcases hx with ⟨rfl, rfl⟩ | ⟨rfl, rfl⟩ | ⟨h0, h1, h2⟩
  all_goals
    go_enter Tryd.func79, Tryd.ntmps79
    go_wp2
    refine wp_region_quiet_below (by kernel_rfl) (by kernel_rfl) ?_
    repeat (go_big_quiet_step (exact Calls.inBelow (HC.out _) _ _))
    refine wpQuiet_nil ?_
    intro _ hw'
    obtain ⟨⟨dq, osq⟩, hw''⟩ := hw'
    subst hw''
    go_wp2
    go_ret
    refine ⟨ret_bool ?_, ((Below.refl _ _).alloc (Nat.le_refl _) _).trans ((below_regrown _ _ _).mono (by simp))⟩
    rw [HV.out]
  · simp
  · cases x <;> rfl
  · cases x <;> cases no <;> simp [h2]

end Go.Proofs.YtlopccnehgolnabDoor
