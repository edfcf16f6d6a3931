
/- Contracts of SameSet and its kin, Good. -/
import Derived.Test.YtlopccnehgolnabDoorSpanA
import Derived.Laws.StructEq
namespace Go.Proofs.YtlopccnehgolnabDoor
open Go.RowKit Rb

theorem rg_under : Tryd.prog.underlying 72 = some (.struct (Tryd.prog.fieldsOf 72)) := by kernel_rfl
theorem rg_stood : Tryd.prog.stoodInHeld 72 = false := by kernel_rfl
theorem rg_guard : Tryd.prog.eqGuardType Tryd.prog.depth 72 = false := by kernel_rfl
theorem rg_fields : (Tryd.prog.fieldsOf 72).toList = [⟨ "Lo", 3, 0, false, "", "", 0⟩, ⟨ "Hi", 3, 1, false, "", "", 8⟩] := by kernel_rfl
theorem neq_rg_ne (w : World) (a b c d : Int) (h : (a, b) ≠ (c, d)) : (binOp .neq 72 (.agg #[.int .i64 a, .int .i64 b]) (.agg #[.int .i64 c, .int .i64 d])).run Tryd.prog w = .ok (.bool true) w := by
  rw [run_neq_struct, run_equalIn_agg _ _ _ _ _ rg_under rg_stood, rg_fields]
  by_cases h1 : a = c
  · have h2 : b ≠ d := fun e => h (by rw [h1, e])
    simp [Op.eqFields, go_sem, Tryd.underlying3, h1, h2]
  · simp [Op.eqFields, go_sem, Tryd.underlying3, h1]
theorem neq_rg_eq (w : World) (a b : Int) : (binOp .neq 72 (.agg #[.int .i64 a, .int .i64 b]) (.agg #[.int .i64 a, .int .i64 b])).run Tryd.prog w = .ok (.bool false) w := by
  rw [run_neq_struct, run_equalIn_agg _ _ _ _ _ rg_under rg_stood, rg_fields]
  simp [Op.eqFields, go_sem, Tryd.underlying3]


theorem SameSet_any {S T : Nat → Prop} {v u : Value} {l m : List Rg} (w : World) (hl : rRgs.rel w S [v] l) (hm : rRgs.rel w T [u] m) :
    Calls Tryd.prog 44 #[v, u] w fun e w' => e = .returned (.bool (decide (l = m))) ∧ Below w.heap.size w w' := by
  obtain ⟨A, c, rfl, _, _, hn, hE⟩ := rRgs.elems hl
  obtain ⟨A', c', rfl, _, _, hn', hE'⟩ := rRgs.elems hm
  clear hl hm
  by_cases hlen : l.length = m.length
  · have hne : (((l.length : Int) != (m.length : Int))) = false := by simp [hlen]
    go_enter Tryd.func44, Tryd.ntmps44
    have HL := Lib.hid hlen
    clear hlen
    go_wp2
    clear hne
    go_loopw [5, 13] (fun _ i wr => ∃ k : Nat, k ≤ l.length ∧ i = .int .i64 k ∧ Hid (l.take k = m.take k) ∧ Below w.heap.size w wr) (fun _ i _ => l.length - (intOf i).toNat)
    case atStart => exact ⟨0, Nat.zero_le _, rfl, Lib.hid (by simp), Below.refl _ _⟩
    case round =>
      obtain ⟨k, hk, rfl, HT, hbl⟩ := hrel
      by_cases hlt : k < l.length
      · have hlt' : k < m.length := by have := HL.out; omega
        obtain ⟨b, off, lo, up, rfl, _, hb, hx, _, _, h1, h2⟩ := hE.rg hlt
        obtain ⟨b', off', lo', up', rfl, _, hb', hx', _, _, h1', h2'⟩ := hE'.rg hlt'
        rw [← hbl.cell (p := ⟨b, _, none⟩) hb] at h1 h2
        rw [← hbl.cell (p := ⟨b', _, none⟩) hb'] at h1' h2'
        have HX := Lib.hid hx
        have HX' := Lib.hid hx'
        clear hx hx' hE hE'
        have hi1 : (k : Int) < (l.length : Int) := by omega
        have hi2 : (k : Int) < (m.length : Int) := by omega
        have q1 := fun (w : World) (x y : Operand) (xs ys : Array Value) => run_eqGuard_agg w BinOp.neq 72 x y xs ys rg_guard
        by_cases hc : (lo, up) = (lo', up')
        · obtain ⟨rfl, rfl⟩ := Prod.mk.inj hc
          clear hc
          have q2 := fun w => neq_rg_eq w lo up
          have HT' : Hid (l.take (k + 1) = m.take (k + 1)) := Lib.hid (by rw [take_getElem? HX.out, take_getElem? HX'.out, HT.out])
          go_wp2
          go_quiet (fail)
          go_wp2
          go_roundw
          case rel => exact ⟨k + 1, by omega, by go_num, HT', drewN_below hbl _⟩
          case measure => simp [intOf]; omega
        · have HF : Hid (decide (l = m) = false) := Lib.hid (by
            have : l ≠ m := fun e => by
              have h3 := HX.out
              rw [e, HX'.out] at h3
              exact hc (Option.some.inj h3).symm
            simp [this])
          have q2 := fun w => neq_rg_ne w lo up lo' up' hc
          clear hc
          go_wp2
          go_quiet (fail)
          go_wp2
          go_ret
          exact ⟨ret_bool HF.out.symm, drewN_below hbl _⟩
      · go_wp2
        go_ret
        refine ⟨ret_bool ?_, hbl⟩
        have h1 := HT.out
        have h2 := HL.out
        rw [List.take_of_length_le (by omega), List.take_of_length_le (by omega)] at h1
        simp [h1]
  · have hne : (((l.length : Int) != (m.length : Int))) = true := by simp; omega
    go_enter Tryd.func44, Tryd.ntmps44
    have HL := Lib.hid hlen
    clear hlen
    go_wp2
    go_ret
    refine ⟨ret_bool ?_, Below.refl _ _⟩
    have : l ≠ m := fun e => HL.out (by rw [e])
    simp [this]
theorem same_any {S T : Nat → Prop} {v u : Value} {l m : List Rg} (w : World) (hl : rRgs.rel w S [v] l) (hm : rRgs.rel w T [u] m) :
    Calls Tryd.prog 29 #[v, u] w fun e w' => e = .returned (.bool (decide (l = m))) ∧ Below w.heap.size w w' := by
  obtain ⟨A, c, rfl, _, _, hn, hE⟩ := rRgs.elems hl
  obtain ⟨A', c', rfl, _, _, hn', hE'⟩ := rRgs.elems hm
  clear hl hm
  by_cases hlen : l.length = m.length
  · have hne : (((l.length : Int) != (m.length : Int))) = false := by simp [hlen]
    go_enter Tryd.func29, Tryd.ntmps29
    have HL := Lib.hid hlen
    clear hlen
    go_wp2
    clear hne
    go_loopw [5, 13] (fun _ i wr => ∃ k : Nat, k ≤ l.length ∧ i = .int .i64 k ∧ Hid (l.take k = m.take k) ∧ Below w.heap.size w wr) (fun _ i _ => l.length - (intOf i).toNat)
    case atStart => exact ⟨0, Nat.zero_le _, rfl, Lib.hid (by simp), Below.refl _ _⟩
    case round =>
      obtain ⟨k, hk, rfl, HT, hbl⟩ := hrel
      by_cases hlt : k < l.length
      · have hlt' : k < m.length := by have := HL.out; omega
        obtain ⟨b, off, lo, up, rfl, _, hb, hx, _, _, h1, h2⟩ := hE.rg hlt
        obtain ⟨b', off', lo', up', rfl, _, hb', hx', _, _, h1', h2'⟩ := hE'.rg hlt'
        rw [← hbl.cell (p := ⟨b, _, none⟩) hb] at h1 h2
        rw [← hbl.cell (p := ⟨b', _, none⟩) hb'] at h1' h2'
        have HX := Lib.hid hx
        have HX' := Lib.hid hx'
        clear hx hx' hE hE'
        have hi1 : (k : Int) < (l.length : Int) := by omega
        have hi2 : (k : Int) < (m.length : Int) := by omega
        have q1 := fun (w : World) (x y : Operand) (xs ys : Array Value) => run_eqGuard_agg w BinOp.neq 72 x y xs ys rg_guard
        by_cases hc : (lo, up) = (lo', up')
        · obtain ⟨rfl, rfl⟩ := Prod.mk.inj hc
          clear hc
          have q2 := fun w => neq_rg_eq w lo up
          have HT' : Hid (l.take (k + 1) = m.take (k + 1)) := Lib.hid (by rw [take_getElem? HX.out, take_getElem? HX'.out, HT.out])
          go_wp2
          go_quiet (fail)
          go_wp2
          go_roundw
          case rel => exact ⟨k + 1, by omega, by go_num, HT', drewN_below hbl _⟩
          case measure => simp [intOf]; omega
        · have HF : Hid (decide (l = m) = false) := Lib.hid (by
            have : l ≠ m := fun e => by
              have h3 := HX.out
              rw [e, HX'.out] at h3
              exact hc (Option.some.inj h3).symm
            simp [this])
          have q2 := fun w => neq_rg_ne w lo up lo' up' hc
          clear hc
          go_wp2
          go_quiet (fail)
          go_wp2
          go_ret
          exact ⟨ret_bool HF.out.symm, drewN_below hbl _⟩
      · go_wp2
        go_ret
        refine ⟨ret_bool ?_, hbl⟩
        have h1 := HT.out
        have h2 := HL.out
        rw [List.take_of_length_le (by omega), List.take_of_length_le (by omega)] at h1
        simp [h1]
  · have hne : (((l.length : Int) != (m.length : Int))) = true := by simp; omega
    go_enter Tryd.func29, Tryd.ntmps29
    have HL := Lib.hid hlen
    clear hlen
    go_wp2
    go_ret
    refine ⟨ret_bool ?_, Below.refl _ _⟩
    have : l ≠ m := fun e => HL.out (by rw [e])
    simp [this]

theorem number_b {n : Int} {b : Bool} (h : isNum n = b) (w : World) : Calls Tryd.prog 64 #[.int .i64 n] w fun e w' => e = .returned (.bool b) ∧ w' = w :=
  (number_any n w).mono fun _ _ ⟨h1, h2⟩ => ⟨by rw [h1, h], h2.symm⟩

set_option maxHeartbeats 1600000 in
theorem Good_any {S : Nat → Prop} {v : Value} {l : List Rg} (w : World) (hl : rRgs.rel w S [v] l) :
    Calls Tryd.prog 48 #[v] w fun e w' => e = .returned (.bool (isSet l)) ∧ Below w.heap.size w w' := by
  obtain ⟨A, c, rfl, _, _, hn, hE⟩ := rRgs.elems hl
  clear hl
  go_enter Tryd.func48, Tryd.ntmps48
  go_wp2
  go_loopw [7] (fun i wr => ∃ k : Nat, k ≤ l.length ∧ i = .int .i64 k ∧ Hid (isSet l = isSetB (if k = 0 then -1000002 else (l.getD (k - 1) (0, 0)).2) (l.drop k)) ∧
     (0 < k → isNum (l.getD (k - 1) (0, 0)).2 = true) ∧ Below w.heap.size w wr) (fun i _ => l.length - (intOf i).toNat)
  case atStart => exact ⟨0, Nat.zero_le _, rfl, Lib.hid rfl, fun h => absurd h (by omega), Below.refl _ _⟩
  case round =>
    obtain ⟨k, hk, rfl, HS, hp, hbl⟩ := hrel
    by_cases hlt : k < l.length
    · obtain ⟨b, off, lo, up, rfl, _, hb, hx, _, _, h1, h2⟩ := hE.rg hlt
      rw [← hbl.cell (p := ⟨b, _, none⟩) hb] at h1 h2
      have hs := HS.out
      rw [drop_cons hx, isSetB] at hs
      dsimp only at hs
      have hb2 := hbl.alloc hbl.size (.cells #[.int .i64 lo, .int .i64 up] 72)
      have done : ∀ {q : Bool}, isSet l = q → q = false → isSet l = false := fun h h' => h.trans h'
      have hg : l.getD k (0, 0) = (lo, up) := by rw [List.getD_eq_getElem?_getD, hx]; rfl
      have HP : 0 < k → ∃ hi : Int, isNum hi = true ∧ (if k = 0 then -1000002 else (l.getD (k - 1) (0, 0)).2) = hi ∧ wr.cell? ⟨b, off + (k - 1) * 2 + 1, none⟩ = some (.int .i64 hi) := fun h0 => by
        obtain ⟨b', off', lo', up', hA', _, hb', hx', _, _, _, h2'⟩ := hE.rg (i := k - 1) (by omega)
        obtain ⟨rfl, rfl⟩ : b = b' ∧ off = off' := by simpa using hA'
        rw [← hbl.cell (p := ⟨b, _, none⟩) hb] at h2'
        have e : (l.getD (k - 1) (0, 0)) = (lo', up') := by rw [List.getD_eq_getElem?_getD, hx']; rfl
        have h3 := hp h0
        rw [e] at h3
        exact ⟨up', h3, by rw [if_neg (by omega), e], h2'⟩
      have h0 : k = 0 ∨ 0 < k := by omega
      have cases5 : isNum lo = false ∨ (isNum lo = true ∧ isNum up = false) ∨ (isNum lo = true ∧ isNum up = true ∧ up < lo) ∨ (isNum lo = true ∧ isNum up = true ∧ lo ≤ up) := by
        cases isNum lo <;> cases isNum up <;> simp <;> omega
      have HX := Lib.hid hx
      have HG := Lib.hid hg
      clear HS hx hE hg hp
      rcases cases5 with c1 | ⟨c1, c2⟩ | ⟨c1, c2, c3⟩ | ⟨c1, c2, c3⟩
      · have HS : Hid (isSet l = false) := Lib.hid (done hs (by simp [c1]))
        have c2 := c1
        clear hs h0 HP
        go_wp2
        go_quiet ((first | (go_at_call 64; first | with_reducible exact Calls.quiet_of_same (number_b c1 _) | with_reducible exact Calls.quiet_of_same (number_b c2 _))))
        go_wp2
        go_ret
        exact ⟨ret_bool HS.out.symm, drewN_below hb2 _⟩
      · have HS : Hid (isSet l = false) := Lib.hid (done hs (by simp [c2]))
        clear hs h0 HP
        go_wp2
        go_quiet ((first | (go_at_call 64; first | with_reducible exact Calls.quiet_of_same (number_b c1 _) | with_reducible exact Calls.quiet_of_same (number_b c2 _))))
        go_wp2
        go_ret
        exact ⟨ret_bool HS.out.symm, drewN_below hb2 _⟩
      · have HS : Hid (isSet l = false) := Lib.hid (done hs (by simp [show ¬ lo ≤ up by omega]))
        clear hs h0 HP
        go_wp2
        go_quiet ((first | (go_at_call 64; first | with_reducible exact Calls.quiet_of_same (number_b c1 _) | with_reducible exact Calls.quiet_of_same (number_b c2 _))))
        go_wp2
        go_ret
        exact ⟨ret_bool HS.out.symm, drewN_below hb2 _⟩
      · have hu := (isNum_iff up).1 c2
        have hl' := (isNum_iff lo).1 c1
        have HQ : Hid (0 < k + 1 → isNum (l.getD (k + 1 - 1) (0, 0)).2 = true) := Lib.hid fun _ => by rw [Nat.add_sub_cancel, HG.out]; exact c2
        rcases h0 with h0 | h0
        · have HS : Hid (isSet l = isSetB (if k + 1 = 0 then -1000002 else (l.getD (k + 1 - 1) (0, 0)).2) (l.drop (k + 1))) := Lib.hid (by
            rw [hs, if_pos h0, if_neg (by omega), Nat.add_sub_cancel, HG.out]
            have : (-1000001 : Int) < lo := by omega
            simp [c1, c2, c3, this])
          have hd : decide (0 < k) = false := by simp; omega
          have hd3 : decide (up < lo) = false := by simp; omega
          clear hs HP h0
          go_wp2
          go_quiet ((first | (go_at_call 64; first | with_reducible exact Calls.quiet_of_same (number_b c1 _) | with_reducible exact Calls.quiet_of_same (number_b c2 _))))
          go_wp2
          go_roundw
          case rel => exact ⟨k + 1, by omega, by go_num, HS, HQ.out, drewN_below hb2 _⟩
          case measure => simp [intOf]; omega
        · obtain ⟨hi, n1, n2, n3⟩ := HP h0
          have hh := (isNum_iff hi).1 n1
          rw [n2] at hs
          have hd : decide (0 < k) = true := by simp; omega
          have hd3 : decide (up < lo) = false := by simp; omega
          have hi2 : k - 1 < l.length := by omega
          have hw1 : IntKind.i64.wrap ((k : Int) - 1) = ((k - 1 : Nat) : Int) := by rw [IntWalk.i64_in _ (by omega)]; omega
          have hw2 : IntKind.i64.wrap (hi + 1) = hi + 1 := IntWalk.i64_in _ (by omega)
          have n4 : (wr.alloc (.cells #[.int .i64 lo, .int .i64 up] 72)).cell? ⟨b, off + (k - 1) * 2 + 1, none⟩ = some (.int .i64 hi) := by
            rw [World.cell?_alloc_lt _ _ _ (World.block_lt_of_cell? _ _ n3)]; exact n3
          clear n2 n3 HP
          by_cases c4 : hi + 1 < lo
          · have HS : Hid (isSet l = isSetB (if k + 1 = 0 then -1000002 else (l.getD (k + 1 - 1) (0, 0)).2) (l.drop (k + 1))) := Lib.hid (by
              rw [hs, if_neg (by omega), Nat.add_sub_cancel, HG.out]
              simp [c1, c2, c3, c4])
            have hd4 : decide (lo ≤ hi + 1) = false := by simp; omega
            clear hs n1
            go_wp2
            go_quiet ((first | (go_at_call 64; first | with_reducible exact Calls.quiet_of_same (number_b c1 _) | with_reducible exact Calls.quiet_of_same (number_b c2 _))))
            go_wp2
            go_roundw
            case rel => exact ⟨k + 1, by omega, by go_num, HS, HQ.out, drewN_below hb2 _⟩
            case measure => simp [intOf]; omega
          · have HS : Hid (isSet l = false) := Lib.hid (done hs (by simp [c4]))
            have hd4 : decide (lo ≤ hi + 1) = true := by simp; omega
            clear hs n1
            go_wp2
            go_quiet ((first | (go_at_call 64; first | with_reducible exact Calls.quiet_of_same (number_b c1 _) | with_reducible exact Calls.quiet_of_same (number_b c2 _))))
            go_wp2
            go_ret
            exact ⟨ret_bool HS.out.symm, drewN_below hb2 _⟩
    · have hs := HS.out
      rw [List.drop_eq_nil_of_le (by omega), isSetB] at hs
      have HS' := Lib.hid hs
      clear hs hp
      go_wp2
      go_ret
      exact ⟨ret_bool HS'.out.symm, hbl⟩

end Go.Proofs.YtlopccnehgolnabDoor
