/- Contracts of SameSet and its kin, Good. Contracts of Has. -/
import Derived.Test.YtlopccnehgolnabGreatDoorSpanA
import Derived.Laws.StructEq
namespace Go.Proofs.YtlopccnehgolnabGreatDoor
open Go.RowKit Rb

theorem rg_under : Tryz.prog.underlying 123 = some (.struct (Tryz.prog.fieldsOf 123)) := by kernel_rfl
theorem rg_stood : Tryz.prog.stoodInHeld 123 = false := by kernel_rfl
theorem rg_guard : Tryz.prog.eqGuardType Tryz.prog.depth 123 = false := by kernel_rfl
theorem rg_fields : (Tryz.prog.fieldsOf 123).toList = [⟨ "Lo", 3, 0, false, "", "", 0⟩, ⟨ "Hi", 3, 1, false, "", "", 8⟩] := by kernel_rfl
theorem neq_rg_ne (w : World) (a b c d : Int) (h : (a, b) ≠ (c, d)) : (binOp .neq 123 (.agg #[.int .i64 a, .int .i64 b]) (.agg #[.int .i64 c, .int .i64 d])).run Tryz.prog w = .ok (.bool true) w := by
  rw [run_neq_struct, run_equalIn_agg _ _ _ _ _ rg_under rg_stood, rg_fields]
  by_cases h1 : a = c
  · have h2 : b ≠ d := fun e => h (by rw [h1, e])
    simp [Op.eqFields, go_sem, Tryz.underlying3, h1, h2]
  · simp [Op.eqFields, go_sem, Tryz.underlying3, h1]
theorem neq_rg_eq (w : World) (a b : Int) : (binOp .neq 123 (.agg #[.int .i64 a, .int .i64 b]) (.agg #[.int .i64 a, .int .i64 b])).run Tryz.prog w = .ok (.bool false) w := by
  rw [run_neq_struct, run_equalIn_agg _ _ _ _ _ rg_under rg_stood, rg_fields]
  simp [Op.eqFields, go_sem, Tryz.underlying3]


theorem SameSet_any {S T : Nat → Prop} {v u : Value} {l m : List Rg} (w : World) (hl : rRgs.rel w S [v] l) (hm : rRgs.rel w T [u] m) :
    Calls Tryz.prog 66 #[v, u] w fun e w' => e = .returned (.bool (decide (l = m))) ∧ Below w.heap.size w w' := by
  obtain ⟨A, c, rfl, _, _, hn, hE⟩ := rRgs.elems hl
  obtain ⟨A', c', rfl, _, _, hn', hE'⟩ := rRgs.elems hm
  clear hl hm
  by_cases hlen : l.length = m.length
  · have hne : (((l.length : Int) != (m.length : Int))) = false := by simp [hlen]
    go_enter Tryz.func66, Tryz.ntmps66
    have HL := Lib.hid hlen
    clear hlen
    go_wp2
    clear hne
    go_loopw [5, 13] (fun _ i wr => ∃ k : Nat, k ≤ l.length ∧ i = .int .i64 k ∧ Hid (l.take k = m.take k) ∧ Below w.heap.size w wr) (fun _ i _ => l.length - (intOf i).toNat)
    case atStart => exact ⟨0, Nat.zero_le _, rfl, Lib.hid (by simp), Below.refl _ _⟩
    case round =>
      obtain ⟨k, hk, rfl, HT, hbl⟩ := hrel
      by_cases hlt : k < l.length
      · have hlt' : k < m.length := by have := HL.out; omega
        obtain ⟨b, off, lo, up, rfl, _, hb, hx, _, _, h1, h2⟩ := hE.rg hlt
        obtain ⟨b', off', lo', up', rfl, _, hb', hx', _, _, h1', h2'⟩ := hE'.rg hlt'
        rw [← hbl.cell (p := ⟨b, _, none⟩) hb] at h1 h2
        rw [← hbl.cell (p := ⟨b', _, none⟩) hb'] at h1' h2'
        have HX := Lib.hid hx
        have HX' := Lib.hid hx'
        clear hx hx' hE hE'
        have hi1 : (k : Int) < (l.length : Int) := by omega
        have hi2 : (k : Int) < (m.length : Int) := by omega
        have q1 := fun (w : World) (x y : Operand) (xs ys : Array Value) => run_eqGuard_agg w BinOp.neq 123 x y xs ys rg_guard
        by_cases hc : (lo, up) = (lo', up')
        · obtain ⟨rfl, rfl⟩ := Prod.mk.inj hc
          clear hc
          have q2 := fun w => neq_rg_eq w lo up
          have HT' : Hid (l.take (k + 1) = m.take (k + 1)) := Lib.hid (by rw [take_getElem? HX.out, take_getElem? HX'.out, HT.out])
          go_wp2
          go_quiet (fail)
          go_wp2
          go_roundw
          case rel => exact ⟨k + 1, by omega, by go_num, HT', drewN_below hbl _⟩
          case measure => simp [intOf]; omega
        · have HF : Hid (decide (l = m) = false) := Lib.hid (by
            have : l ≠ m := fun e => by
              have h3 := HX.out
              rw [e, HX'.out] at h3
              exact hc (Option.some.inj h3).symm
            simp [this])
          have q2 := fun w => neq_rg_ne w lo up lo' up' hc
          clear hc
          go_wp2
          go_quiet (fail)
          go_wp2
          go_ret
          exact ⟨ret_bool HF.out.symm, drewN_below hbl _⟩
      · go_wp2
        go_ret
        refine ⟨ret_bool ?_, hbl⟩
        have h1 := HT.out
        have h2 := HL.out
        rw [List.take_of_length_le (by omega), List.take_of_length_le (by omega)] at h1
        simp [h1]
  · have hne : (((l.length : Int) != (m.length : Int))) = true := by simp; omega
    go_enter Tryz.func66, Tryz.ntmps66
    have HL := Lib.hid hlen
    clear hlen
    go_wp2
    go_ret
    refine ⟨ret_bool ?_, Below.refl _ _⟩
    have : l ≠ m := fun e => HL.out (by rw [e])
    simp [this]

theorem number_b {n : Int} {b : Bool} (h : isNum n = b) (w : World) : Calls Tryz.prog 150 #[.int .i64 n] w fun e w' => e = .returned (.bool b) ∧ w' = w :=
  (number_any n w).mono fun _ _ ⟨h1, h2⟩ => ⟨by rw [h1, h], h2.symm⟩

set_option maxHeartbeats 1600000 in
theorem Good_any {S : Nat → Prop} {v : Value} {l : List Rg} (w : World) (hl : rRgs.rel w S [v] l) :
    Calls Tryz.prog 111 #[v] w fun e w' => e = .returned (.bool (isSet l)) ∧ Below w.heap.size w w' := by
  obtain ⟨A, c, rfl, _, _, hn, hE⟩ := rRgs.elems hl
  clear hl
  go_enter Tryz.func111, Tryz.ntmps111
  go_wp2
  go_loopw [7] (fun i wr => ∃ k : Nat, k ≤ l.length ∧ i = .int .i64 k ∧ Hid (isSet l = isSetB (if k = 0 then -1000002 else (l.getD (k - 1) (0, 0)).2) (l.drop k)) ∧
     (0 < k → isNum (l.getD (k - 1) (0, 0)).2 = true) ∧ Below w.heap.size w wr) (fun i _ => l.length - (intOf i).toNat)
  case atStart => exact ⟨0, Nat.zero_le _, rfl, Lib.hid rfl, fun h => absurd h (by omega), Below.refl _ _⟩
  case round =>
    obtain ⟨k, hk, rfl, HS, hp, hbl⟩ := hrel
    by_cases hlt : k < l.length
    · obtain ⟨b, off, lo, up, rfl, _, hb, hx, _, _, h1, h2⟩ := hE.rg hlt
      rw [← hbl.cell (p := ⟨b, _, none⟩) hb] at h1 h2
      have hs := HS.out
      rw [drop_cons hx, isSetB] at hs
      dsimp only at hs
      have hb2 := hbl.alloc hbl.size (.cells #[.int .i64 lo, .int .i64 up] 123)
      have done : ∀ {q : Bool}, isSet l = q → q = false → isSet l = false := fun h h' => h.trans h'
      have hg : l.getD k (0, 0) = (lo, up) := by rw [List.getD_eq_getElem?_getD, hx]; rfl
      have HP : 0 < k → ∃ hi : Int, isNum hi = true ∧ (if k = 0 then -1000002 else (l.getD (k - 1) (0, 0)).2) = hi ∧ wr.cell? ⟨b, off + (k - 1) * 2 + 1, none⟩ = some (.int .i64 hi) := fun h0 => by
        obtain ⟨b', off', lo', up', hA', _, hb', hx', _, _, _, h2'⟩ := hE.rg (i := k - 1) (by omega)
        obtain ⟨rfl, rfl⟩ : b = b' ∧ off = off' := by simpa using hA'
        rw [← hbl.cell (p := ⟨b, _, none⟩) hb] at h2'
        have e : (l.getD (k - 1) (0, 0)) = (lo', up') := by rw [List.getD_eq_getElem?_getD, hx']; rfl
        have h3 := hp h0
        rw [e] at h3
        exact ⟨up', h3, by rw [if_neg (by omega), e], h2'⟩
      have h0 : k = 0 ∨ 0 < k := by omega
      have cases5 : isNum lo = false ∨ (isNum lo = true ∧ isNum up = false) ∨ (isNum lo = true ∧ isNum up = true ∧ up < lo) ∨ (isNum lo = true ∧ isNum up = true ∧ lo ≤ up) := by
        cases isNum lo <;> cases isNum up <;> simp <;> omega
      have HX := Lib.hid hx
      have HG := Lib.hid hg
      clear HS hx hE hg hp
      rcases cases5 with c1 | ⟨c1, c2⟩ | ⟨c1, c2, c3⟩ | ⟨c1, c2, c3⟩
      · have HS : Hid (isSet l = false) := Lib.hid (done hs (by simp [c1]))
        have c2 := c1
        clear hs h0 HP
        go_wp2
        go_quiet ((first | (go_at_call 150; first | with_reducible exact Calls.quiet_of_same (number_b c1 _) | with_reducible exact Calls.quiet_of_same (number_b c2 _))))
        go_wp2
        go_ret
        exact ⟨ret_bool HS.out.symm, drewN_below hb2 _⟩
      · have HS : Hid (isSet l = false) := Lib.hid (done hs (by simp [c2]))
        clear hs h0 HP
        go_wp2
        go_quiet ((first | (go_at_call 150; first | with_reducible exact Calls.quiet_of_same (number_b c1 _) | with_reducible exact Calls.quiet_of_same (number_b c2 _))))
        go_wp2
        go_ret
        exact ⟨ret_bool HS.out.symm, drewN_below hb2 _⟩
      · have HS : Hid (isSet l = false) := Lib.hid (done hs (by simp [show ¬ lo ≤ up by omega]))
        clear hs h0 HP
        go_wp2
        go_quiet ((first | (go_at_call 150; first | with_reducible exact Calls.quiet_of_same (number_b c1 _) | with_reducible exact Calls.quiet_of_same (number_b c2 _))))
        go_wp2
        go_ret
        exact ⟨ret_bool HS.out.symm, drewN_below hb2 _⟩
      · have hu := (isNum_iff up).1 c2
        have hl' := (isNum_iff lo).1 c1
        have HQ : Hid (0 < k + 1 → isNum (l.getD (k + 1 - 1) (0, 0)).2 = true) := Lib.hid fun _ => by rw [Nat.add_sub_cancel, HG.out]; exact c2
        rcases h0 with h0 | h0
        · have HS : Hid (isSet l = isSetB (if k + 1 = 0 then -1000002 else (l.getD (k + 1 - 1) (0, 0)).2) (l.drop (k + 1))) := Lib.hid (by
            rw [hs, if_pos h0, if_neg (by omega), Nat.add_sub_cancel, HG.out]
            have : (-1000001 : Int) < lo := by omega
            simp [c1, c2, c3, this])
          have hd : decide (0 < k) = false := by simp; omega
          have hd3 : decide (up < lo) = false := by simp; omega
          clear hs HP h0
          go_wp2
          go_quiet ((first | (go_at_call 150; first | with_reducible exact Calls.quiet_of_same (number_b c1 _) | with_reducible exact Calls.quiet_of_same (number_b c2 _))))
          go_wp2
          go_roundw
          case rel => exact ⟨k + 1, by omega, by go_num, HS, HQ.out, drewN_below hb2 _⟩
          case measure => simp [intOf]; omega
        · obtain ⟨hi, n1, n2, n3⟩ := HP h0
          have hh := (isNum_iff hi).1 n1
          rw [n2] at hs
          have hd : decide (0 < k) = true := by simp; omega
          have hd3 : decide (up < lo) = false := by simp; omega
          have hi2 : k - 1 < l.length := by omega
          have hw1 : IntKind.i64.wrap ((k : Int) - 1) = ((k - 1 : Nat) : Int) := by rw [IntWalk.i64_in _ (by omega)]; omega
          have hw2 : IntKind.i64.wrap (hi + 1) = hi + 1 := IntWalk.i64_in _ (by omega)
          have n4 : (wr.alloc (.cells #[.int .i64 lo, .int .i64 up] 123)).cell? ⟨b, off + (k - 1) * 2 + 1, none⟩ = some (.int .i64 hi) := by
            rw [World.cell?_alloc_lt _ _ _ (World.block_lt_of_cell? _ _ n3)]; exact n3
          clear n2 n3 HP
          by_cases c4 : hi + 1 < lo
          · have HS : Hid (isSet l = isSetB (if k + 1 = 0 then -1000002 else (l.getD (k + 1 - 1) (0, 0)).2) (l.drop (k + 1))) := Lib.hid (by
              rw [hs, if_neg (by omega), Nat.add_sub_cancel, HG.out]
              simp [c1, c2, c3, c4])
            have hd4 : decide (lo ≤ hi + 1) = false := by simp; omega
            clear hs n1
            go_wp2
            go_quiet ((first | (go_at_call 150; first | with_reducible exact Calls.quiet_of_same (number_b c1 _) | with_reducible exact Calls.quiet_of_same (number_b c2 _))))
            go_wp2
            go_roundw
            case rel => exact ⟨k + 1, by omega, by go_num, HS, HQ.out, drewN_below hb2 _⟩
            case measure => simp [intOf]; omega
          · have HS : Hid (isSet l = false) := Lib.hid (done hs (by simp [c4]))
            have hd4 : decide (lo ≤ hi + 1) = true := by simp; omega
            clear hs n1
            go_wp2
            go_quiet ((first | (go_at_call 150; first | with_reducible exact Calls.quiet_of_same (number_b c1 _) | with_reducible exact Calls.quiet_of_same (number_b c2 _))))
            go_wp2
            go_ret
            exact ⟨ret_bool HS.out.symm, drewN_below hb2 _⟩
    · have hs := HS.out
      rw [List.drop_eq_nil_of_le (by omega), isSetB] at hs
      have HS' := Lib.hid hs
      clear hs hp
      go_wp2
      go_ret
      exact ⟨ret_bool HS'.out.symm, hbl⟩

end Go.Proofs.YtlopccnehgolnabGreatDoor

namespace Go.Proofs.YtlopccnehgolnabGreatDoor
open Go.RowKit Rb

theorem HasFn_any (lo up m : Int) (p : Nat) (w : World) (hp : w.cell? ⟨p, 0, none⟩ = some (.int .i64 m)) :
    Calls Tryz.prog 137 #[.agg #[.int .i64 lo, .int .i64 up], .pointer (some ⟨p, 0, none⟩)] w fun e w' => e = .returned (.bool (inR (lo, up) m)) ∧ Below w.heap.size w w' := by
  have hp2 : (w.alloc (.cells #[.int .i64 lo, .int .i64 up] 123)).cell? ⟨p, 0, none⟩ = some (.int .i64 m) := by
    rw [World.cell?_alloc_lt _ _ _ (World.block_lt_of_cell? _ _ hp)]; exact hp
  clear hp
  by_cases h : lo ≤ m
  all_goals
    go_enter Tryz.func137, Tryz.ntmps137
    go_wp2
    go_ret
    exact ⟨ret_bool (by first | (simp [inR, h]; done) | (simp [inR]; omega)), (Below.refl _ _).alloc (Nat.le_refl _) _⟩

/-- Where the first range lies that has m; none: -1. -/
def findHas (l : List Rg) (m : Int) : Int := match l.findIdx? (fun r => inR r m) with | some i => i | none => -1
theorem findHas_hit {l : List Rg} {m : Int} {k : Nat} {r : Rg} (hk : l[k]? = some r) (h0 : hasL (l.take k) m = false) (h : inR r m = true) : findHas l m = k ∧ hasL l m = true := by
  obtain ⟨hlt, rfl⟩ := List.getElem?_eq_some_iff.1 hk
  have hf : l.findIdx? (fun r => inR r m) = some k := by
    rw [List.findIdx?_eq_some_iff_getElem]
    refine ⟨hlt, h, fun j hj => ?_⟩
    have : ¬ (∃ x, x ∈ l.take k ∧ inR x m = true) := by
      intro ⟨x, hx, hm⟩
      have : hasL (l.take k) m = true := by simp only [hasL, List.any_eq_true]; exact ⟨x, hx, hm⟩
      rw [h0] at this; cases this
    have hj' : l[j]'(by omega) ∈ l.take k := by
      rw [List.mem_take_iff_getElem]
      exact ⟨j, by omega, rfl⟩
    cases hh : inR (l[j]'(by omega)) m
    · simp
    · exact absurd ⟨_, hj', hh⟩ this
  refine ⟨by unfold findHas; rw [hf], ?_⟩
  simp only [hasL, List.any_eq_true]
  exact ⟨_, List.getElem_mem hlt, h⟩
theorem findHas_miss {l : List Rg} {m : Int} (h : hasL l m = false) : findHas l m = -1 := by
  have hf : l.findIdx? (fun r => inR r m) = none := by
    rw [List.findIdx?_eq_none_iff]
    intro x hx
    cases hh : inR x m
    · rfl
    · have : hasL l m = true := by simp only [hasL, List.any_eq_true]; exact ⟨x, hx, hh⟩
      rw [h] at this; cases this
  unfold findHas; rw [hf]

theorem HasIndex_any {S : Nat → Prop} {v : Value} {l : List Rg} (m : Int) (p : Nat) (w : World) (hl : rRgs.rel w S [v] l) (hp : w.cell? ⟨p, 0, none⟩ = some (.int .i64 m)) :
    Calls Tryz.prog 165 #[v, .func (.func 137) #[] #[.pointer (some ⟨p, 0, none⟩)]] w fun e w' => e = .returned (.int .i64 (findHas l m)) ∧ Below w.heap.size w w' := by
  obtain ⟨A, c, rfl, _, _, hn, hE⟩ := rRgs.elems hl
  have hpl := World.block_lt_of_cell? _ _ hp
  clear hl
  go_enter Tryz.func165, Tryz.ntmps165
  go_wp2
  go_loopw [5, 8] (fun _ i wr => ∃ k : Nat, k ≤ l.length ∧ i = .int .i64 k ∧ Hid (hasL (l.take k) m = false) ∧ Below w.heap.size w wr) (fun _ i _ => l.length - (intOf i).toNat)
  case atStart => exact ⟨0, Nat.zero_le _, rfl, Lib.hid (by simp [hasL]), Below.refl _ _⟩
  case round =>
    obtain ⟨k, hk, rfl, HS, hbl⟩ := hrel
    by_cases hlt : k < l.length
    · obtain ⟨b, off, lo, up, rfl, _, hb, hx, _, _, h1, h2⟩ := hE.rg hlt
      rw [← hbl.cell (p := ⟨b, _, none⟩) hb] at h1 h2
      have hp' : wr.cell? ⟨p, 0, none⟩ = some (.int .i64 m) := by rw [hbl.cell (p := ⟨p, 0, none⟩) hpl]; exact hp
      have HX := Lib.hid hx
      have hcon := HasFn_any lo up m p wr hp'
      have HC := Lib.hid hcon
      clear hx hE hp hp' hcon
      have hi : (k : Int) < (l.length : Int) := by omega
      cases hh : inR (lo, up) m
      · have HS' : Hid (hasL (l.take (k + 1)) m = false) := Lib.hid (by rw [take_getElem? HX.out, hasL_snoc, HS.out, hh]; rfl)
        rw [hh] at HC
        clear hh
        go_wp2_with (first | (go_at_call 137; refine HC.out.mono ?_; rintro e w' ⟨rfl, hw⟩))
        go_roundw
        case rel => exact ⟨k + 1, by omega, by go_num, HS', hbl.trans (hw.mono hbl.size)⟩
        case measure => simp [intOf]; omega
      · have HF : Hid (findHas l m = k) := Lib.hid (findHas_hit HX.out HS.out hh).1
        rw [hh] at HC
        clear hh
        go_wp2_with (first | (go_at_call 137; refine HC.out.mono ?_; rintro e w' ⟨rfl, hw⟩))
        go_ret
        exact ⟨ret_int HF.out.symm, hbl.trans (hw.mono hbl.size)⟩
    · go_wp2
      go_ret
      exact ⟨ret_int (findHas_miss (by have := HS.out; rwa [List.take_of_length_le (by omega)] at this)).symm, hbl⟩

theorem findHas_cases (l : List Rg) (m : Int) : decide (0 ≤ findHas l m) = hasL l m := by
  cases hh : hasL l m
  · rw [findHas_miss hh]; rfl
  · unfold findHas
    cases hq : l.findIdx? (fun r => inR r m) with
    | some i => simp
    | none =>
      rw [List.findIdx?_eq_none_iff] at hq
      simp only [hasL, List.any_eq_true] at hh
      obtain ⟨x, hx, hm⟩ := hh
      rw [hq x hx] at hm; cases hm

theorem HasContains_any {S : Nat → Prop} {v : Value} {l : List Rg} (m : Int) (p : Nat) (w : World) (hl : rRgs.rel w S [v] l) (hp : w.cell? ⟨p, 0, none⟩ = some (.int .i64 m)) :
    Calls Tryz.prog 136 #[v, .func (.func 137) #[] #[.pointer (some ⟨p, 0, none⟩)]] w fun e w' => e = .returned (.bool (hasL l m)) ∧ Below w.heap.size w w' := by
  have HI := Lib.hid (HasIndex_any m p w hl hp)
  have HD := Lib.hid (findHas_cases l m)
  clear hl hp
  go_enter Tryz.func136, Tryz.ntmps136
  go_wp2_with (first | (go_at_call 165; refine HI.out.mono ?_; rintro e w' ⟨rfl, hw⟩))
  go_ret
  exact ⟨ret_bool HD.out, hw⟩

theorem Has_any {S : Nat → Prop} {v : Value} {l : List Rg} (m : Int) (w : World) (hl : rRgs.rel w S [v] l) :
    Calls Tryz.prog 90 #[v, .int .i64 m] w fun e w' => e = .returned (.bool (hasL l m)) ∧ Below w.heap.size w w' := by
  have HI := Lib.hid (HasContains_any m w.heap.size (w.alloc (.cells #[.int .i64 m] 3)) (Rd.alloc hl _) (World.cell?_alloc_new _ _ _ _))
  have hb : ∀ w', Below (w.alloc (.cells #[.int .i64 m] 3)).heap.size (w.alloc (.cells #[.int .i64 m] 3)) w' → Below w.heap.size w w' := fun w' h =>
    ((Below.refl _ _).alloc (Nat.le_refl _) _).trans (h.mono (by simp))
  clear hl
  go_enter Tryz.func90, Tryz.ntmps90
  go_wp2_with (first | (go_at_call 136; refine HI.out.mono ?_; rintro e w' ⟨rfl, hw⟩))
  go_ret
  exact ⟨rfl, hb _ hw⟩

end Go.Proofs.YtlopccnehgolnabGreatDoor
