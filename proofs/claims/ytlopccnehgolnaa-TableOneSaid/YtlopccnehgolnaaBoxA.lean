/- Contracts of Has, InBox, SameBox, Point, Size of boxes. -/
import Derived.Test.YtlopccnehgolnaaBox

namespace Go.Proofs.Ytlopccnehgolnaa
open Go.RowKit Rb

def hasBx (b : Bx) (ns : List Int) : Bool := inBx b ns
theorem hasBx_no {b : Bx} {ns : List Int} (h : b.length ≠ ns.length) : inBx b ns = false := by
  cases hh : inBx b ns
  · rfl
  · exact absurd (inBx_len hh) h

set_option maxRecDepth 100000 in
set_option maxHeartbeats 400000 in
theorem BHas_any {S T : Nat → Prop} {v u : Value} {b : Bx} {ns : List Int} (w : World) (hl : rBx.rel w S [v] b) (hn : (rSl rInt).rel w T [u] ns) :
    Calls Try.prog 40 #[v, u] w fun e w' => e = .returned (.bool (inBx b ns)) ∧ Below w.heap.size w w' := by
  have hbl := rSl.lenle hl (by decide)
  have hnl := rSl.lenle hn (by decide)
  obtain ⟨A, c, rfl, _, _, _, hE⟩ := rSl.elems hl
  obtain ⟨B, d, rfl, _, _, _, hF⟩ := rSl.elems hn
  clear hl hn
  by_cases hlen : b.length = ns.length
  case neg =>
    have hne : ((b.length : Int) != (ns.length : Int)) = true := by rw [bne_iff_ne]; omega
    have HF : Hid (inBx b ns = false) := Lib.hid (hasBx_no hlen)
    clear hlen
    go_enter Try.func40, Try.ntmps40
    go_wp2
    go_ret
    exact ⟨ret_bool HF.out.symm, Below.refl _ _⟩
  have hne : ((b.length : Int) != (ns.length : Int)) = false := by rw [bne_eq_false_iff_eq]; omega
  have HL := Lib.hid hlen
  clear hlen
  go_enter Try.func40, Try.ntmps40
  go_wp2
  go_loopw [14] (fun i wr => ∃ k : Nat, k ≤ b.length ∧ i = .int .i64 k ∧ Hid (inBx b ns = inBx (b.drop k) (ns.drop k)) ∧ Below w.heap.size w wr) (fun i _ => b.length - (intOf i).toNat)
  case atStart => exact ⟨0, Nat.zero_le _, rfl, Lib.hid rfl, Below.refl _ _⟩
  case round =>
    obtain ⟨k, hk, rfl, HK, hb⟩ := hrel
    by_cases hlt : k < b.length
    · obtain ⟨p, off, v, s, rfl, _, hp, hx, hs, h1⟩ := hE.sl hlt
      obtain ⟨q, off', n, rfl, _, hq, hx', _, h2⟩ := hF.intAt (show k < ns.length by have := HL.out; omega)
      rw [← hb.cell (p := ⟨p, _, none⟩) hp] at h1
      rw [← hb.cell (p := ⟨q, _, none⟩) hq] at h2
      have hik : (k : Int) < (b.length : Int) := by omega
      have hik2 : (k : Int) < (ns.length : Int) := by have := HL.out; omega
      have HN := Lib.hid (HK.out.trans (inBx_at hx hx'))
      have HC := Lib.hid (Has_any n wr (Rd.below hs hb))
      obtain ⟨A2, c2, rfl, _⟩ := rSl.elems hs
      clear hx hx' hs HK hE hF
      cases hh : hasL s n
      · rw [hh] at HC HN
        have HF : Hid (inBx b ns = false) := Lib.hid (by rw [HN.out]; rfl)
        clear hh
        go_wp2_with (first | (go_at_call 23; refine HC.out.mono ?_; rintro e w1 ⟨rfl, hb1⟩))
        go_ret
        exact ⟨ret_bool HF.out.symm, hb.trans (hb1.mono hb.size)⟩
      · rw [hh] at HC HN
        have HF : Hid (inBx b ns = inBx (b.drop (k + 1)) (ns.drop (k + 1))) := Lib.hid (by rw [HN.out]; rfl)
        clear hh
        go_wp2_with (first | (go_at_call 23; refine HC.out.mono ?_; rintro e w1 ⟨rfl, hb1⟩))
        go_roundw
        case rel => exact ⟨k + 1, by omega, by go_num, HF, hb.trans (hb1.mono hb.size)⟩
        case measure => simp [intOf]; omega
    · have HF : Hid (inBx b ns = true) := Lib.hid (by
        rw [HK.out, List.drop_eq_nil_of_le (by omega), List.drop_eq_nil_of_le (by have := HL.out; omega)]; rfl)
      go_wp2
      go_ret
      exact ⟨ret_bool HF.out.symm, hb⟩

set_option maxRecDepth 100000 in
set_option maxHeartbeats 400000 in
theorem InBox_any {S T : Nat → Prop} {v u : Value} {b : Bx} {ns : List Int} (w : World) (hl : rBx.rel w S [v] b) (hn : (rSl rInt).rel w T [u] ns) :
    Calls Try.prog 41 #[v, u] w fun e w' => e = .returned (.bool (inBx b ns)) ∧ Below w.heap.size w w' := by
  have hbl := rSl.lenle hl (by decide)
  have hnl := rSl.lenle hn (by decide)
  obtain ⟨A, c, rfl, _, _, _, hE⟩ := rSl.elems hl
  obtain ⟨B, d, rfl, _, _, _, hF⟩ := rSl.elems hn
  clear hl hn
  by_cases hlen : b.length = ns.length
  case neg =>
    have hne : ((b.length : Int) == (ns.length : Int)) = false := by rw [beq_eq_false_iff_ne]; omega
    have HF : Hid (inBx b ns = false) := Lib.hid (hasBx_no hlen)
    clear hlen
    go_enter Try.func41, Try.ntmps41
    go_wp2
    go_loopw [5, 6] (fun o i wr => o = .bool false ∧ i = .int .i64 0 ∧ Below w.heap.size w wr) (fun _ _ _ => 0)
    case atStart => exact ⟨rfl, rfl, Below.refl _ _⟩
    case round =>
      obtain ⟨rfl, rfl, hb⟩ := hrel
      go_wp2
      go_ret
      exact ⟨ret_bool HF.out.symm, hb⟩
  have hne : ((b.length : Int) == (ns.length : Int)) = true := by rw [beq_iff_eq]; omega
  have HL := Lib.hid hlen
  clear hlen
  go_enter Try.func41, Try.ntmps41
  go_wp2
  go_loopw [5, 6] (fun o i wr => ∃ (k : Nat) (ok : Bool), k ≤ ns.length ∧ i = .int .i64 k ∧ o = .bool ok ∧ Hid (inBx b ns = (ok && inBx (b.drop k) (ns.drop k))) ∧ Below w.heap.size w wr) (fun _ i _ => ns.length - (intOf i).toNat)
  case atStart => exact ⟨0, true, Nat.zero_le _, rfl, rfl, Lib.hid rfl, Below.refl _ _⟩
  case round =>
    obtain ⟨k, ok, hk, rfl, rfl, HK, hb⟩ := hrel
    cases ok
    · have HF : Hid (inBx b ns = false) := Lib.hid (by rw [HK.out]; rfl)
      go_wp2
      go_ret
      exact ⟨ret_bool HF.out.symm, hb⟩
    by_cases hlt : k < ns.length
    · obtain ⟨p, off, v, s, rfl, _, hp, hx, hs, h1⟩ := hE.sl (show k < b.length by have := HL.out; omega)
      obtain ⟨q, off', n, rfl, _, hq, hx', _, h2⟩ := hF.intAt hlt
      rw [← hb.cell (p := ⟨p, _, none⟩) hp] at h1
      rw [← hb.cell (p := ⟨q, _, none⟩) hq] at h2
      have hp2 : p < wr.heap.size := Nat.lt_of_lt_of_le hp hb.size
      have hq2 : q < wr.heap.size := Nat.lt_of_lt_of_le hq hb.size
      have hik : (k : Int) < (b.length : Int) := by have := HL.out; omega
      have hik2 : (k : Int) < (ns.length : Int) := by omega
      have HN : Hid (inBx b ns = (hasL s n && inBx (b.drop (k + 1)) (ns.drop (k + 1)))) := Lib.hid (by rw [HK.out, Bool.true_and]; exact inBx_at hx hx')
      have hs' := Rd.below hs hb
      have HC := Lib.hid fun w' hb' => InSet_any n w' (Rd.below hs' hb')
      obtain ⟨A2, c2, rfl, _⟩ := rSl.elems hs
      generalize hasL s n = x at *
      clear hx hx' hs hs' HK hE hF
      go_wp2
      refine wp_region_quiet_below (by kernel_rfl) (by kernel_rfl) ?_
      repeat (go_big_quiet_step (exact Calls.inBelow HC.out _ _))
      refine wpQuiet_nil ?_
      intro _ hw'
      obtain ⟨⟨dq, osq⟩, hw''⟩ := hw'
      subst hw''
      go_wp2
      go_roundw
      case rel => exact ⟨k + 1, x, by omega, by go_num, rfl, HN, hb.trans ((below_regrown _ _ _).mono hb.size)⟩
      case measure => simp [intOf]; omega
    · have HF : Hid (inBx b ns = true) := Lib.hid (by
        rw [HK.out, List.drop_eq_nil_of_le (by have := HL.out; omega), List.drop_eq_nil_of_le (by omega)]; rfl)
      go_wp2
      go_ret
      exact ⟨ret_bool HF.out.symm, hb⟩

set_option maxRecDepth 100000 in
set_option maxHeartbeats 400000 in
theorem SameBox_any {S T : Nat → Prop} {v u : Value} {b c : Bx} (w : World) (hl : rBx.rel w S [v] b) (hn : rBx.rel w T [u] c) :
    Calls Try.prog 37 #[v, u] w fun e w' => e = .returned (.bool (decide (b = c))) ∧ Below w.heap.size w w' := by
  have hbl := rSl.lenle hl (by decide)
  have hnl := rSl.lenle hn (by decide)
  obtain ⟨A, c1, rfl, _, _, _, hE⟩ := rSl.elems hl
  obtain ⟨B, d1, rfl, _, _, _, hF⟩ := rSl.elems hn
  clear hl hn
  by_cases hlen : b.length = c.length
  case neg =>
    have hne : ((b.length : Int) != (c.length : Int)) = true := by rw [bne_iff_ne]; omega
    have HF : Hid (decide (b = c) = false) := Lib.hid (by simp; intro h; exact hlen (by rw [h]))
    clear hlen
    go_enter Try.func37, Try.ntmps37
    go_wp2
    go_ret
    exact ⟨ret_bool HF.out.symm, Below.refl _ _⟩
  have hne : ((b.length : Int) != (c.length : Int)) = false := by rw [bne_eq_false_iff_eq]; omega
  have HL := Lib.hid hlen
  clear hlen
  go_enter Try.func37, Try.ntmps37
  go_wp2
  go_loopw [13] (fun i wr => ∃ k : Nat, k ≤ b.length ∧ i = .int .i64 k ∧ Hid (b.take k = c.take k) ∧ Below w.heap.size w wr) (fun i _ => b.length - (intOf i).toNat)
  case atStart => exact ⟨0, Nat.zero_le _, rfl, Lib.hid rfl, Below.refl _ _⟩
  case round =>
    obtain ⟨k, hk, rfl, HK, hb⟩ := hrel
    by_cases hlt : k < b.length
    · obtain ⟨p, off, v, s, rfl, _, hp, hx, hs, h1⟩ := hE.sl hlt
      obtain ⟨q, off', v', s', rfl, _, hq, hx', hs', h2⟩ := hF.sl (show k < c.length by have := HL.out; omega)
      rw [← hb.cell (p := ⟨p, _, none⟩) hp] at h1
      rw [← hb.cell (p := ⟨q, _, none⟩) hq] at h2
      have hp2 : p < wr.heap.size := Nat.lt_of_lt_of_le hp hb.size
      have hq2 : q < wr.heap.size := Nat.lt_of_lt_of_le hq hb.size
      have hik : (k : Int) < (b.length : Int) := by omega
      have hik2 : (k : Int) < (c.length : Int) := by have := HL.out; omega
      have hsb := Rd.below hs hb
      have hsb' := Rd.below hs' hb
      have HC := Lib.hid fun w' hb' => SameSet_any w' (Rd.below hsb hb') (Rd.below hsb' hb')
      have HX := Lib.hid (And.intro hx hx')
      obtain ⟨A2, c2, rfl, _⟩ := rSl.elems hs
      obtain ⟨A3, c3, rfl, _⟩ := rSl.elems hs'
      clear hx hx' hs hs' hsb hsb' hE hF
      by_cases hh : s = s'
      · have HS : Hid (b.take (k + 1) = c.take (k + 1)) := Lib.hid (by rw [take_getElem? HX.out.1, take_getElem? HX.out.2, HK.out, hh])
        rw [show decide (s = s') = true by simp [hh]] at HC
        clear hh
        go_wp2
        refine wp_region_quiet_below (by kernel_rfl) (by kernel_rfl) ?_
        repeat (go_big_quiet_step (exact Calls.inBelow HC.out _ _))
        refine wpQuiet_nil ?_
        intro _ hw'
        obtain ⟨⟨dq, osq⟩, hw''⟩ := hw'
        subst hw''
        go_wp2
        go_roundw
        case rel => exact ⟨k + 1, by omega, by go_num, HS, hb.trans ((below_regrown _ _ _).mono hb.size)⟩
        case measure => simp [intOf]; omega
      · have HF : Hid (decide (b = c) = false) := Lib.hid (by
          simp; intro h
          have h3 := HX.out.1
          rw [h, HX.out.2] at h3
          exact hh (Option.some.inj h3).symm)
        rw [show decide (s = s') = false by simp [hh]] at HC
        clear hh
        go_wp2
        refine wp_region_quiet_below (by kernel_rfl) (by kernel_rfl) ?_
        repeat (go_big_quiet_step (exact Calls.inBelow HC.out _ _))
        refine wpQuiet_nil ?_
        intro _ hw'
        obtain ⟨⟨dq, osq⟩, hw''⟩ := hw'
        subst hw''
        go_wp2
        go_ret
        exact ⟨ret_bool HF.out.symm, hb.trans ((below_regrown _ _ _).mono hb.size)⟩
    · have HF : Hid (decide (b = c) = true) := Lib.hid (by
        have h1 := HK.out
        have h2 := HL.out
        rw [List.take_of_length_le (by omega), List.take_of_length_le (by omega)] at h1
        simp [h1])
      go_wp2
      go_ret
      exact ⟨ret_bool HF.out.symm, hb⟩

/-- The least input of a box. -/
def pointBx (b : Bx) : List Int := b.filterMap fun s => s.head?.map (·.1)
def headL : List Rg → List Int
  | [] => []
  | r :: _ => [r.1]
theorem pointBx_at {b : Bx} {k : Nat} {s : List Rg} (h : b[k]? = some s) : pointBx (b.take (k + 1)) = pointBx (b.take k) ++ headL s := by
  unfold pointBx
  rw [take_getElem? h, List.filterMap_append]
  cases s <;> rfl
theorem pointBx_len (b : Bx) (k : Nat) : (pointBx (b.take k)).length ≤ k := by
  unfold pointBx
  refine Nat.le_trans (List.length_filterMap_le _ _) ?_
  rw [List.length_take]; omega

set_option maxRecDepth 100000 in
set_option maxHeartbeats 400000 in
theorem Point_any {S : Nat → Prop} {v : Value} {b : Bx} (w : World) (hl : rBx.rel w S [v] b) :
    Calls Try.prog 49 #[v] w fun e w' => ∃ z, e = .returned z ∧ Own rInt 3 w' w.heap.size (fun _ => False) z (pointBx b) ∧ Below w.heap.size w w' := by
  have hbl := rSl.lenle hl (by decide)
  obtain ⟨A, c, rfl, _, _, hbb, hE⟩ := rSl.elems hl
  have hbb' : b.length ≤ 5864062014805 := by simp only [rSl] at hbb; omega
  clear hl hbb
  go_enter Try.func49, Try.ntmps49
  go_wp2
  go_loopw [3, 8] (fun o i wr => ∃ k : Nat, k ≤ b.length ∧ i = .int .i64 k ∧ Own rInt 3 wr w.heap.size (fun _ => False) o (pointBx (b.take k)) ∧ Below w.heap.size w wr) (fun _ i _ => b.length - (intOf i).toNat)
  case atStart => exact ⟨0, Nat.zero_le _, rfl, Own.nil _ _ _ _ _, Below.refl _ _⟩
  case round =>
    obtain ⟨k, hk, rfl, hown, hb⟩ := hrel
    by_cases hlt : k < b.length
    · obtain ⟨p, off, v, s, rfl, _, hp, hx, hs, h1⟩ := hE.sl hlt
      rw [← hb.cell (p := ⟨p, _, none⟩) hp] at h1
      have hik : (k : Int) < (b.length : Int) := by omega
      have hs' := Rd.below hs hb
      have hpt := pointBx_at hx
      have hlen := pointBx_len b k
      obtain ⟨A2, c2, rfl, _, _, hl2, hE2⟩ := rSl.elems hs'
      have hl2' : s.length ≤ 8796093022208 := by simp only [rRg] at hl2; omega
      clear hx hs hs' hl2 hE
      rcases s with _ | ⟨r, t⟩
      · have HP : Hid (pointBx (b.take (k + 1)) = pointBx (b.take k)) := Lib.hid (by rw [hpt]; simp [headL])
        clear hpt
        generalize pointBx (b.take k) = out at *
        go_wp2
        go_roundw
        case rel => exact ⟨k + 1, by omega, by go_num, by rw [HP.out]; exact hown, hb⟩
        case measure => simp [intOf]; omega
      · have HP : Hid (pointBx (b.take (k + 1)) = pointBx (b.take k) ++ [r.1]) := Lib.hid hpt
        obtain ⟨q, off2, lo, up, rfl, _, hq, hx2, hi1, _, g1, _⟩ := hE2.rg (i := 0) (by simp)
        obtain rfl : (lo, up) = r := by simpa using hx2.symm
        rw [Nat.zero_mul, Nat.add_zero] at g1
        generalize hm : ((lo, up) :: t : List Rg).length = m at *
        have hm0 : 0 < m := by rw [← hm]; simp
        have hm1 : (0 : Int) < (m : Int) := by omega
        clear hpt hx2 hE2 hm
        generalize pointBx (b.take k) = out at *
        go_wp2_with (first | (at_builtin; go_must (refine wpList_append_new (R := rInt) (x := lo) el_I rfl (.tmp 15) (.tmp 20) rfl rfl hown [.int .i64 lo] rfl rfl (fun _ => False) ⟨rfl, hi1⟩ (fun _ h => h.elim) ?_ hb.size ?_; (((try simp only [rInt]) <;> omega)); intro v9 w9 hown9 hb9 _ _)))
        go_roundw
        case rel => exact ⟨k + 1, by omega, by go_num, by rw [HP.out]; exact hown9, hb.trans hb9⟩
        case measure => simp [intOf]; omega
    · obtain ⟨z1, z2, rfl⟩ := hown.value
      have he : b.take k = b := List.take_of_length_le (by omega)
      have HE := Lib.hid (show pointBx b = pointBx (b.take k) by rw [he])
      clear he
      go_wp2
      go_ret
      exact ⟨_, rfl, by rw [HE.out]; exact hown, hb⟩

end Go.Proofs.Ytlopccnehgolnaa
