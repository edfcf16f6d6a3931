
/- Contracts of Has, InBox, SameBox, Point, Size of boxes. -/
import Derived.Test.YtlopccnehgolnabBox

namespace Go.Proofs.Ytlopccnehgolnab
open Go.RowKit Rb

def hasBx (b : Bx) (ns : List Int) : Bool := inBx b ns
theorem hasBx_no {b : Bx} {ns : List Int} (h : b.length ≠ ns.length) : inBx b ns = false := by
  cases hh : inBx b ns
  · rfl
  · exact absurd (inBx_len hh) h

set_option maxRecDepth 100000 in
set_option maxHeartbeats 400000 in
theorem BHas_any {S T : Nat → Prop} {v u : Value} {b : Bx} {ns : List Int} (w : World) (hl : rBx.rel w S [v] b) (hn : (rSl rInt).rel w T [u] ns) :
    Calls Try.prog 9 #[v, u] w fun e w' => e = .returned (.bool (inBx b ns)) ∧ Below w.heap.size w w' := by
  have hbl := rSl.lenle hl (by decide)
  have hnl := rSl.lenle hn (by decide)
  obtain ⟨A, c, rfl, _, _, _, hE⟩ := rSl.elems hl
  obtain ⟨B, d, rfl, _, _, _, hF⟩ := rSl.elems hn
  clear hl hn
  by_cases hlen : b.length = ns.length
  case neg =>
    have hne : ((b.length : Int) != (ns.length : Int)) = true := by rw [bne_iff_ne]; omega
    have HF : Hid (inBx b ns = false) := Lib.hid (hasBx_no hlen)
    clear hlen
    go_enter Try.func9, Try.ntmps9
    go_wp2
    go_ret
    exact ⟨ret_bool HF.out.symm, Below.refl _ _⟩
  have hne : ((b.length : Int) != (ns.length : Int)) = false := by rw [bne_eq_false_iff_eq]; omega
  have HL := Lib.hid hlen
  clear hlen
  go_enter Try.func9, Try.ntmps9
  go_wp2
  go_loopw [14] (fun i wr => ∃ k : Nat, k ≤ b.length ∧ i = .int .i64 k ∧ Hid (inBx b ns = inBx (b.drop k) (ns.drop k)) ∧ Below w.heap.size w wr) (fun i _ => b.length - (intOf i).toNat)
  case atStart => exact ⟨0, Nat.zero_le _, rfl, Lib.hid rfl, Below.refl _ _⟩
  case round =>
    obtain ⟨k, hk, rfl, HK, hb⟩ := hrel
    by_cases hlt : k < b.length
    · obtain ⟨p, off, v, s, rfl, _, hp, hx, hs, h1⟩ := hE.sl hlt
      obtain ⟨q, off', n, rfl, _, hq, hx', _, h2⟩ := hF.intAt (show k < ns.length by have := HL.out; omega)
      rw [← hb.cell (p := ⟨p, _, none⟩) hp] at h1
      rw [← hb.cell (p := ⟨q, _, none⟩) hq] at h2
      have hik : (k : Int) < (b.length : Int) := by omega
      have hik2 : (k : Int) < (ns.length : Int) := by have := HL.out; omega
      have HN := Lib.hid (HK.out.trans (inBx_at hx hx'))
      have HC := Lib.hid (Has_any n wr (Rd.below hs hb))
      obtain ⟨A2, c2, rfl, _⟩ := rSl.elems hs
      clear hx hx' hs HK hE hF
      cases hh : hasL s n
      · rw [hh] at HC HN
        have HF : Hid (inBx b ns = false) := Lib.hid (by rw [HN.out]; rfl)
        clear hh
        go_wp2_with (first | (go_at_call 26; refine HC.out.mono ?_; rintro e w1 ⟨rfl, hb1⟩))
        go_ret
        exact ⟨ret_bool HF.out.symm, hb.trans (hb1.mono hb.size)⟩
      · rw [hh] at HC HN
        have HF : Hid (inBx b ns = inBx (b.drop (k + 1)) (ns.drop (k + 1))) := Lib.hid (by rw [HN.out]; rfl)
        clear hh
        go_wp2_with (first | (go_at_call 26; refine HC.out.mono ?_; rintro e w1 ⟨rfl, hb1⟩))
        go_roundw
        case rel => exact ⟨k + 1, by omega, by go_num, HF, hb.trans (hb1.mono hb.size)⟩
        case measure => simp [intOf]; omega
    · have HF : Hid (inBx b ns = true) := Lib.hid (by
        rw [HK.out, List.drop_eq_nil_of_le (by omega), List.drop_eq_nil_of_le (by have := HL.out; omega)]; rfl)
      go_wp2
      go_ret
      exact ⟨ret_bool HF.out.symm, hb⟩

/-- The least input of a box. -/
def pointBx (b : Bx) : List Int := b.filterMap fun s => s.head?.map (·.1)
def headL : List Rg → List Int
  | [] => []
  | r :: _ => [r.1]
theorem pointBx_at {b : Bx} {k : Nat} {s : List Rg} (h : b[k]? = some s) : pointBx (b.take (k + 1)) = pointBx (b.take k) ++ headL s := by
  unfold pointBx
  rw [take_getElem? h, List.filterMap_append]
  cases s <;> rfl
theorem pointBx_len (b : Bx) (k : Nat) : (pointBx (b.take k)).length ≤ k := by
  unfold pointBx
  refine Nat.le_trans (List.length_filterMap_le _ _) ?_
  rw [List.length_take]; omega

set_option maxRecDepth 100000 in
set_option maxHeartbeats 400000 in
theorem Point_any {S : Nat → Prop} {v : Value} {b : Bx} (w : World) (hl : rBx.rel w S [v] b) :
    Calls Try.prog 43 #[v] w fun e w' => ∃ z, e = .returned z ∧ Own rInt 3 w' w.heap.size (fun _ => False) z (pointBx b) ∧ Below w.heap.size w w' := by
  have hbl := rSl.lenle hl (by decide)
  obtain ⟨A, c, rfl, _, _, hbb, hE⟩ := rSl.elems hl
  have hbb' : b.length ≤ 5864062014805 := by simp only [rSl] at hbb; omega
  clear hl hbb
  go_enter Try.func43, Try.ntmps43
  go_wp2
  go_loopw [3, 8] (fun o i wr => ∃ k : Nat, k ≤ b.length ∧ i = .int .i64 k ∧ Own rInt 3 wr w.heap.size (fun _ => False) o (pointBx (b.take k)) ∧ Below w.heap.size w wr) (fun _ i _ => b.length - (intOf i).toNat)
  case atStart => exact ⟨0, Nat.zero_le _, rfl, Own.nil _ _ _ _ _, Below.refl _ _⟩
  case round =>
    obtain ⟨k, hk, rfl, hown, hb⟩ := hrel
    by_cases hlt : k < b.length
    · obtain ⟨p, off, v, s, rfl, _, hp, hx, hs, h1⟩ := hE.sl hlt
      rw [← hb.cell (p := ⟨p, _, none⟩) hp] at h1
      have hik : (k : Int) < (b.length : Int) := by omega
      have hs' := Rd.below hs hb
      have hpt := pointBx_at hx
      have hlen := pointBx_len b k
      obtain ⟨A2, c2, rfl, _, _, hl2, hE2⟩ := rSl.elems hs'
      have hl2' : s.length ≤ 8796093022208 := by simp only [rRg] at hl2; omega
      clear hx hs hs' hl2 hE
      rcases s with _ | ⟨r, t⟩
      · have HP : Hid (pointBx (b.take (k + 1)) = pointBx (b.take k)) := Lib.hid (by rw [hpt]; simp [headL])
        clear hpt
        generalize pointBx (b.take k) = out at *
        go_wp2
        go_roundw
        case rel => exact ⟨k + 1, by omega, by go_num, by rw [HP.out]; exact hown, hb⟩
        case measure => simp [intOf]; omega
      · have HP : Hid (pointBx (b.take (k + 1)) = pointBx (b.take k) ++ [r.1]) := Lib.hid hpt
        obtain ⟨q, off2, lo, up, rfl, _, hq, hx2, hi1, _, g1, _⟩ := hE2.rg (i := 0) (by simp)
        obtain rfl : (lo, up) = r := by simpa using hx2.symm
        rw [Nat.zero_mul, Nat.add_zero] at g1
        generalize hm : ((lo, up) :: t : List Rg).length = m at *
        have hm0 : 0 < m := by rw [← hm]; simp
        have hm1 : (0 : Int) < (m : Int) := by omega
        clear hpt hx2 hE2 hm
        generalize pointBx (b.take k) = out at *
        go_wp2_with (first | (at_builtin; go_must (refine wpList_append_new (R := rInt) (x := lo) el_I rfl (.tmp 15) (.tmp 20) rfl rfl hown [.int .i64 lo] rfl rfl (fun _ => False) ⟨rfl, hi1⟩ (fun _ h => h.elim) ?_ hb.size ?_; (((try simp only [rInt]) <;> omega)); intro v9 w9 hown9 hb9 _ _)))
        go_roundw
        case rel => exact ⟨k + 1, by omega, by go_num, by rw [HP.out]; exact hown9, hb.trans hb9⟩
        case measure => simp [intOf]; omega
    · obtain ⟨z1, z2, rfl⟩ := hown.value
      have he : b.take k = b := List.take_of_length_le (by omega)
      have HE := Lib.hid (show pointBx b = pointBx (b.take k) by rw [he])
      clear he
      go_wp2
      go_ret
      exact ⟨_, rfl, by rw [HE.out]; exact hown, hb⟩

end Go.Proofs.Ytlopccnehgolnab
