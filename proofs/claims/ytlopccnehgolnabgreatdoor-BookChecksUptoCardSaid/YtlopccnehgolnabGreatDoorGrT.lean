/- What a table says, by the reference's road: least, greatest and sum of the outs that hold. Plain, no program. Contracts of the reference's CellHolds and SameNumbers. The contract of clipped. -/
import Derived.Test.YtlopccnehgolnabGreatDoorGrE
import Derived.BigQuiet
import Derived.Test.YtlopccnehgolnabGreatDoorGrF
namespace Go.Proofs.YtlopccnehgolnabGreatDoor

structure Acc3 where
  lo : Int
  hi : Int
  sm : Int
def acc3 (a : Acc3) (x : Int) : Acc3 := ⟨min a.lo x, max a.hi x, a.sm + x⟩
def acc3To (l : List Int) : Acc3 := l.foldl acc3 ⟨l.headD 0, l.headD 0, 0⟩
def pickO (pol o : Int) (a : Acc3) : Int := if pol = 4 then a.lo else if pol = 5 then a.hi else if pol = 6 then a.sm else o
def sayR (pol : Int) (l : List Int) : Int × Bool × Int :=
  if (pol = 1 ∧ 1 < l.length) ∨ (pol = 2 ∧ (acc3To l).lo ≠ (acc3To l).hi) then (0, false, 4) else (pickO pol (l.headD 0) (acc3To l), true, 0)

theorem acc3_lo (l : List Int) (a : Acc3) : (l.foldl acc3 a).lo = l.foldl min a.lo := by
  induction l generalizing a with
  | nil => rfl
  | cons x l ih => rw [List.foldl_cons, ih]; rfl
theorem acc3_hi (l : List Int) (a : Acc3) : (l.foldl acc3 a).hi = l.foldl max a.hi := by
  induction l generalizing a with
  | nil => rfl
  | cons x l ih => rw [List.foldl_cons, ih]; rfl
theorem acc3_sm (l : List Int) (a : Acc3) : (l.foldl acc3 a).sm = l.foldl (· + ·) a.sm := by
  induction l generalizing a with
  | nil => rfl
  | cons x l ih => rw [List.foldl_cons, ih]; rfl
theorem min_le (l : List Int) (a : Int) : l.foldl min a ≤ a := by
  induction l generalizing a with
  | nil => exact Int.le_refl _
  | cons x l ih => rw [List.foldl_cons]; have := ih (min a x); omega
theorem max_ge (l : List Int) (a : Int) : a ≤ l.foldl max a := by
  induction l generalizing a with
  | nil => exact Int.le_refl _
  | cons x l ih => rw [List.foldl_cons]; have := ih (max a x); omega

theorem loop4 (l : List Int) (n : Int) : sayLoop 4 n l = (l.foldl min n, true, 0) := by
  induction l generalizing n with
  | nil => rfl
  | cons x l ih => rw [sayLoop]; simp [ih]
theorem loop5 (l : List Int) (n : Int) : sayLoop 5 n l = (l.foldl max n, true, 0) := by
  induction l generalizing n with
  | nil => rfl
  | cons x l ih => rw [sayLoop]; simp [ih]
theorem loop6 (l : List Int) (n : Int) : sayLoop 6 n l = (l.foldl (· + ·) n, true, 0) := by
  induction l generalizing n with
  | nil => rfl
  | cons x l ih => rw [sayLoop]; simp [ih]
theorem loop3 (l : List Int) (n : Int) : sayLoop 3 n l = (n, true, 0) := by
  induction l generalizing n with
  | nil => rfl
  | cons x l ih => rw [sayLoop]; simp [ih]
theorem loop2 (l : List Int) (n : Int) : sayLoop 2 n l = if l.foldl min n ≠ l.foldl max n then (0, false, 4) else (n, true, 0) := by
  induction l generalizing n with
  | nil => simp [sayLoop]
  | cons x l ih =>
    rw [sayLoop]
    simp only [List.foldl_cons]
    by_cases h : x = n
    · subst h
      simp [ih]
    · have h1 := min_le l (min n x)
      have h2 := max_ge l (max n x)
      have h3 : l.foldl min (min n x) ≠ l.foldl max (max n x) := by omega
      simp [h, h3]

theorem sayR_eq {pol : Int} (h1 : 1 ≤ pol) (h6 : pol ≤ 6) (o : Int) (l : List Int) : sayLoop pol o l = sayR pol (o :: l) := by
  have hlo : (acc3To (o :: l)).lo = l.foldl min o := by unfold acc3To; rw [acc3_lo]; simp
  have hhi : (acc3To (o :: l)).hi = l.foldl max o := by unfold acc3To; rw [acc3_hi]; simp
  have hsm : (acc3To (o :: l)).sm = l.foldl (· + ·) o := by unfold acc3To; rw [acc3_sm]; simp
  unfold sayR pickO
  rw [hlo, hhi, hsm]
  have hp : pol = 1 ∨ pol = 2 ∨ pol = 3 ∨ pol = 4 ∨ pol = 5 ∨ pol = 6 := by omega
  rcases hp with rfl | rfl | rfl | rfl | rfl | rfl
  · cases l with
    | nil => simp [sayLoop]
    | cons x l => rw [sayLoop]; simp
  · rw [loop2]; simp
  · rw [loop3]; simp
  · rw [loop4]; simp
  · rw [loop5]; simp
  · rw [loop6]; simp

theorem acc3_snoc {l : List Int} {k : Nat} {x : Int} (h : l[k]? = some x) (a : Acc3) : (l.take (k + 1)).foldl acc3 a = acc3 ((l.take k).foldl acc3 a) x := by
  rw [List.take_add_one, h, Option.toList_some, List.foldl_append]
  rfl

end Go.Proofs.YtlopccnehgolnabGreatDoor

namespace Go.Proofs.YtlopccnehgolnabGreatDoor
open Go.RowKit Rb

set_option maxRecDepth 100000 in
set_option maxHeartbeats 400000 in
theorem CellHolds_any {S : Nat → Prop} {v : Value} {c : Cl} (n : Int) (w : World) (hl : (rSl rRg).rel w S [v] c.rs) :
    Calls Tryz.prog 121 #[.agg #[.bool c.no, v], .int .i64 n] w fun e w' => e = .returned (.bool (cellHolds c n)) ∧ Below w.heap.size w w' := by
  obtain ⟨no, rs⟩ := c
  dsimp only at *
  have hv : cellHolds ⟨no, rs⟩ n = (decide (rs.length = 0) || (hasL rs n != no)) := by
    show (decide (rs.length = 0) && !no || (hasL rs n != no)) = _
    cases rs with
    | nil => cases no <;> rfl
    | cons r rs => simp
  obtain ⟨A, d, rfl, _⟩ := rSl.elems hl
  have hl2 := fun o => Rd.alloc hl o
  have hC := fun o w' hb => InSet_any n w' (Rd.below (hl2 o) hb)
  clear hl hl2
  generalize rs.length = m at *
  generalize hasL rs n = x at *
  have HC := Lib.hid hC
  have HV := Lib.hid hv
  clear hv hC
  rcases Nat.eq_zero_or_pos m with h0 | h0
  · go_enter Tryz.func121, Tryz.ntmps121
    go_wp2
    go_ret
    exact ⟨ret_bool (by rw [HV.out]; simp [h0]), (Below.refl _ _).alloc (Nat.le_refl _) _⟩
  · have h1 : ((m : Int) == 0) = false := by rw [beq_eq_false_iff_ne]; omega
    go_enter Tryz.func121, Tryz.ntmps121
    go_wp2
    refine wp_region_quiet_below (by kernel_rfl) (by kernel_rfl) ?_
    repeat (go_big_quiet_step (exact Calls.inBelow (HC.out _) _ _))
    refine wpQuiet_nil ?_
    intro _ hw'
    obtain ⟨⟨dq, osq⟩, hw''⟩ := hw'
    subst hw''
    go_wp2
    go_ret
    exact ⟨ret_bool (by rw [HV.out, decide_eq_false (show ¬ m = 0 by omega), Bool.false_or]; cases x <;> cases no <;> rfl), ((Below.refl _ _).alloc (Nat.le_refl _) _).trans ((below_regrown _ _ _).mono (by simp))⟩

set_option maxRecDepth 100000 in
set_option maxHeartbeats 400000 in
theorem SameNumbers_any {S T : Nat → Prop} {v u : Value} {a b : List Int} (w : World) (hl : (rSl rInt).rel w S [v] a) (hm : (rSl rInt).rel w T [u] b) :
    Calls Tryz.prog 23 #[v, u] w fun e w' => e = .returned (.bool (decide (a = b))) ∧ Below w.heap.size w w' := by
  obtain ⟨A, c, rfl, _, _, hba, hE⟩ := rSl.elems hl
  obtain ⟨B, d, rfl, _, _, hbb, hF⟩ := rSl.elems hm
  have hal : a.length ≤ 17592186044416 := by simp only [rInt] at hba; omega
  have hbl : b.length ≤ 17592186044416 := by simp only [rInt] at hbb; omega
  clear hl hm hba hbb
  by_cases hlen : a.length = b.length
  case neg =>
    have hne : ((a.length : Int) != (b.length : Int)) = true := by rw [bne_iff_ne]; omega
    have HF : Hid (decide (a = b) = false) := Lib.hid (decide_eq_false fun e => hlen (by rw [e]))
    clear hlen
    go_enter Tryz.func23, Tryz.ntmps23
    go_wp2
    go_ret
    exact ⟨ret_bool HF.out.symm, Below.refl _ _⟩
  have hne : ((a.length : Int) != (b.length : Int)) = false := by rw [bne_eq_false_iff_eq]; omega
  have HL := Lib.hid hlen
  clear hlen
  go_enter Tryz.func23, Tryz.ntmps23
  go_wp2
  clear hne
  go_loopw [5, 13] (fun _ i wr => ∃ k : Nat, k ≤ a.length ∧ i = .int .i64 k ∧ Hid (a.take k = b.take k) ∧ Below w.heap.size w wr) (fun _ i _ => a.length - (intOf i).toNat)
  case atStart => exact ⟨0, Nat.zero_le _, rfl, Lib.hid rfl, Below.refl _ _⟩
  case round =>
    obtain ⟨k, hk, rfl, HT, hb⟩ := hrel
    by_cases hlt : k < a.length
    · have hlt2 : k < b.length := by have := HL.out; omega
      obtain ⟨p, off, x, rfl, _, hp, hx, hxi, g1⟩ := hE.intAt hlt
      obtain ⟨q, off', y, rfl, _, hq, hy, hyi, g2⟩ := hF.intAt hlt2
      rw [← hb.cell (p := ⟨p, _, none⟩) hp] at g1
      rw [← hb.cell (p := ⟨q, _, none⟩) hq] at g2
      have hik : (k : Int) < (a.length : Int) := by omega
      have hik2 : (k : Int) < (b.length : Int) := by omega
      have HX := Lib.hid hx
      have HY := Lib.hid hy
      clear hx hy hE hF
      by_cases h1 : x = y
      · have HT' : Hid (a.take (k + 1) = b.take (k + 1)) := Lib.hid (by rw [take_getElem? HX.out, take_getElem? HY.out, HT.out, h1])
        have hxy : (x != y) = false := by rw [bne_eq_false_iff_eq]; exact h1
        clear h1
        go_wp2
        go_quiet (fail)
        go_wp2
        go_roundw
        case rel => exact ⟨k + 1, by omega, by go_num, HT', drewN_below hb _⟩
        case measure => simp [intOf]; omega
      · have HF : Hid (decide (a = b) = false) := Lib.hid (decide_eq_false fun e => h1 (by have := HX.out; rw [e, HY.out] at this; exact (Option.some.inj this).symm))
        have hxy : (x != y) = true := by rw [bne_iff_ne]; exact h1
        clear h1
        go_wp2
        go_quiet (fail)
        go_wp2
        go_ret
        exact ⟨ret_bool HF.out.symm, drewN_below hb _⟩
    · have HF : Hid (decide (a = b) = true) := Lib.hid (decide_eq_true (by
        have h1 := HT.out
        have h2 := HL.out
        rwa [List.take_of_length_le (by omega), List.take_of_length_le (by omega)] at h1))
      go_wp2
      go_ret
      exact ⟨ret_bool HF.out.symm, hb⟩

end Go.Proofs.YtlopccnehgolnabGreatDoor

namespace Go.Proofs.YtlopccnehgolnabGreatDoor
open Go.RowKit Rb

def clipV (lo hi n : Int) : Int := max lo (min n hi)
/-- Numbers brought into domains, one for each domain. -/
def clipTo (ns : List Int) (l : List Dm) : List Int := (List.range l.length).map fun i => match l[i]? with | some d => clipV d.lo d.hi ((ns[i]?).getD 0) | none => 0
theorem clipTo_take {ns : List Int} {l : List Dm} {k : Nat} {x : Dm} (h : l[k]? = some x) : clipTo ns (l.take (k + 1)) = clipTo ns (l.take k) ++ [clipV x.lo x.hi ((ns[k]?).getD 0)] := by
  have hk := (List.getElem?_eq_some_iff.1 h).1
  unfold clipTo
  rw [List.length_take, List.length_take, Nat.min_eq_left (by omega), Nat.min_eq_left (by omega), List.range_succ, List.map_append]
  congr 1
  · apply List.map_congr_left
    intro i hi
    rw [List.mem_range] at hi
    rw [List.getElem?_take, List.getElem?_take, if_pos (by omega), if_pos hi]
  · simp [h]

end Go.Proofs.YtlopccnehgolnabGreatDoor
