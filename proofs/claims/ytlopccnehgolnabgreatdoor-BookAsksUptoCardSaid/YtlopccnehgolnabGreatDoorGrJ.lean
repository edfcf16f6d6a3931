/- Contracts of Has, InBox, SameBox, Point, Size of boxes. The contracts of Compare and least: the least input of boxes. -/
import Derived.Test.YtlopccnehgolnabGreatDoorGrG

namespace Go.Proofs.YtlopccnehgolnabGreatDoor
open Go.RowKit Rb

def hasBx (b : Bx) (ns : List Int) : Bool := inBx b ns
theorem hasBx_no {b : Bx} {ns : List Int} (h : b.length ≠ ns.length) : inBx b ns = false := by
  cases hh : inBx b ns
  · rfl
  · exact absurd (inBx_len hh) h

set_option maxRecDepth 100000 in
set_option maxHeartbeats 400000 in
theorem SameBox_any {S T : Nat → Prop} {v u : Value} {b c : Bx} (w : World) (hl : rBx.rel w S [v] b) (hn : rBx.rel w T [u] c) :
    Calls Tryz.prog 25 #[v, u] w fun e w' => e = .returned (.bool (decide (b = c))) ∧ Below w.heap.size w w' := by
  have hbl := rSl.lenle hl (by decide)
  have hnl := rSl.lenle hn (by decide)
  obtain ⟨A, c1, rfl, _, _, _, hE⟩ := rSl.elems hl
  obtain ⟨B, d1, rfl, _, _, _, hF⟩ := rSl.elems hn
  clear hl hn
  by_cases hlen : b.length = c.length
  case neg =>
    have hne : ((b.length : Int) != (c.length : Int)) = true := by rw [bne_iff_ne]; omega
    have HF : Hid (decide (b = c) = false) := Lib.hid (by simp; intro h; exact hlen (by rw [h]))
    clear hlen
    go_enter Tryz.func25, Tryz.ntmps25
    go_wp2
    go_ret
    exact ⟨ret_bool HF.out.symm, Below.refl _ _⟩
  have hne : ((b.length : Int) != (c.length : Int)) = false := by rw [bne_eq_false_iff_eq]; omega
  have HL := Lib.hid hlen
  clear hlen
  go_enter Tryz.func25, Tryz.ntmps25
  go_wp2
  go_loopw [13] (fun i wr => ∃ k : Nat, k ≤ b.length ∧ i = .int .i64 k ∧ Hid (b.take k = c.take k) ∧ Below w.heap.size w wr) (fun i _ => b.length - (intOf i).toNat)
  case atStart => exact ⟨0, Nat.zero_le _, rfl, Lib.hid rfl, Below.refl _ _⟩
  case round =>
    obtain ⟨k, hk, rfl, HK, hb⟩ := hrel
    by_cases hlt : k < b.length
    · obtain ⟨p, off, v, s, rfl, _, hp, hx, hs, h1⟩ := hE.sl hlt
      obtain ⟨q, off', v', s', rfl, _, hq, hx', hs', h2⟩ := hF.sl (show k < c.length by have := HL.out; omega)
      rw [← hb.cell (p := ⟨p, _, none⟩) hp] at h1
      rw [← hb.cell (p := ⟨q, _, none⟩) hq] at h2
      have hp2 : p < wr.heap.size := Nat.lt_of_lt_of_le hp hb.size
      have hq2 : q < wr.heap.size := Nat.lt_of_lt_of_le hq hb.size
      have hik : (k : Int) < (b.length : Int) := by omega
      have hik2 : (k : Int) < (c.length : Int) := by have := HL.out; omega
      have hsb := Rd.below hs hb
      have hsb' := Rd.below hs' hb
      have HC := Lib.hid fun w' hb' => SameSet_any w' (Rd.below hsb hb') (Rd.below hsb' hb')
      have HX := Lib.hid (And.intro hx hx')
      obtain ⟨A2, c2, rfl, _⟩ := rSl.elems hs
      obtain ⟨A3, c3, rfl, _⟩ := rSl.elems hs'
      clear hx hx' hs hs' hsb hsb' hE hF
      by_cases hh : s = s'
      · have HS : Hid (b.take (k + 1) = c.take (k + 1)) := Lib.hid (by rw [take_getElem? HX.out.1, take_getElem? HX.out.2, HK.out, hh])
        rw [show decide (s = s') = true by simp [hh]] at HC
        clear hh
        go_wp2
        refine wp_region_quiet_below (by kernel_rfl) (by kernel_rfl) ?_
        repeat (go_big_quiet_step (exact Calls.inBelow HC.out _ _))
        refine wpQuiet_nil ?_
        intro _ hw'
        obtain ⟨⟨dq, osq⟩, hw''⟩ := hw'
        subst hw''
        go_wp2
        go_roundw
        case rel => exact ⟨k + 1, by omega, by go_num, HS, hb.trans ((below_regrown _ _ _).mono hb.size)⟩
        case measure => simp [intOf]; omega
      · have HF : Hid (decide (b = c) = false) := Lib.hid (by
          simp; intro h
          have h3 := HX.out.1
          rw [h, HX.out.2] at h3
          exact hh (Option.some.inj h3).symm)
        rw [show decide (s = s') = false by simp [hh]] at HC
        clear hh
        go_wp2
        refine wp_region_quiet_below (by kernel_rfl) (by kernel_rfl) ?_
        repeat (go_big_quiet_step (exact Calls.inBelow HC.out _ _))
        refine wpQuiet_nil ?_
        intro _ hw'
        obtain ⟨⟨dq, osq⟩, hw''⟩ := hw'
        subst hw''
        go_wp2
        go_ret
        exact ⟨ret_bool HF.out.symm, hb.trans ((below_regrown _ _ _).mono hb.size)⟩
    · have HF : Hid (decide (b = c) = true) := Lib.hid (by
        have h1 := HK.out
        have h2 := HL.out
        rw [List.take_of_length_le (by omega), List.take_of_length_le (by omega)] at h1
        simp [h1])
      go_wp2
      go_ret
      exact ⟨ret_bool HF.out.symm, hb⟩

/-- The least input of a box. -/
def pointBx (b : Bx) : List Int := b.filterMap fun s => s.head?.map (·.1)
def headL : List Rg → List Int
  | [] => []
  | r :: _ => [r.1]
theorem pointBx_at {b : Bx} {k : Nat} {s : List Rg} (h : b[k]? = some s) : pointBx (b.take (k + 1)) = pointBx (b.take k) ++ headL s := by
  unfold pointBx
  rw [take_getElem? h, List.filterMap_append]
  cases s <;> rfl
theorem pointBx_len (b : Bx) (k : Nat) : (pointBx (b.take k)).length ≤ k := by
  unfold pointBx
  refine Nat.le_trans (List.length_filterMap_le _ _) ?_
  rw [List.length_take]; omega

set_option maxRecDepth 100000 in
set_option maxHeartbeats 400000 in
theorem Point_any {S : Nat → Prop} {v : Value} {b : Bx} (w : World) (hl : rBx.rel w S [v] b) :
    Calls Tryz.prog 112 #[v] w fun e w' => ∃ z, e = .returned z ∧ Own rInt 3 w' w.heap.size (fun _ => False) z (pointBx b) ∧ Below w.heap.size w w' := by
  have hbl := rSl.lenle hl (by decide)
  obtain ⟨A, c, rfl, _, _, hbb, hE⟩ := rSl.elems hl
  have hbb' : b.length ≤ 5864062014805 := by simp only [rSl] at hbb; omega
  clear hl hbb
  go_enter Tryz.func112, Tryz.ntmps112
  go_wp2
  go_loopw [3, 8] (fun o i wr => ∃ k : Nat, k ≤ b.length ∧ i = .int .i64 k ∧ Own rInt 3 wr w.heap.size (fun _ => False) o (pointBx (b.take k)) ∧ Below w.heap.size w wr) (fun _ i _ => b.length - (intOf i).toNat)
  case atStart => exact ⟨0, Nat.zero_le _, rfl, Own.nil _ _ _ _ _, Below.refl _ _⟩
  case round =>
    obtain ⟨k, hk, rfl, hown, hb⟩ := hrel
    by_cases hlt : k < b.length
    · obtain ⟨p, off, v, s, rfl, _, hp, hx, hs, h1⟩ := hE.sl hlt
      rw [← hb.cell (p := ⟨p, _, none⟩) hp] at h1
      have hik : (k : Int) < (b.length : Int) := by omega
      have hs' := Rd.below hs hb
      have hpt := pointBx_at hx
      have hlen := pointBx_len b k
      obtain ⟨A2, c2, rfl, _, _, hl2, hE2⟩ := rSl.elems hs'
      have hl2' : s.length ≤ 8796093022208 := by simp only [rRg] at hl2; omega
      clear hx hs hs' hl2 hE
      rcases s with _ | ⟨r, t⟩
      · have HP : Hid (pointBx (b.take (k + 1)) = pointBx (b.take k)) := Lib.hid (by rw [hpt]; simp [headL])
        clear hpt
        generalize pointBx (b.take k) = out at *
        go_wp2
        go_roundw
        case rel => exact ⟨k + 1, by omega, by go_num, by rw [HP.out]; exact hown, hb⟩
        case measure => simp [intOf]; omega
      · have HP : Hid (pointBx (b.take (k + 1)) = pointBx (b.take k) ++ [r.1]) := Lib.hid hpt
        obtain ⟨q, off2, lo, up, rfl, _, hq, hx2, hi1, _, g1, _⟩ := hE2.rg (i := 0) (by simp)
        obtain rfl : (lo, up) = r := by simpa using hx2.symm
        rw [Nat.zero_mul, Nat.add_zero] at g1
        generalize hm : ((lo, up) :: t : List Rg).length = m at *
        have hm0 : 0 < m := by rw [← hm]; simp
        have hm1 : (0 : Int) < (m : Int) := by omega
        clear hpt hx2 hE2 hm
        generalize pointBx (b.take k) = out at *
        go_wp2_with (first | (at_builtin; go_must (refine wpList_append_new (R := rInt) (x := lo) el_I rfl (.tmp 15) (.tmp 20) rfl rfl hown [.int .i64 lo] rfl rfl (fun _ => False) ⟨rfl, hi1⟩ (fun _ h => h.elim) ?_ hb.size ?_; (((try simp only [rInt]) <;> omega)); intro v9 w9 hown9 hb9 _ _)))
        go_roundw
        case rel => exact ⟨k + 1, by omega, by go_num, by rw [HP.out]; exact hown9, hb.trans hb9⟩
        case measure => simp [intOf]; omega
    · obtain ⟨z1, z2, rfl⟩ := hown.value
      have he : b.take k = b := List.take_of_length_le (by omega)
      have HE := Lib.hid (show pointBx b = pointBx (b.take k) by rw [he])
      clear he
      go_wp2
      go_ret
      exact ⟨_, rfl, by rw [HE.out]; exact hown, hb⟩

end Go.Proofs.YtlopccnehgolnabGreatDoor

namespace Go.Proofs.YtlopccnehgolnabGreatDoor
open Go.RowKit Rb

def cmpL : List Int → List Int → Int
  | x :: a, y :: b => if x < y then -1 else if y < x then 1 else cmpL a b
  | _ :: _, [] => 1
  | [], _ :: _ => -1
  | [], [] => 0
theorem cmpL_at {a b : List Int} {k : Nat} {x y : Int} (hx : a[k]? = some x) (hy : b[k]? = some y) :
    cmpL (a.drop k) (b.drop k) = if x < y then -1 else if y < x then 1 else cmpL (a.drop (k + 1)) (b.drop (k + 1)) := by
  rw [drop_cons hx, drop_cons hy]; rfl
theorem cmpL_in : ∀ (a b : List Int), -1 ≤ cmpL a b ∧ cmpL a b ≤ 1
  | [], [] => by decide
  | [], _ :: _ => by simp [cmpL]
  | _ :: _, [] => by simp [cmpL]
  | x :: a, y :: b => by
    unfold cmpL
    have := cmpL_in a b
    split
    · decide
    · split
      · decide
      · exact this

set_option maxRecDepth 100000 in
set_option maxHeartbeats 400000 in
theorem Compare_any {S T : Nat → Prop} {v u : Value} {a b : List Int} (w : World) (hl : (rSl rInt).rel w S [v] a) (hm : (rSl rInt).rel w T [u] b) :
    Calls Tryz.prog 113 #[v, u] w fun e w' => e = .returned (.int .i64 (cmpL a b)) ∧ w = w' := by
  have hal := rSl.lenle hl (by decide)
  have hbl := rSl.lenle hm (by decide)
  obtain ⟨A, c, rfl, _, _, _, hE⟩ := rSl.elems hl
  obtain ⟨B, d, rfl, _, _, _, hF⟩ := rSl.elems hm
  clear hl hm
  go_enter Tryz.func113, Tryz.ntmps113
  go_wp2
  go_loopw [11] (fun i wr => ∃ k : Nat, k ≤ a.length ∧ i = .int .i64 k ∧ Hid (cmpL a b = cmpL (a.drop k) (b.drop k)) ∧ Hid (k ≤ b.length) ∧ w = wr) (fun i _ => a.length - (intOf i).toNat)
  case atStart => exact ⟨0, Nat.zero_le _, rfl, Lib.hid rfl, Lib.hid (Nat.zero_le _), rfl⟩
  case round =>
    obtain ⟨k, hk, rfl, HI, HK, rfl⟩ := hrel
    by_cases hlt : k < a.length
    · obtain ⟨p, off, x, rfl, _, hp, hx, hxi, g1⟩ := hE.intAt hlt
      have hik : (k : Int) < (a.length : Int) := by omega
      by_cases hlt2 : k < b.length
      · obtain ⟨q, off', y, rfl, _, hq, hy, hyi, g2⟩ := hF.intAt hlt2
        have HAT := Lib.hid (cmpL_at hx hy)
        have hik2 : (k : Int) < (b.length : Int) := by omega
        have hik3 : ¬ (b.length : Int) ≤ (k : Int) := by omega
        clear hx hy hE hF
        by_cases h1 : x < y
        · have HF' : Hid (cmpL a b = -1) := Lib.hid (by rw [HI.out, HAT.out, if_pos h1])
          go_wp2
          go_ret
          exact ⟨by rw [HF'.out]; rfl, rfl⟩
        · by_cases h2 : y < x
          · have HF' : Hid (cmpL a b = 1) := Lib.hid (by rw [HI.out, HAT.out, if_neg h1, if_pos h2])
            go_wp2
            go_ret
            exact ⟨by rw [HF'.out]; rfl, rfl⟩
          · have HF' := Lib.hid (HI.out.trans (by rw [HAT.out, if_neg h1, if_neg h2]))
            go_wp2
            go_roundw
            case rel => exact ⟨k + 1, by omega, by go_num, HF', Lib.hid (by omega), by trivial⟩
            case measure => simp [intOf]; omega
      · have hke : k = b.length := by have := HK.out; omega
        have HF' : Hid (cmpL a b = 1) := Lib.hid (by rw [HI.out, show b.drop k = [] from List.drop_eq_nil_of_le (by omega), drop_cons hx]; rfl)
        have hik3 : (b.length : Int) ≤ (k : Int) := by omega
        clear hke hx hE hF
        go_wp2
        go_ret
        exact ⟨by rw [HF'.out]; rfl, rfl⟩
    · have hke : k = a.length := by omega
      clear hE hF
      have hkb := HK.out
      by_cases h : a.length < b.length
      · have HF' : Hid (cmpL a b = -1) := Lib.hid (by rw [HI.out, show a.drop k = [] from List.drop_eq_nil_of_le (by omega), drop_cons (l := b) (k := k) (List.getElem?_eq_getElem (by omega))]; rfl)
        have h9 : (a.length : Int) < (b.length : Int) := by omega
        clear hke
        go_wp2
        go_ret
        exact ⟨by rw [HF'.out]; rfl, rfl⟩
      · have HF' : Hid (cmpL a b = 0) := Lib.hid (by rw [HI.out, show a.drop k = [] from List.drop_eq_nil_of_le (by omega), show b.drop k = [] from List.drop_eq_nil_of_le (by omega)]; rfl)
        have h9 : ¬ (a.length : Int) < (b.length : Int) := by omega
        clear hke
        go_wp2
        go_ret
        exact ⟨by rw [HF'.out]; rfl, rfl⟩

def leastStep (o : List Int) (b : Bx) : List Int := if cmpL (pointBx b) o < 0 then pointBx b else o
def leastB : List Bx → List Int
  | [] => []
  | b :: l => l.foldl leastStep (pointBx b)
/-- The least of the first k boxes. -/
theorem leastB_take {l : List Bx} {k : Nat} {b : Bx} (h : l[k]? = some b) (h0 : 0 < k) : leastB (l.take (k + 1)) = leastStep (leastB (l.take k)) b := by
  rw [take_getElem? h]
  have hk : k < l.length := (List.getElem?_eq_some_iff.1 h).1
  cases hl : l.take k with
  | nil => have := congrArg List.length hl; rw [List.length_take, List.length_nil] at this; omega
  | cons x l' =>
    show (l' ++ [b]).foldl leastStep (pointBx x) = _
    rw [List.foldl_append]; rfl
theorem leastB_one {l : List Bx} {b : Bx} (h : l[0]? = some b) : leastB (l.take (0 + 1)) = pointBx b := by
  rw [take_getElem? h]; rfl

theorem Point_at' {S : Nat → Prop} {v : Value} {b : Bx} {p : List Int} (w : World) (hl : rBx.rel w S [v] b) (h : pointBx b = p) :
    Calls Tryz.prog 112 #[v] w fun e w' => ∃ z, e = .returned z ∧ Own rInt 3 w' w.heap.size (fun _ => False) z p ∧ Below w.heap.size w w' := h ▸ Point_any w hl
theorem Compare_at {S T : Nat → Prop} {v u : Value} {a b : List Int} {n : Int} (w : World) (hl : (rSl rInt).rel w S [v] a) (hm : (rSl rInt).rel w T [u] b) (h : cmpL a b = n) :
    Calls Tryz.prog 113 #[v, u] w fun e w' => e = .returned (.int .i64 n) ∧ w = w' := h ▸ Compare_any w hl hm

set_option maxRecDepth 100000 in
set_option maxHeartbeats 400000 in
theorem least_any {S : Nat → Prop} {v : Value} {l : List Bx} (w : World) (hl : (rSl rBx).rel w S [v] l) :
    Calls Tryz.prog 53 #[v] w fun e w' => ∃ z S', e = .returned (.tuple #[z, .bool (decide (0 < l.length))]) ∧ (rSl rInt).rel w' S' [z] (leastB l) ∧ Below w.heap.size w w' := by
  have hal := rSl.lenle hl (by decide)
  obtain ⟨A, c, rfl, _, _, _, hE⟩ := rSl.elems hl
  clear hl
  go_enter Tryz.func53, Tryz.ntmps53
  go_wp2
  go_loopw [4, 10] (fun o i wr => ∃ (k : Nat) (out : List Int) (Ao : Option Addr) (co : Nat), k ≤ l.length ∧ i = .int .i64 k ∧ o = .slice Ao out.length co ∧ Hid (leastB (l.take k) = out) ∧ Hid (∃ S', (rSl rInt).rel wr S' [.slice Ao out.length co] out) ∧ Below w.heap.size w wr) (fun _ i _ => l.length - (intOf i).toNat)
  case atStart => exact ⟨0, [], none, 0, Nat.zero_le _, rfl, rfl, Lib.hid rfl, Lib.hid ⟨fun _ => True, none, 0, rfl, Nat.le_refl _, by decide, by decide, fun i x hx => by simp at hx⟩, Below.refl _ _⟩
  case round =>
    obtain ⟨k, out, Ao, co, hk, rfl, rfl, HI, HS, hb⟩ := hrel
    by_cases hlt : k < l.length
    · obtain ⟨p, off, v', b, rfl, _, hp, hx, hs, g1⟩ := Elems.sl (R := rSl rRg) hE hlt
      rw [← hb.cell (p := ⟨p, _, none⟩) hp] at g1
      have hik : (k : Int) < (l.length : Int) := by omega
      have HX := Lib.hid (show rBx.rel wr _ _ _ from Rd.below hs hb)
      have HXX := Lib.hid hx
      obtain ⟨A2, c2, rfl, _⟩ := rSl.elems hs
      generalize hpp : pointBx b = pp at *
      have HP := Lib.hid hpp
      clear hx hs hpp
      rcases Nat.eq_zero_or_pos k with h0 | h0
      · subst h0
        simp only [Nat.add_zero] at g1
        have HQ : Hid (leastB (l.take (0 + 1)) = pp) := Lib.hid ((leastB_one HXX.out).trans HP.out)
        go_wp2_with (first | (go_at_call 112; go_must ((with_reducible refine (Point_at' wr HX.out HP.out).mono ?_); rintro e w4 ⟨z4, rfl, how4, hb4⟩; obtain ⟨A4, c4, rfl⟩ := how4.value)))
        go_roundw
        case rel => exact ⟨1, pp, A4, c4, by omega, by go_num, rfl, HQ, Lib.hid ⟨_, how4.rel (by decide)⟩, hb.trans (hb4.mono hb.size)⟩
        case measure => simp [intOf]; omega
      · have HQ : Hid (leastB (l.take (k + 1)) = if cmpL pp out < 0 then pp else out) := Lib.hid (by rw [leastB_take HXX.out h0, HI.out, ← HP.out]; rfl)
        have hk0 : ((k : Int) == 0) = false := by rw [beq_eq_false_iff_ne]; omega
        obtain ⟨S9, hS9⟩ := HS.out
        have HS9 := Lib.hid hS9
        clear hS9
        generalize hcm : cmpL pp out = cm at *
        have HC := Lib.hid hcm
        clear hcm
        by_cases hc : cm < 0
        · have HQ' : Hid (leastB (l.take (k + 1)) = pp) := Lib.hid (by rw [HQ.out, if_pos hc])
          go_wp2_with (first | (go_at_call 112; go_must ((with_reducible refine (Point_at' wr HX.out HP.out).mono ?_); rintro e w4 ⟨z4, rfl, how4, hb4⟩; obtain ⟨A4, c4, rfl⟩ := how4.value; have hr4 := how4.rel (by decide))) | (go_at_call 113; go_must ((with_reducible refine (Compare_at w4 hr4 (Rd.below HS9.out hb4) HC.out).mono ?_); rintro e w5 ⟨rfl, rfl⟩)))
          go_roundw
          case rel => exact ⟨k + 1, pp, A4, c4, by omega, by go_num, rfl, HQ', Lib.hid ⟨_, hr4⟩, hb.trans (hb4.mono hb.size)⟩
          case measure => simp [intOf]; omega
        · have HQ' : Hid (leastB (l.take (k + 1)) = out) := Lib.hid (by rw [HQ.out, if_neg hc])
          go_wp2_with (first | (go_at_call 112; go_must ((with_reducible refine (Point_at' wr HX.out HP.out).mono ?_); rintro e w4 ⟨z4, rfl, how4, hb4⟩; obtain ⟨A4, c4, rfl⟩ := how4.value; have hr4 := how4.rel (by decide))) | (go_at_call 113; go_must ((with_reducible refine (Compare_at w4 hr4 (Rd.below HS9.out hb4) HC.out).mono ?_); rintro e w5 ⟨rfl, rfl⟩)))
          go_roundw
          case rel => exact ⟨k + 1, out, Ao, co, by omega, by go_num, rfl, HQ', Lib.hid ⟨_, Rd.below HS9.out hb4⟩, hb.trans (hb4.mono hb.size)⟩
          case measure => simp [intOf]; omega
    · have HQ : Hid (leastB l = out) := Lib.hid (by rw [← HI.out, List.take_of_length_le (by omega)])
      obtain ⟨S9, hS9⟩ := HS.out
      have HD : Hid (decide ((0 : Int) < (l.length : Int)) = decide (0 < l.length)) := Lib.hid (by rw [decide_eq_decide]; omega)
      go_wp2
      go_ret2
      exact ⟨_, S9, by rw [← HD.out]; rfl, by rw [HQ.out]; exact hS9, hb⟩

end Go.Proofs.YtlopccnehgolnabGreatDoor
