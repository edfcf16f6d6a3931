/- Boxes as data: lists of sets of ranges; what chapter 2 says of them. Contracts of Has, InBox, SameBox, Point, Size of boxes. The contract of Matches. The contract of Good of tables. The contracts of Compare and least: the least input of boxes. -/
import Derived.Test.YtlopccnehgolnabGreatDoorTabA
import Derived.Test.YtlopccnehgolnabGreatDoorGrB
import Derived.Deep.DeepMust
namespace Go.Proofs.YtlopccnehgolnabGreatDoor
open Go.RowKit Rb

abbrev Bx := List (List Rg)
def rBx : Rd Bx := rSl (rSl rRg)

def goodSet (s : List Rg) : Bool := decide (0 < s.length) && isSet s
def goodBx (b : Bx) (n : Int) : Bool := b.all goodSet && (decide ((b.length : Int) = n) && (decide (0 ≤ n) && decide (n ≤ 3)))
def inBx : Bx → List Int → Bool
  | [], [] => true
  | s :: b, n :: ns => hasL s n && inBx b ns
  | _, _ => false
theorem inBx_len : ∀ {b : Bx} {ns : List Int}, inBx b ns = true → b.length = ns.length
  | [], [], _ => rfl
  | _ :: _, _ :: _, h => by
    simp only [inBx, Bool.and_eq_true] at h
    simp [inBx_len h.2]
  | [], _ :: _, h => by simp [inBx] at h
  | _ :: _, [], h => by simp [inBx] at h
theorem inBx_at {b : Bx} {ns : List Int} {k : Nat} {s : List Rg} {n : Int} (hc : b[k]? = some s) (hn : ns[k]? = some n) : inBx (b.drop k) (ns.drop k) = (hasL s n && inBx (b.drop (k + 1)) (ns.drop (k + 1))) := by
  rw [drop_cons hc, drop_cons hn]; rfl

theorem goodBx_iff {b : Bx} {n : Int} : goodBx b n = true ↔ (∀ s ∈ b, 0 < s.length ∧ GoodS s) ∧ (b.length : Int) = n ∧ n ≤ 3 := by
  unfold goodBx goodSet
  simp only [Bool.and_eq_true, List.all_eq_true, decide_eq_true_iff, isSet_iff]
  constructor
  · rintro ⟨h1, h2, h3, h4⟩; exact ⟨h1, h2, h4⟩
  · rintro ⟨h1, h2, h4⟩; exact ⟨h1, h2, by omega, h4⟩

section
variable {α : Type} {R : Rd α} {w : World} {S : Nat → Prop} {A : Option Addr}
theorem Elems.sl {l : List (List α)} (h : Elems (rSl R) w S A l) {i : Nat} (hi : i < l.length) : ∃ b off v x, A = some ⟨b, off, none⟩ ∧ S b ∧ b < w.heap.size ∧ l[i]? = some x ∧ (rSl R).rel w S [v] x ∧ w.cell? ⟨b, off + i, none⟩ = some v := by
  obtain ⟨b, off, es, hA, hS, hb, hr, hc⟩ := h i l[i] (List.getElem?_eq_getElem hi)
  obtain ⟨A1, c1, rfl, hr2⟩ := hr
  exact ⟨b, off, _, l[i], hA, hS, hb, List.getElem?_eq_getElem hi, ⟨A1, c1, rfl, hr2⟩, by have := hc 0 _ rfl; simpa [rSl] using this⟩
theorem rSl.lenle {α : Type} {R : Rd α} {v : Value} {l : List α} (h : (rSl R).rel w S [v] l) (hb : 8 ≤ R.bytes) : l.length ≤ 17592186044416 := by
  obtain ⟨_, _, _, _, _, h3, _⟩ := h
  have := Nat.mul_le_mul_left l.length hb
  omega
end

theorem Good_b {S : Nat → Prop} {v : Value} {l : List Rg} {b : Bool} (w : World) (hl : (rSl rRg).rel w S [v] l) (h : isSet l = b) :
    Calls Tryz.prog 111 #[v] w fun e w' => e = .returned (.bool b) ∧ Below w.heap.size w w' := h ▸ Good_any w hl

set_option maxRecDepth 100000 in
set_option maxHeartbeats 400000 in
theorem BGood_any {S : Nat → Prop} {v : Value} {b : Bx} (n : Int) (w : World) (hl : rBx.rel w S [v] b) :
    Calls Tryz.prog 52 #[v, .int .i64 n] w fun e w' => e = .returned (.bool (goodBx b n)) ∧ Below w.heap.size w w' := by
  have hbl := rSl.lenle hl (by decide)
  obtain ⟨A, c, rfl, _, _, _, hE⟩ := rSl.elems hl
  clear hl
  go_enter Tryz.func52, Tryz.ntmps52
  go_wp2
  go_loopw [9] (fun i wr => ∃ k : Nat, k ≤ b.length ∧ i = .int .i64 k ∧ Hid ((b.take k).all goodSet = true) ∧ Below w.heap.size w wr) (fun i _ => b.length - (intOf i).toNat)
  case atStart => exact ⟨0, Nat.zero_le _, rfl, Lib.hid rfl, Below.refl _ _⟩
  case round =>
    obtain ⟨k, hk, rfl, HK, hb⟩ := hrel
    by_cases hlt : k < b.length
    · obtain ⟨p, off, v, s, rfl, _, hp, hx, hs, h1⟩ := hE.sl hlt
      rw [← hb.cell (p := ⟨p, _, none⟩) hp] at h1
      have hs' := Rd.below hs hb
      have hik : (k : Int) < (b.length : Int) := by omega
      obtain ⟨A2, c2, rfl, _, _, hl2, _⟩ := rSl.elems hs'
      have hl2' : s.length ≤ 8796093022208 := by simp only [rRg] at hl2; omega
      have HF : Hid (goodSet s = false → goodBx b n = false) := Lib.hid fun h => by
        unfold goodBx
        rw [show b.all goodSet = false from List.all_eq_false.2 ⟨s, List.mem_of_getElem? hx, by simp [h]⟩]; rfl
      have HS : Hid (goodSet s = true → (b.take (k + 1)).all goodSet = true) := Lib.hid fun h => by rw [take_getElem? hx, List.all_append, HK.out]; simp [h]
      have hg : goodSet s = (decide (0 < s.length) && isSet s) := rfl
      generalize s.length = m at *
      have HG := Lib.hid hg
      clear hx hs hl2 HK hE hg
      rcases (show m = 0 ∨ (((m : Int) == 0) = false ∧ 0 < m) by
        rcases Nat.eq_zero_or_pos m with h | h
        · exact .inl h
        · exact .inr ⟨by rw [beq_eq_false_iff_ne]; omega, h⟩) with rfl | ⟨hm, hm0⟩
      · have HFF : Hid (goodBx b n = false) := Lib.hid (HF.out (by rw [HG.out]; rfl))
        go_wp2
        go_ret
        exact ⟨ret_bool HFF.out.symm, hb⟩
      · cases hset : isSet s
        · have HC := Lib.hid (Good_b wr hs' hset)
          have HFF : Hid (goodBx b n = false) := Lib.hid (HF.out (by rw [HG.out, hset]; simp))
          clear hset hs'
          go_wp2_with (first | (go_at_call 111; refine HC.out.mono ?_; rintro e w1 ⟨rfl, hb1⟩))
          go_ret
          exact ⟨ret_bool HFF.out.symm, hb.trans (hb1.mono hb.size)⟩
        · have HC := Lib.hid (Good_b wr hs' hset)
          have HSS := Lib.hid (HS.out (by rw [HG.out, hset]; simp [hm0]))
          clear hset hs'
          go_wp2_with (first | (go_at_call 111; refine HC.out.mono ?_; rintro e w1 ⟨rfl, hb1⟩))
          go_roundw
          case rel => exact ⟨k + 1, by omega, by go_num, HSS, hb.trans (hb1.mono hb.size)⟩
          case measure => simp [intOf]; omega
    · have HF : Hid (goodBx b n = (decide ((b.length : Int) = n) && (decide (0 ≤ n) && decide (n ≤ 3)))) := Lib.hid (by
        have := HK.out
        rw [List.take_of_length_le (by omega)] at this
        unfold goodBx
        rw [this]; rfl)
      clear HK hE
      have hq : ((b.length : Int) == n) = decide ((b.length : Int) = n) := by rw [Bool.eq_iff_iff, beq_iff_eq, decide_eq_true_iff]
      rcases (show ((b.length : Int) == n) = false ∨ (((b.length : Int) == n) = true ∧ 0 ≤ n ∧ (b.length : Int) = n) by
        by_cases h : (b.length : Int) = n
        · exact .inr ⟨by simpa using h, by omega, h⟩
        · exact .inl (by simpa using h)) with h | ⟨h, h0, h3⟩
      · rw [h] at hq
        have HQ := Lib.hid hq
        clear hq
        go_wp2
        go_ret
        exact ⟨ret_bool (by rw [HF.out, ← HQ.out]; rfl), hb⟩
      · rw [h] at hq
        have HQ := Lib.hid hq
        clear hq h3
        go_wp2
        go_ret
        exact ⟨ret_bool (by rw [HF.out, ← HQ.out]; simp [h0]), hb⟩

theorem IsSet_b {S : Nat → Prop} {v : Value} {l : List Rg} {b : Bool} (w : World) (hl : (rSl rRg).rel w S [v] l) (h : isSet l = b) :
    Calls Tryz.prog 117 #[v] w fun e w' => e = .returned (.bool b) ∧ Below w.heap.size w w' := h ▸ IsSet_any w hl

set_option maxRecDepth 100000 in
set_option maxHeartbeats 400000 in
theorem IsBox_any {S : Nat → Prop} {v : Value} {b : Bx} (n : Int) (w : World) (hl : rBx.rel w S [v] b) :
    Calls Tryz.prog 57 #[v, .int .i64 n] w fun e w' => e = .returned (.bool (goodBx b n)) ∧ Below w.heap.size w w' := by
  have hbl := rSl.lenle hl (by decide)
  obtain ⟨A, c, rfl, _, _, _, hE⟩ := rSl.elems hl
  obtain ⟨ok0, hok0⟩ : ∃ ok, (decide ((b.length : Int) = n) && (decide (0 ≤ n) && decide (n ≤ 3))) = ok := ⟨_, rfl⟩
  have HB0 : Hid (goodBx b n = (ok0 && (b.drop 0).all goodSet)) := Lib.hid (by unfold goodBx; rw [hok0, List.drop_zero, Bool.and_comm])
  have hcs : ((b.length : Int) == n) = false ∧ ok0 = false ∨ ((b.length : Int) == n) = true ∧ decide (n < 4) = ok0 := by
    by_cases h : (b.length : Int) = n
    · refine .inr ⟨by simpa using h, ?_⟩
      rw [← hok0, Bool.eq_iff_iff]; simp [h]; omega
    · refine .inl ⟨by simpa using h, ?_⟩
      rw [← hok0]; simp [h]
  have HE := Lib.hid hE
  clear hl hok0 hE
  rcases hcs with ⟨h1, rfl⟩ | ⟨h1, h2⟩
  all_goals
    go_enter Tryz.func57, Tryz.ntmps57
    go_wp2
    go_loopw [5, 18] (fun o i wr => ∃ (k : Nat) (ok : Bool), k ≤ b.length ∧ i = .int .i64 k ∧ o = .bool ok ∧ Hid (goodBx b n = (ok && (b.drop k).all goodSet)) ∧ Below w.heap.size w wr) (fun _ i _ => b.length - (intOf i).toNat)
    case atStart => first | exact ⟨0, _, Nat.zero_le _, rfl, rfl, HB0, Below.refl _ _⟩
    case round =>
      obtain ⟨k, ok, hk, rfl, rfl, HK, hb⟩ := hrel
      by_cases hlt : k < b.length
      · obtain ⟨p, off, v, s, rfl, _, hp, hx, hs, h1⟩ := HE.out.sl hlt
        rw [← hb.cell (p := ⟨p, _, none⟩) hp] at h1
        have hs' := Rd.below hs hb
        have hik : (k : Int) < (b.length : Int) := by omega
        obtain ⟨A2, c2, rfl, _, _, hl2, _⟩ := rSl.elems hs'
        have hl2' : s.length ≤ 8796093022208 := by simp only [rRg] at hl2; omega
        have HS : Hid (goodBx b n = (ok && (decide (0 < s.length) && isSet s) && (b.drop (k + 1)).all goodSet)) := Lib.hid (by
          rw [HK.out, drop_cons hx, List.all_cons, ← Bool.and_assoc]; rfl)
        generalize s.length = m at *
        clear hx hs hl2 HK
        cases ok
        · have HN : Hid (goodBx b n = (false && (b.drop (k + 1)).all goodSet)) := Lib.hid (by rw [HS.out]; simp)
          go_wp2
          go_roundw
          case rel => exact ⟨k + 1, false, by omega, by go_num, rfl, HN, hb⟩
          case measure => simp [intOf]; omega
        · rcases (show m = 0 ∨ (decide (0 < (m : Int)) = true ∧ 0 < m) by
            rcases Nat.eq_zero_or_pos m with h | h
            · exact .inl h
            · exact .inr ⟨by simpa using h, h⟩) with rfl | ⟨hm, hm0⟩
          · have HN : Hid (goodBx b n = (false && (b.drop (k + 1)).all goodSet)) := Lib.hid (by rw [HS.out]; simp)
            go_wp2
            go_roundw
            case rel => exact ⟨k + 1, false, by omega, by go_num, rfl, HN, hb⟩
            case measure => simp [intOf]; omega
          · have HC := Lib.hid (IsSet_b wr hs' rfl)
            have HN : Hid (goodBx b n = (isSet s && (b.drop (k + 1)).all goodSet)) := Lib.hid (by rw [HS.out]; simp [hm0])
            generalize isSet s = is at *
            go_wp2_with (first | (go_at_call 117; refine HC.out.mono ?_; rintro e w1 ⟨rfl, hb1⟩))
            go_roundw
            case rel => exact ⟨k + 1, is, by omega, by go_num, rfl, HN, hb.trans (hb1.mono hb.size)⟩
            case measure => simp [intOf]; omega
      · have HF : Hid (goodBx b n = ok) := Lib.hid (by rw [HK.out, List.drop_eq_nil_of_le (by omega)]; simp)
        go_wp2
        go_ret
        exact ⟨ret_bool HF.out.symm, hb⟩

end Go.Proofs.YtlopccnehgolnabGreatDoor


namespace Go.Proofs.YtlopccnehgolnabGreatDoor
open Go.RowKit Rb

def hasBx (b : Bx) (ns : List Int) : Bool := inBx b ns
theorem hasBx_no {b : Bx} {ns : List Int} (h : b.length ≠ ns.length) : inBx b ns = false := by
  cases hh : inBx b ns
  · rfl
  · exact absurd (inBx_len hh) h

set_option maxRecDepth 100000 in
set_option maxHeartbeats 400000 in
theorem SameBox_any {S T : Nat → Prop} {v u : Value} {b c : Bx} (w : World) (hl : rBx.rel w S [v] b) (hn : rBx.rel w T [u] c) :
    Calls Tryz.prog 25 #[v, u] w fun e w' => e = .returned (.bool (decide (b = c))) ∧ Below w.heap.size w w' := by
  have hbl := rSl.lenle hl (by decide)
  have hnl := rSl.lenle hn (by decide)
  obtain ⟨A, c1, rfl, _, _, _, hE⟩ := rSl.elems hl
  obtain ⟨B, d1, rfl, _, _, _, hF⟩ := rSl.elems hn
  clear hl hn
  by_cases hlen : b.length = c.length
  case neg =>
    have hne : ((b.length : Int) != (c.length : Int)) = true := by rw [bne_iff_ne]; omega
    have HF : Hid (decide (b = c) = false) := Lib.hid (by simp; intro h; exact hlen (by rw [h]))
    clear hlen
    go_enter Tryz.func25, Tryz.ntmps25
    go_wp2
    go_ret
    exact ⟨ret_bool HF.out.symm, Below.refl _ _⟩
  have hne : ((b.length : Int) != (c.length : Int)) = false := by rw [bne_eq_false_iff_eq]; omega
  have HL := Lib.hid hlen
  clear hlen
  go_enter Tryz.func25, Tryz.ntmps25
  go_wp2
  go_loopw [13] (fun i wr => ∃ k : Nat, k ≤ b.length ∧ i = .int .i64 k ∧ Hid (b.take k = c.take k) ∧ Below w.heap.size w wr) (fun i _ => b.length - (intOf i).toNat)
  case atStart => exact ⟨0, Nat.zero_le _, rfl, Lib.hid rfl, Below.refl _ _⟩
  case round =>
    obtain ⟨k, hk, rfl, HK, hb⟩ := hrel
    by_cases hlt : k < b.length
    · obtain ⟨p, off, v, s, rfl, _, hp, hx, hs, h1⟩ := hE.sl hlt
      obtain ⟨q, off', v', s', rfl, _, hq, hx', hs', h2⟩ := hF.sl (show k < c.length by have := HL.out; omega)
      rw [← hb.cell (p := ⟨p, _, none⟩) hp] at h1
      rw [← hb.cell (p := ⟨q, _, none⟩) hq] at h2
      have hp2 : p < wr.heap.size := Nat.lt_of_lt_of_le hp hb.size
      have hq2 : q < wr.heap.size := Nat.lt_of_lt_of_le hq hb.size
      have hik : (k : Int) < (b.length : Int) := by omega
      have hik2 : (k : Int) < (c.length : Int) := by have := HL.out; omega
      have hsb := Rd.below hs hb
      have hsb' := Rd.below hs' hb
      have HC := Lib.hid fun w' hb' => SameSet_any w' (Rd.below hsb hb') (Rd.below hsb' hb')
      have HX := Lib.hid (And.intro hx hx')
      obtain ⟨A2, c2, rfl, _⟩ := rSl.elems hs
      obtain ⟨A3, c3, rfl, _⟩ := rSl.elems hs'
      clear hx hx' hs hs' hsb hsb' hE hF
      by_cases hh : s = s'
      · have HS : Hid (b.take (k + 1) = c.take (k + 1)) := Lib.hid (by rw [take_getElem? HX.out.1, take_getElem? HX.out.2, HK.out, hh])
        rw [show decide (s = s') = true by simp [hh]] at HC
        clear hh
        go_wp2
        refine wp_region_quiet_below (by kernel_rfl) (by kernel_rfl) ?_
        repeat (go_big_quiet_step (exact Calls.inBelow HC.out _ _))
        refine wpQuiet_nil ?_
        intro _ hw'
        obtain ⟨⟨dq, osq⟩, hw''⟩ := hw'
        subst hw''
        go_wp2
        go_roundw
        case rel => exact ⟨k + 1, by omega, by go_num, HS, hb.trans ((below_regrown _ _ _).mono hb.size)⟩
        case measure => simp [intOf]; omega
      · have HF : Hid (decide (b = c) = false) := Lib.hid (by
          simp; intro h
          have h3 := HX.out.1
          rw [h, HX.out.2] at h3
          exact hh (Option.some.inj h3).symm)
        rw [show decide (s = s') = false by simp [hh]] at HC
        clear hh
        go_wp2
        refine wp_region_quiet_below (by kernel_rfl) (by kernel_rfl) ?_
        repeat (go_big_quiet_step (exact Calls.inBelow HC.out _ _))
        refine wpQuiet_nil ?_
        intro _ hw'
        obtain ⟨⟨dq, osq⟩, hw''⟩ := hw'
        subst hw''
        go_wp2
        go_ret
        exact ⟨ret_bool HF.out.symm, hb.trans ((below_regrown _ _ _).mono hb.size)⟩
    · have HF : Hid (decide (b = c) = true) := Lib.hid (by
        have h1 := HK.out
        have h2 := HL.out
        rw [List.take_of_length_le (by omega), List.take_of_length_le (by omega)] at h1
        simp [h1])
      go_wp2
      go_ret
      exact ⟨ret_bool HF.out.symm, hb⟩

/-- The least input of a box. -/
def pointBx (b : Bx) : List Int := b.filterMap fun s => s.head?.map (·.1)
def headL : List Rg → List Int
  | [] => []
  | r :: _ => [r.1]
theorem pointBx_at {b : Bx} {k : Nat} {s : List Rg} (h : b[k]? = some s) : pointBx (b.take (k + 1)) = pointBx (b.take k) ++ headL s := by
  unfold pointBx
  rw [take_getElem? h, List.filterMap_append]
  cases s <;> rfl
theorem pointBx_len (b : Bx) (k : Nat) : (pointBx (b.take k)).length ≤ k := by
  unfold pointBx
  refine Nat.le_trans (List.length_filterMap_le _ _) ?_
  rw [List.length_take]; omega

set_option maxRecDepth 100000 in
set_option maxHeartbeats 400000 in
theorem Point_any {S : Nat → Prop} {v : Value} {b : Bx} (w : World) (hl : rBx.rel w S [v] b) :
    Calls Tryz.prog 112 #[v] w fun e w' => ∃ z, e = .returned z ∧ Own rInt 3 w' w.heap.size (fun _ => False) z (pointBx b) ∧ Below w.heap.size w w' := by
  have hbl := rSl.lenle hl (by decide)
  obtain ⟨A, c, rfl, _, _, hbb, hE⟩ := rSl.elems hl
  have hbb' : b.length ≤ 5864062014805 := by simp only [rSl] at hbb; omega
  clear hl hbb
  go_enter Tryz.func112, Tryz.ntmps112
  go_wp2
  go_loopw [3, 8] (fun o i wr => ∃ k : Nat, k ≤ b.length ∧ i = .int .i64 k ∧ Own rInt 3 wr w.heap.size (fun _ => False) o (pointBx (b.take k)) ∧ Below w.heap.size w wr) (fun _ i _ => b.length - (intOf i).toNat)
  case atStart => exact ⟨0, Nat.zero_le _, rfl, Own.nil _ _ _ _ _, Below.refl _ _⟩
  case round =>
    obtain ⟨k, hk, rfl, hown, hb⟩ := hrel
    by_cases hlt : k < b.length
    · obtain ⟨p, off, v, s, rfl, _, hp, hx, hs, h1⟩ := hE.sl hlt
      rw [← hb.cell (p := ⟨p, _, none⟩) hp] at h1
      have hik : (k : Int) < (b.length : Int) := by omega
      have hs' := Rd.below hs hb
      have hpt := pointBx_at hx
      have hlen := pointBx_len b k
      obtain ⟨A2, c2, rfl, _, _, hl2, hE2⟩ := rSl.elems hs'
      have hl2' : s.length ≤ 8796093022208 := by simp only [rRg] at hl2; omega
      clear hx hs hs' hl2 hE
      rcases s with _ | ⟨r, t⟩
      · have HP : Hid (pointBx (b.take (k + 1)) = pointBx (b.take k)) := Lib.hid (by rw [hpt]; simp [headL])
        clear hpt
        generalize pointBx (b.take k) = out at *
        go_wp2
        go_roundw
        case rel => exact ⟨k + 1, by omega, by go_num, by rw [HP.out]; exact hown, hb⟩
        case measure => simp [intOf]; omega
      · have HP : Hid (pointBx (b.take (k + 1)) = pointBx (b.take k) ++ [r.1]) := Lib.hid hpt
        obtain ⟨q, off2, lo, up, rfl, _, hq, hx2, hi1, _, g1, _⟩ := hE2.rg (i := 0) (by simp)
        obtain rfl : (lo, up) = r := by simpa using hx2.symm
        rw [Nat.zero_mul, Nat.add_zero] at g1
        generalize hm : ((lo, up) :: t : List Rg).length = m at *
        have hm0 : 0 < m := by rw [← hm]; simp
        have hm1 : (0 : Int) < (m : Int) := by omega
        clear hpt hx2 hE2 hm
        generalize pointBx (b.take k) = out at *
        go_wp2_with (first | (at_builtin; go_must (refine wpList_append_new (R := rInt) (x := lo) el_I rfl (.tmp 15) (.tmp 20) rfl rfl hown [.int .i64 lo] rfl rfl (fun _ => False) ⟨rfl, hi1⟩ (fun _ h => h.elim) ?_ hb.size ?_; (((try simp only [rInt]) <;> omega)); intro v9 w9 hown9 hb9 _ _)))
        go_roundw
        case rel => exact ⟨k + 1, by omega, by go_num, by rw [HP.out]; exact hown9, hb.trans hb9⟩
        case measure => simp [intOf]; omega
    · obtain ⟨z1, z2, rfl⟩ := hown.value
      have he : b.take k = b := List.take_of_length_le (by omega)
      have HE := Lib.hid (show pointBx b = pointBx (b.take k) by rw [he])
      clear he
      go_wp2
      go_ret
      exact ⟨_, rfl, by rw [HE.out]; exact hown, hb⟩

end Go.Proofs.YtlopccnehgolnabGreatDoor

namespace Go.Proofs.YtlopccnehgolnabGreatDoor
open Go.RowKit Rb

theorem cellsHold_at {cs : List Cl} {ns : List Int} {k : Nat} {c : Cl} {n : Int} (hc : cs[k]? = some c) (hn : ns[k]? = some n) :
    cellsHold (cs.drop k) (ns.drop k) = (cellHolds c n && cellsHold (cs.drop (k + 1)) (ns.drop (k + 1))) := by
  rw [drop_cons hc, drop_cons hn]; rfl

set_option maxRecDepth 100000 in
set_option maxHeartbeats 400000 in
theorem Matches_any {S T : Nat → Prop} {v u : Value} {x0 x1 x2 x3 : Value} {rs : List Rl} {ns : List Int} (w : World) (hr : (rSl rRl).rel w S [v] rs) (hn : (rSl rInt).rel w T [u] ns) :
    Calls Tryz.prog 13 #[.agg #[x0, x1, x2, x3, v], u] w fun e w' => ∃ z, e = .returned z ∧ Own rInt 3 w' w.heap.size (fun _ => False) z (matchesL rs ns) ∧ Below w.heap.size w w' := by
  obtain ⟨A, c, rfl, _, _, hl, hE⟩ := rSl.elems hr
  obtain ⟨B, d, rfl, _, _, hm, hF⟩ := rSl.elems hn
  have hl' : rs.length ≤ 4398046511104 := by simp only [rRl] at hl; omega
  have hm' : ns.length ≤ 17592186044416 := by simp only [rInt] at hm; omega
  have hb0 := (Below.refl w.heap.size w).alloc (Nat.le_refl _) (.cells #[x0, x1, x2, x3, .slice A rs.length c] 42)
  clear hr hn hl hm
  go_enter Tryz.func13, Tryz.ntmps13
  go_wp2
  go_loopw [5, 13] (fun o i wr => ∃ k : Nat, k ≤ rs.length ∧ i = .int .i64 k ∧ Own rInt 3 wr w.heap.size (fun _ => False) o (matchesTo rs ns k) ∧ Below w.heap.size w wr) (fun _ i _ => rs.length - (intOf i).toNat)
  case atStart => exact ⟨0, Nat.zero_le _, rfl, Own.nil _ _ _ _ _, hb0⟩
  case round =>
    obtain ⟨k, hk, rfl, hown, hbl⟩ := hrel
    by_cases hlt : k < rs.length
    · obtain ⟨b, off, r, q, rfl, _, hb, hx, _, hq, h1, h2⟩ := hE.rl hlt
      rw [← hbl.cell (p := ⟨b, _, none⟩) hb] at h1 h2
      have hq' := Rd.below hq hbl
      obtain ⟨A2, c2, rfl, _, _, hl2, hE2⟩ := rSl.elems hq'
      have hF' := hF.keep (Keeps.of_below hbl)
      have hsucc := matchesTo_succ rs ns k
      have hh : holdsAt rs ns k = ruleHolds r ns := by unfold holdsAt; rw [hx]
      rw [hh] at hsucc
      have HS := Lib.hid hsucc
      have hol := matchesTo_len rs ns k
      generalize matchesTo rs ns k = out at *
      have hd0 : ruleHolds r ns = (decide (r.cells.length = ns.length) && cellsHold (r.cells.drop 0) (ns.drop 0)) := by
        unfold ruleHolds
        rw [List.drop_zero, List.drop_zero]
        cases h : cellsHold r.cells ns
        · simp
        · rw [cellsHold_len h]; simp
      have hi : (k : Int) < (rs.length : Int) := by omega
      clear hsucc hh hx hq hq' hE
      obtain ⟨W1, e1, hown1, hb1, hE3, hF3, c0, hs1⟩ : ∃ W1, wr.alloc (.cells #[.slice A2 r.cells.length c2, .int .i64 r.out] 93) = W1 ∧ Own rInt 3 W1 w.heap.size (fun _ => False) u5 out ∧ Below w.heap.size w W1 ∧
          Elems rCl W1 S A2 r.cells ∧ Elems rInt W1 T B ns ∧ W1.cell? ⟨wr.heap.size, 0, none⟩ = some (.slice A2 r.cells.length c2) ∧ wr.heap.size < W1.heap.size :=
        ⟨_, rfl, hown.alloc _, hbl.alloc hbl.size _, hE2.keep (.alloc _), hF'.keep (.alloc _), World.cell?_alloc_new _ _ _ _, by simp⟩
      clear hown hF' hE2 hF
      have hdec : ((r.cells.length : Int) == (ns.length : Int)) = decide (r.cells.length = ns.length) := by
        rw [Bool.eq_iff_iff, beq_iff_eq, decide_eq_true_iff]; omega
      go_wp2
      clear e1 hdec h1 h2
      generalize wr.heap.size = q at *
      go_loopw [8, 9] (fun b i wi => ∃ (j : Nat) (ok : Bool), j ≤ ns.length ∧ i = .int .i64 j ∧ b = .bool ok ∧ Hid (ruleHolds r ns = (ok && cellsHold (r.cells.drop j) (ns.drop j))) ∧ (ok = true → r.cells.length = ns.length) ∧ Below W1.heap.size W1 wi) (fun _ i _ => ns.length - (intOf i).toNat)
      case atStart => exact ⟨0, _, Nat.zero_le _, rfl, rfl, Lib.hid hd0, fun h => of_decide_eq_true h, Below.refl _ _⟩
      case round =>
        obtain ⟨j, ok, hj, rfl, rfl, HJ, hok, hbi⟩ := hrel
        cases ok
        · have HJ' : Hid (ruleHolds r ns = false) := Lib.hid (by rw [HJ.out]; rfl)
          clear HJ hok hd0
          have HS' : Hid (matchesTo rs ns (k + 1) = out) := Lib.hid (by rw [HS.out, HJ'.out]; simp)
          go_wp2
          go_roundw
          case rel => exact ⟨k + 1, by omega, by go_num, by rw [HS'.out]; exact hown1.below hbi, hb1.trans (hbi.mono hb1.size)⟩
          case measure => simp [intOf]; omega
        · have hlen := hok rfl
          have HL := Lib.hid hlen
          by_cases hlj : j < ns.length
          · obtain ⟨b1, off1, cl, q1, rfl, _, hb2, hx1, hq1, g1, g2⟩ := hE3.cl (show j < r.cells.length by omega)
            obtain ⟨b3, off3, n, rfl, _, hb4, hx3, _, g3⟩ := hF3.intAt hlj
            rw [← hbi.cell (p := ⟨b1, _, none⟩) hb2] at g1 g2
            rw [← hbi.cell (p := ⟨b3, _, none⟩) hb4] at g3
            have g0 := c0
            rw [← hbi.cell (p := ⟨q, _, none⟩) hs1] at g0
            have hq2 := Rd.below hq1 hbi
            have HC := Lib.hid fun w' hb => Holds_any n w' (Rd.below hq2 hb)
            have HN : Hid (ruleHolds r ns = (cellHolds cl n && cellsHold (r.cells.drop (j + 1)) (ns.drop (j + 1)))) := Lib.hid (by
              rw [HJ.out, Bool.true_and]; exact cellsHold_at hx1 hx3)
            obtain ⟨A5, c5, rfl, _⟩ := rSl.elems hq1
            have hbb1 : b1 < wr.heap.size := Nat.lt_of_lt_of_le hb2 hbi.size
            have hbb3 : b3 < wr.heap.size := Nat.lt_of_lt_of_le hb4 hbi.size
            have hbb0 : q < wr.heap.size := Nat.lt_of_lt_of_le hs1 hbi.size
            have hj1 : (j : Int) < (r.cells.length : Int) := by omega
            have hj2 : (j : Int) < (ns.length : Int) := by omega
            clear HJ hok hlen hd0 hx1 hx3 hq1 hq2 hE3 hF3 c0
            go_wp2
            refine wp_region_quiet_below (by kernel_rfl) (by kernel_rfl) ?_
            repeat (go_big_quiet_step (exact Calls.inBelow HC.out _ _))
            refine wpQuiet_nil ?_
            intro _ hw'
            obtain ⟨⟨dq, osq⟩, hw''⟩ := hw'
            subst hw''
            go_wp2
            go_roundw
            case rel => exact ⟨j + 1, _, by omega, by go_num, rfl, HN, fun _ => HL.out, hbi.trans ((below_regrown _ _ _).mono hbi.size)⟩
            case measure => simp [intOf]; omega
          · have HJ' : Hid (ruleHolds r ns = true) := Lib.hid (by
              rw [HJ.out, List.drop_eq_nil_of_le (by omega), List.drop_eq_nil_of_le (by omega)]; rfl)
            have HS' : Hid (matchesTo rs ns (k + 1) = out ++ [(k : Int)]) := Lib.hid (by rw [HS.out, HJ'.out]; simp)
            have hin : InI (k : Int) := by unfold InI; omega
            have hownS := hown1.below hbi
            have hbS := hb1.trans (hbi.mono hb1.size)
            clear HJ hok hlen hd0 HL hE3 hF3 c0 hown1
            go_wp2_with (first | (at_builtin; go_must (refine wpList_append_new (R := rInt) (x := (k : Int)) el_I rfl (.tmp 44) (.tmp 46) rfl rfl hownS [.int .i64 k] rfl rfl (fun _ => False) ⟨rfl, hin⟩ (fun _ h => h.elim) ?_ hbS.size ?_; (((try simp only [rInt]) <;> omega)); intro v9 w9 hown9 hb9 _ _)))
            go_roundw
            case rel => exact ⟨k + 1, by omega, by go_num, by rw [HS'.out]; exact hown9, hbS.trans hb9⟩
            case measure => simp [intOf]; omega
    · obtain ⟨z1, z2, rfl⟩ := hown.value
      go_wp2
      go_ret
      refine ⟨_, rfl, ?_, hbl⟩
      have : k = rs.length := by omega
      subst this
      exact hown

end Go.Proofs.YtlopccnehgolnabGreatDoor

namespace Go.Proofs.YtlopccnehgolnabGreatDoor
open Go.RowKit Rb

theorem rSl.take {α : Type} {R : Rd α} {w : World} {S : Nat → Prop} {A : Option Addr} {n c : Nat} {l : List α} (h : (rSl R).rel w S [.slice A n c] l) (k : Nat) (hk : k ≤ l.length) : (rSl R).rel w S [.slice A k c] (l.take k) := by
  obtain ⟨A', c', hv, h1, h2, h3, h4⟩ := h
  simp only [List.cons.injEq, and_true] at hv
  injection hv with e1 e2 e3
  subst e1; subst e3
  have hl : (l.take k).length = k := by rw [List.length_take]; omega
  refine ⟨A, c, by rw [hl], by omega, h2, Nat.le_trans (Nat.mul_le_mul_right _ (by omega)) h3, fun i x hx => h4 i x ?_⟩
  rw [List.getElem?_take] at hx
  split at hx
  · exact hx
  · cases hx

theorem all_take {α : Type} {p : α → Bool} {l : List α} {k : Nat} {x : α} (h : l[k]? = some x) : (l.take (k + 1)).all p = ((l.take k).all p && p x) := by
  rw [take_getElem? h]; simp
theorem all_no {α : Type} {p : α → Bool} {l : List α} {k : Nat} {x : α} (h : l[k]? = some x) (hp : p x = false) : l.all p = false := by
  rw [List.all_eq_false]
  exact ⟨x, List.mem_of_getElem? h, by simp [hp]⟩

theorem goodIns_at {l : List Txt} {k : Nat} {s : Txt} (h : l[k]? = some s) : goodIns (l.take k) (l.drop k) = (named s && !(l.take k).contains s && goodIns (l.take (k + 1)) (l.drop (k + 1))) := by
  rw [drop_cons h, goodIns, take_getElem? h]

theorem head_no {t : Tb} (h : goodHead t = false) (hn : named t.name = true) : t.pol < 1 ∨ 7 < t.pol ∨ (t.ins.length : Int) < 1 ∨ 3 < (t.ins.length : Int) ∨ (t.rules.length : Int) < 1 ∨ 6 < (t.rules.length : Int) := by
  unfold goodHead at h
  rw [hn] at h
  by_cases h1 : t.pol < 1
  · exact .inl h1
  by_cases h2 : 7 < t.pol
  · exact .inr (.inl h2)
  simp only [Bool.true_and, Bool.and_eq_false_iff, decide_eq_false_iff_not] at h
  omega
theorem head_yes {t : Tb} (h : goodHead t = true) : named t.name = true ∧ 1 ≤ t.pol ∧ t.pol ≤ 7 ∧ 1 ≤ t.ins.length ∧ t.ins.length ≤ 3 ∧ 1 ≤ t.rules.length ∧ t.rules.length ≤ 6 := by
  unfold goodHead at h
  simp only [Bool.and_eq_true, decide_eq_true_iff] at h
  exact ⟨h.1.1.1.1.1.1, h.1.1.1.1.1.2, h.1.1.1.1.2, h.1.1.1.2, h.1.1.2, h.1.2, h.2⟩

theorem Named_b {s : Txt} {b : Bool} (h : named s = b) (w : World) (hs : s.length ≤ 140737488355328) : Calls Tryz.prog 81 #[.string ⟨s.toArray⟩] w fun e w' => e = .returned (.bool b) ∧ w = w' := h ▸ Named_any s w hs

set_option maxRecDepth 100000 in
set_option maxHeartbeats 1000000 in
theorem TGood_any {S : Nat → Prop} {cs : List Value} {t : Tb} (w : World) (hl : rTb.rel w S cs t) :
    Calls Tryz.prog 51 #[.agg cs.toArray] w fun e w' => e = .returned (.bool (goodT t)) ∧ Below w.heap.size w w' := by
  obtain ⟨vi, vr, rfl, hnm, hp, hi, hr⟩ := hl
  obtain ⟨A, c, rfl, hi1, hi2, hi3, hE⟩ := rSl.elems hi
  obtain ⟨B, d, rfl, hr1, hr2, hr3, hF⟩ := rSl.elems hr
  have hT : goodT t = (goodHead t && goodIns [] t.ins && t.rules.all (goodRule t.ins.length)) := rfl
  have HT := Lib.hid hT
  obtain ⟨W0, e0, hb0, hi', hE', hF', c3, c4, hs0⟩ : ∃ W0, w.alloc (.cells #[.string ⟨t.name.toArray⟩, .int .i64 t.pol, .bool t.comp, .slice A t.ins.length c, .slice B t.rules.length d] 42) = W0 ∧ Below w.heap.size w W0 ∧
      (rSl rStr).rel W0 S [.slice A t.ins.length c] t.ins ∧ Elems rStr W0 S A t.ins ∧ Elems rRl W0 S B t.rules ∧ W0.cell? ⟨w.heap.size, 3, none⟩ = some (.slice A t.ins.length c) ∧ W0.cell? ⟨w.heap.size, 4, none⟩ = some (.slice B t.rules.length d) ∧ w.heap.size < W0.heap.size :=
    ⟨_, rfl, (Below.refl _ _).alloc (Nat.le_refl _) _, Rd.alloc hi _, hE.keep (.alloc _), hF.keep (.alloc _), World.cell?_alloc_new _ _ _ _, World.cell?_alloc_new _ _ _ _, by simp⟩
  have c0 : W0.cell? ⟨w.heap.size, 0, none⟩ = some (.string ⟨t.name.toArray⟩) := by rw [← e0]; exact World.cell?_alloc_new _ _ _ _
  have c1 : W0.cell? ⟨w.heap.size, 1, none⟩ = some (.int .i64 t.pol) := by rw [← e0]; exact World.cell?_alloc_new _ _ _ _
  clear hi hr hE hF hT hi3 hr3
  cases hN : named t.name
  · have HN := Lib.hid hN
    have HF : Hid (goodT t = false) := Lib.hid (by rw [HT.out, goodHead, hN]; rfl)
    clear hN
    go_enter Tryz.func51, Tryz.ntmps51
    go_wp2_with (first | (go_at_call 81; refine (Named_b HN.out _ hnm).mono ?_; rintro e w' ⟨rfl, rfl⟩))
    go_ret
    exact ⟨ret_bool HF.out.symm, hb0⟩
  have HN := Lib.hid hN
  cases hH : goodHead t
  · have HF : Hid (goodT t = false) := Lib.hid (by rw [HT.out, hH]; rfl)
    have hx := head_no hH hN
    clear hN hH
    rcases hx with hx | hx | hx | hx | hx | hx
    all_goals
      go_enter Tryz.func51, Tryz.ntmps51
      go_wp2_with (first | (go_at_call 81; refine (Named_b HN.out _ hnm).mono ?_; rintro e w' ⟨rfl, rfl⟩))
      all_goals
        go_ret
        exact ⟨ret_bool HF.out.symm, hb0⟩
  obtain ⟨_, k1, k2, k3, k4, k5, k6⟩ := head_yes hH
  have k3' : (1 : Int) ≤ (t.ins.length : Int) := by omega
  have k4' : (t.ins.length : Int) ≤ 3 := by omega
  have k5' : (1 : Int) ≤ (t.rules.length : Int) := by omega
  have k6' : (t.rules.length : Int) ≤ 6 := by omega
  have HT2 : Hid (goodT t = (goodIns [] t.ins && t.rules.all (goodRule t.ins.length))) := Lib.hid (by rw [HT.out, hH]; simp)
  clear hN hH HT
  go_enter Tryz.func51, Tryz.ntmps51
  go_wp2_with (first | (go_at_call 81; refine (Named_b HN.out _ hnm).mono ?_; rintro e w' ⟨rfl, rfl⟩))
  go_loop [50] (fun i => ∃ k : Nat, k ≤ t.ins.length ∧ i = .int .i64 k ∧ Hid (goodIns [] t.ins = goodIns (t.ins.take k) (t.ins.drop k))) (fun i => t.ins.length - (intOf i).toNat)
  case atStart => exact ⟨0, Nat.zero_le _, rfl, Lib.hid rfl⟩
  case round =>
    obtain ⟨k, hk, rfl, HK⟩ := hrel
    by_cases hlt : k < t.ins.length
    · obtain ⟨b, off, s, rfl, _, hb, hx, hsl, h1⟩ := hE'.str hlt
      have hik : (k : Int) < (t.ins.length : Int) := by omega
      have HX := Lib.hid hx
      have hsplit := goodIns_at hx
      have HC := Lib.hid (Contains_any s W0 (rSl.take hi' k hk))
      have HK2 := Lib.hid (HK.out.trans hsplit)
      clear hsplit hx hE'
      cases hns : named s
      · have HNS := Lib.hid hns
        have HF : Hid (goodT t = false) := Lib.hid (by rw [HT2.out, HK2.out, hns]; rfl)
        clear hns
        go_wp2_with (first | (go_at_call 81; refine (Named_b HNS.out _ hsl).mono ?_; rintro e w' ⟨rfl, rfl⟩))
        go_ret
        exact ⟨ret_bool HF.out.symm, hb0⟩
      · have HNS := Lib.hid hns
        rw [hns] at HK2
        cases hcs : (t.ins.take k).contains s
        · have HK3 : Hid (goodIns [] t.ins = goodIns (t.ins.take (k + 1)) (t.ins.drop (k + 1))) := Lib.hid (by rw [HK2.out, hcs]; rfl)
          rw [hcs] at HC
          clear hns hcs HK2 HK
          go_wp2_with (first | (go_at_call 81; refine (Named_b HNS.out _ hsl).mono ?_; rintro e w' ⟨rfl, rfl⟩) | (go_at_call 75; refine HC.out.mono ?_; rintro e w' ⟨rfl, rfl⟩))
          go_round
          case rel => exact ⟨k + 1, by omega, by go_num, HK3⟩
          case measure => simp [intOf]; omega
        · have HF : Hid (goodT t = false) := Lib.hid (by rw [HT2.out, HK2.out, hcs]; rfl)
          rw [hcs] at HC
          clear hns hcs HK2 HK
          go_wp2_with (first | (go_at_call 81; refine (Named_b HNS.out _ hsl).mono ?_; rintro e w' ⟨rfl, rfl⟩) | (go_at_call 75; refine HC.out.mono ?_; rintro e w' ⟨rfl, rfl⟩))
          go_ret
          exact ⟨ret_bool HF.out.symm, hb0⟩
    · have HI : Hid (goodT t = t.rules.all (goodRule t.ins.length)) := Lib.hid (by
        rw [HT2.out, HK.out, List.drop_eq_nil_of_le (by omega)]; rfl)
      clear HK HT2 hE' hi'
      go_wp2
      go_loopw [70] (fun i wr => ∃ k : Nat, k ≤ t.rules.length ∧ i = .int .i64 k ∧ Hid ((t.rules.take k).all (goodRule t.ins.length) = true) ∧ Below W0.heap.size W0 wr) (fun i _ => t.rules.length - (intOf i).toNat)
      case atStart => exact ⟨0, Nat.zero_le _, rfl, Lib.hid rfl, Below.refl _ _⟩
      case round =>
        obtain ⟨k, hk, rfl, HK, hbl⟩ := hrel
        by_cases hlt : k < t.rules.length
        · obtain ⟨b, off, r, q, rfl, _, hb, hx, _, hq, h1, h2⟩ := hF'.rl hlt
          rw [← hbl.cell (p := ⟨b, _, none⟩) hb] at h1 h2
          have hq' := Rd.below hq hbl
          obtain ⟨A2, c2, rfl, _, _, hl2, hE2⟩ := rSl.elems hq'
          have hik : (k : Int) < (t.rules.length : Int) := by omega
          have HX := Lib.hid hx
          have g3 := c3
          rw [← hbl.cell (p := ⟨w.heap.size, _, none⟩) hs0] at g3
          have hl2' : r.cells.length ≤ 4398046511104 := by simp only [rCl] at hl2; omega
          have HF1 : Hid (goodRule t.ins.length r = false → goodT t = false) := Lib.hid (fun h => by rw [HI.out, all_no hx h])
          have HS1 : Hid (goodRule t.ins.length r = true → (t.rules.take (k + 1)).all (goodRule t.ins.length) = true) := Lib.hid (fun h => by rw [all_take hx, HK.out, h]; rfl)
          obtain ⟨W1, e1, hb1, hE3, d0, d1, d3, hs1⟩ : ∃ W1, wr.alloc (.cells #[.slice A2 r.cells.length c2, .int .i64 r.out] 93) = W1 ∧ Below W0.heap.size W0 W1 ∧
              Elems rCl W1 S A2 r.cells ∧ W1.cell? ⟨wr.heap.size, 0, none⟩ = some (.slice A2 r.cells.length c2) ∧ W1.cell? ⟨wr.heap.size, 1, none⟩ = some (.int .i64 r.out) ∧ W1.cell? ⟨w.heap.size, 3, none⟩ = some (.slice A t.ins.length c) ∧ wr.heap.size < W1.heap.size :=
            ⟨_, rfl, hbl.alloc hbl.size _, hE2.keep (.alloc _), World.cell?_alloc_new _ _ _ _, World.cell?_alloc_new _ _ _ _, (World.cell?_alloc_lt _ _ _ (World.block_lt_of_cell? _ _ g3)).trans g3, by simp⟩
          have hbW := hb0.trans (hb1.mono hb0.size)
          clear hx hq hq' hE2 g3 hl2 HK
          cases hnr : isNum r.out
          · have HNR := Lib.hid (tnumber_any r.out W1)
            rw [hnr] at HNR
            have HF : Hid (goodT t = false) := Lib.hid (HF1.out (by unfold goodRule; rw [hnr]; rfl))
            clear hnr
            go_wp2_with (first | (go_at_call 110; refine HNR.out.mono ?_; rintro e w' ⟨rfl, rfl⟩))
            go_ret
            exact ⟨ret_bool HF.out.symm, hbW⟩
          have HNR := Lib.hid (tnumber_any r.out W1)
          rw [hnr] at HNR
          by_cases hlen : r.cells.length = t.ins.length
          · have hne : ((r.cells.length : Int) != (t.ins.length : Int)) = false := by rw [bne_eq_false_iff_eq]; omega
            have HL := Lib.hid hlen
            have HR : Hid (goodRule t.ins.length r = r.cells.all goodCell) := Lib.hid (by unfold goodRule; rw [hnr, hlen]; simp)
            clear hnr hlen
            go_wp2_with (first | (go_at_call 110; refine HNR.out.mono ?_; rintro e w' ⟨rfl, rfl⟩))
            clear e1 hne h1 h2 d1 d3
            generalize wr.heap.size = p at *
            go_loopw [90] (fun i wr => ∃ j : Nat, j ≤ r.cells.length ∧ i = .int .i64 j ∧ Hid ((r.cells.take j).all goodCell = true) ∧ Below W1.heap.size W1 wr) (fun i _ => r.cells.length - (intOf i).toNat)
            case atStart => exact ⟨0, Nat.zero_le _, rfl, Lib.hid rfl, Below.refl _ _⟩
            case round =>
              obtain ⟨j, hj, rfl, HJ, hbi⟩ := hrel
              by_cases hlj : j < r.cells.length
              · obtain ⟨b1, off1, cl, q1, rfl, _, hb2, hx1, hq1, g1, g2⟩ := hE3.cl hlj
                rw [← hbi.cell (p := ⟨b1, _, none⟩) hb2] at g1 g2
                have hj1 : (j : Int) < (r.cells.length : Int) := by omega
                have hq2 := Rd.below hq1 hbi
                obtain ⟨A5, c5, rfl, _, _, hl5, _⟩ := rSl.elems hq1
                have hl5' : cl.rs.length ≤ 8796093022208 := by simp only [rRg] at hl5; omega
                clear hl5
                have HF2 : Hid (goodCell cl = false → goodT t = false) := Lib.hid (fun h => HF1.out (by rw [HR.out]; exact all_no hx1 h))
                have HS2 : Hid (goodCell cl = true → (r.cells.take (j + 1)).all goodCell = true) := Lib.hid (fun h => by rw [all_take hx1, HJ.out, h]; rfl)
                generalize hm : cl.rs.length = m at *
                generalize hno : cl.no = no at *
                obtain ⟨W2, e2, hbj, hq3, f0, f1⟩ : ∃ W2, wr.alloc (.cells #[.bool no, .slice A5 m c5] 97) = W2 ∧ Below W1.heap.size W1 W2 ∧ (rSl rRg).rel W2 S [.slice A5 m c5] cl.rs ∧
                    W2.cell? ⟨wr.heap.size, 0, none⟩ = some (.bool no) ∧ W2.cell? ⟨wr.heap.size, 1, none⟩ = some (.slice A5 m c5) :=
                  ⟨_, rfl, hbi.alloc hbi.size _, Rd.alloc hq2 _, World.cell?_alloc_new _ _ _ _, World.cell?_alloc_new _ _ _ _⟩
                have HG := Lib.hid (Good_any W2 hq3)
                clear hx1 hq1 hq2 hq3 HJ
                have hgc : goodCell cl = (decide (m ≤ 4) && isSet cl.rs && !(no && decide (m = 0))) := by rw [← hm, ← hno]; rfl
                have HGC := Lib.hid hgc
                clear hgc hm hno
                have h5 : 4 < (m : Int) ∨ ((m : Int) ≤ 4 ∧ isSet cl.rs = false) ∨ ((m : Int) ≤ 4 ∧ isSet cl.rs = true ∧ no = false) ∨ ((m : Int) ≤ 4 ∧ isSet cl.rs = true ∧ no = true ∧ m = 0) ∨ ((m : Int) ≤ 4 ∧ isSet cl.rs = true ∧ no = true ∧ ((m : Int) == 0) = false) := by
                  cases isSet cl.rs <;> cases no <;> simp <;> omega
                rcases h5 with h5 | ⟨h5, h6⟩ | ⟨h5, h6, rfl⟩ | ⟨h5, h6, rfl, rfl⟩ | ⟨h5, h6, rfl, h7⟩
                · have hd5 : decide (4 < (m : Int)) = true := by simp; omega
                  have HF : Hid (goodT t = false) := Lib.hid (HF2.out (by rw [HGC.out, show decide (m ≤ 4) = false by simp; omega]; rfl))
                  go_wp2
                  go_ret
                  exact ⟨ret_bool HF.out.symm, hbW.trans (hbj.mono hbW.size)⟩
                · have hd5 : decide (4 < (m : Int)) = false := by simp; omega
                  have HF : Hid (goodT t = false) := Lib.hid (HF2.out (by rw [HGC.out, h6]; simp))
                  rw [h6] at HG
                  clear h6
                  go_wp2_with (first | (go_at_call 111; refine HG.out.mono ?_; rintro e w3 ⟨rfl, hb3⟩))
                  go_ret
                  exact ⟨ret_bool HF.out.symm, (hbW.trans (hbj.mono hbW.size)).trans (hb3.mono (Nat.le_trans hbW.size hbj.size))⟩
                · have hd5 : decide (4 < (m : Int)) = false := by simp; omega
                  have HS : Hid (goodCell cl = true) := Lib.hid (by rw [HGC.out, h6, show decide (m ≤ 4) = true by simp; omega]; rfl)
                  rw [h6] at HG
                  clear h6
                  go_wp2_with (first | (go_at_call 111; refine HG.out.mono ?_; rintro e w3 ⟨rfl, hb3⟩; (try have f0' := (hb3.cell (p := ⟨wr.heap.size, 0, none⟩) (World.block_lt_of_cell? _ _ f0)).trans f0); (try have f1' := (hb3.cell (p := ⟨wr.heap.size, 1, none⟩) (World.block_lt_of_cell? _ _ f1)).trans f1)))
                  go_roundw
                  case rel => exact ⟨j + 1, by omega, by go_num, Lib.hid (HS2.out HS.out), hbj.trans (hb3.mono hbj.size)⟩
                  case measure => simp [intOf]; omega
                · have hd5 : decide (4 < (((0 : Nat) : Int) : Int)) = false := by simp
                  have HF : Hid (goodT t = false) := Lib.hid (HF2.out (by rw [HGC.out]; simp))
                  rw [h6] at HG
                  clear h6
                  go_wp2_with (first | (go_at_call 111; refine HG.out.mono ?_; rintro e w3 ⟨rfl, hb3⟩; (try have f0' := (hb3.cell (p := ⟨wr.heap.size, 0, none⟩) (World.block_lt_of_cell? _ _ f0)).trans f0); (try have f1' := (hb3.cell (p := ⟨wr.heap.size, 1, none⟩) (World.block_lt_of_cell? _ _ f1)).trans f1)))
                  go_ret
                  exact ⟨ret_bool HF.out.symm, (hbW.trans (hbj.mono hbW.size)).trans (hb3.mono (Nat.le_trans hbW.size hbj.size))⟩
                · have hd5 : decide (4 < (m : Int)) = false := by simp; omega
                  have HS : Hid (goodCell cl = true) := Lib.hid (by
                    have : ¬ m = 0 := by rintro rfl; simp at h7
                    rw [HGC.out, h6, show decide (m ≤ 4) = true by simp; omega]; simp [this])
                  rw [h6] at HG
                  clear h6
                  go_wp2_with (first | (go_at_call 111; refine HG.out.mono ?_; rintro e w3 ⟨rfl, hb3⟩; (try have f0' := (hb3.cell (p := ⟨wr.heap.size, 0, none⟩) (World.block_lt_of_cell? _ _ f0)).trans f0); (try have f1' := (hb3.cell (p := ⟨wr.heap.size, 1, none⟩) (World.block_lt_of_cell? _ _ f1)).trans f1)))
                  go_roundw
                  case rel => exact ⟨j + 1, by omega, by go_num, Lib.hid (HS2.out HS.out), hbj.trans (hb3.mono hbj.size)⟩
                  case measure => simp [intOf]; omega
              · have HS : Hid ((t.rules.take (k + 1)).all (goodRule t.ins.length) = true) := Lib.hid (HS1.out (by
                  have := HJ.out
                  rw [List.take_of_length_le (by omega)] at this
                  rw [HR.out, this]))
                go_wp2
                go_roundw
                case rel => exact ⟨k + 1, by omega, by go_num, HS, hb1.trans (hbi.mono hb1.size)⟩
                case measure => simp [intOf]; omega
          · have hne : ((r.cells.length : Int) != (t.ins.length : Int)) = true := by rw [bne_iff_ne]; omega
            have HF : Hid (goodT t = false) := Lib.hid (HF1.out (by unfold goodRule; simp [hlen]))
            clear hnr hlen
            go_wp2_with (first | (go_at_call 110; refine HNR.out.mono ?_; rintro e w' ⟨rfl, rfl⟩))
            go_ret
            exact ⟨ret_bool HF.out.symm, hbW⟩
        · have HF : Hid (goodT t = true) := Lib.hid (by
            have := HK.out
            rw [List.take_of_length_le (by omega)] at this
            rw [HI.out, this])
          go_wp2
          go_ret
          exact ⟨ret_bool HF.out.symm, hb0.trans (hbl.mono hb0.size)⟩

end Go.Proofs.YtlopccnehgolnabGreatDoor

namespace Go.Proofs.YtlopccnehgolnabGreatDoor
open Go.RowKit Rb

def cmpL : List Int → List Int → Int
  | x :: a, y :: b => if x < y then -1 else if y < x then 1 else cmpL a b
  | _ :: _, [] => 1
  | [], _ :: _ => -1
  | [], [] => 0
theorem cmpL_at {a b : List Int} {k : Nat} {x y : Int} (hx : a[k]? = some x) (hy : b[k]? = some y) :
    cmpL (a.drop k) (b.drop k) = if x < y then -1 else if y < x then 1 else cmpL (a.drop (k + 1)) (b.drop (k + 1)) := by
  rw [drop_cons hx, drop_cons hy]; rfl
theorem cmpL_in : ∀ (a b : List Int), -1 ≤ cmpL a b ∧ cmpL a b ≤ 1
  | [], [] => by decide
  | [], _ :: _ => by simp [cmpL]
  | _ :: _, [] => by simp [cmpL]
  | x :: a, y :: b => by
    unfold cmpL
    have := cmpL_in a b
    split
    · decide
    · split
      · decide
      · exact this

set_option maxRecDepth 100000 in
set_option maxHeartbeats 400000 in
theorem Compare_any {S T : Nat → Prop} {v u : Value} {a b : List Int} (w : World) (hl : (rSl rInt).rel w S [v] a) (hm : (rSl rInt).rel w T [u] b) :
    Calls Tryz.prog 113 #[v, u] w fun e w' => e = .returned (.int .i64 (cmpL a b)) ∧ w = w' := by
  have hal := rSl.lenle hl (by decide)
  have hbl := rSl.lenle hm (by decide)
  obtain ⟨A, c, rfl, _, _, _, hE⟩ := rSl.elems hl
  obtain ⟨B, d, rfl, _, _, _, hF⟩ := rSl.elems hm
  clear hl hm
  go_enter Tryz.func113, Tryz.ntmps113
  go_wp2
  go_loopw [11] (fun i wr => ∃ k : Nat, k ≤ a.length ∧ i = .int .i64 k ∧ Hid (cmpL a b = cmpL (a.drop k) (b.drop k)) ∧ Hid (k ≤ b.length) ∧ w = wr) (fun i _ => a.length - (intOf i).toNat)
  case atStart => exact ⟨0, Nat.zero_le _, rfl, Lib.hid rfl, Lib.hid (Nat.zero_le _), rfl⟩
  case round =>
    obtain ⟨k, hk, rfl, HI, HK, rfl⟩ := hrel
    by_cases hlt : k < a.length
    · obtain ⟨p, off, x, rfl, _, hp, hx, hxi, g1⟩ := hE.intAt hlt
      have hik : (k : Int) < (a.length : Int) := by omega
      by_cases hlt2 : k < b.length
      · obtain ⟨q, off', y, rfl, _, hq, hy, hyi, g2⟩ := hF.intAt hlt2
        have HAT := Lib.hid (cmpL_at hx hy)
        have hik2 : (k : Int) < (b.length : Int) := by omega
        have hik3 : ¬ (b.length : Int) ≤ (k : Int) := by omega
        clear hx hy hE hF
        by_cases h1 : x < y
        · have HF' : Hid (cmpL a b = -1) := Lib.hid (by rw [HI.out, HAT.out, if_pos h1])
          go_wp2
          go_ret
          exact ⟨by rw [HF'.out]; rfl, rfl⟩
        · by_cases h2 : y < x
          · have HF' : Hid (cmpL a b = 1) := Lib.hid (by rw [HI.out, HAT.out, if_neg h1, if_pos h2])
            go_wp2
            go_ret
            exact ⟨by rw [HF'.out]; rfl, rfl⟩
          · have HF' := Lib.hid (HI.out.trans (by rw [HAT.out, if_neg h1, if_neg h2]))
            go_wp2
            go_roundw
            case rel => exact ⟨k + 1, by omega, by go_num, HF', Lib.hid (by omega), by trivial⟩
            case measure => simp [intOf]; omega
      · have hke : k = b.length := by have := HK.out; omega
        have HF' : Hid (cmpL a b = 1) := Lib.hid (by rw [HI.out, show b.drop k = [] from List.drop_eq_nil_of_le (by omega), drop_cons hx]; rfl)
        have hik3 : (b.length : Int) ≤ (k : Int) := by omega
        clear hke hx hE hF
        go_wp2
        go_ret
        exact ⟨by rw [HF'.out]; rfl, rfl⟩
    · have hke : k = a.length := by omega
      clear hE hF
      have hkb := HK.out
      by_cases h : a.length < b.length
      · have HF' : Hid (cmpL a b = -1) := Lib.hid (by rw [HI.out, show a.drop k = [] from List.drop_eq_nil_of_le (by omega), drop_cons (l := b) (k := k) (List.getElem?_eq_getElem (by omega))]; rfl)
        have h9 : (a.length : Int) < (b.length : Int) := by omega
        clear hke
        go_wp2
        go_ret
        exact ⟨by rw [HF'.out]; rfl, rfl⟩
      · have HF' : Hid (cmpL a b = 0) := Lib.hid (by rw [HI.out, show a.drop k = [] from List.drop_eq_nil_of_le (by omega), show b.drop k = [] from List.drop_eq_nil_of_le (by omega)]; rfl)
        have h9 : ¬ (a.length : Int) < (b.length : Int) := by omega
        clear hke
        go_wp2
        go_ret
        exact ⟨by rw [HF'.out]; rfl, rfl⟩

def leastStep (o : List Int) (b : Bx) : List Int := if cmpL (pointBx b) o < 0 then pointBx b else o
def leastB : List Bx → List Int
  | [] => []
  | b :: l => l.foldl leastStep (pointBx b)
/-- The least of the first k boxes. -/
theorem leastB_take {l : List Bx} {k : Nat} {b : Bx} (h : l[k]? = some b) (h0 : 0 < k) : leastB (l.take (k + 1)) = leastStep (leastB (l.take k)) b := by
  rw [take_getElem? h]
  have hk : k < l.length := (List.getElem?_eq_some_iff.1 h).1
  cases hl : l.take k with
  | nil => have := congrArg List.length hl; rw [List.length_take, List.length_nil] at this; omega
  | cons x l' =>
    show (l' ++ [b]).foldl leastStep (pointBx x) = _
    rw [List.foldl_append]; rfl
theorem leastB_one {l : List Bx} {b : Bx} (h : l[0]? = some b) : leastB (l.take (0 + 1)) = pointBx b := by
  rw [take_getElem? h]; rfl

theorem Point_at' {S : Nat → Prop} {v : Value} {b : Bx} {p : List Int} (w : World) (hl : rBx.rel w S [v] b) (h : pointBx b = p) :
    Calls Tryz.prog 112 #[v] w fun e w' => ∃ z, e = .returned z ∧ Own rInt 3 w' w.heap.size (fun _ => False) z p ∧ Below w.heap.size w w' := h ▸ Point_any w hl
theorem Compare_at {S T : Nat → Prop} {v u : Value} {a b : List Int} {n : Int} (w : World) (hl : (rSl rInt).rel w S [v] a) (hm : (rSl rInt).rel w T [u] b) (h : cmpL a b = n) :
    Calls Tryz.prog 113 #[v, u] w fun e w' => e = .returned (.int .i64 n) ∧ w = w' := h ▸ Compare_any w hl hm

set_option maxRecDepth 100000 in
set_option maxHeartbeats 400000 in
theorem least_any {S : Nat → Prop} {v : Value} {l : List Bx} (w : World) (hl : (rSl rBx).rel w S [v] l) :
    Calls Tryz.prog 53 #[v] w fun e w' => ∃ z S', e = .returned (.tuple #[z, .bool (decide (0 < l.length))]) ∧ (rSl rInt).rel w' S' [z] (leastB l) ∧ Below w.heap.size w w' := by
  have hal := rSl.lenle hl (by decide)
  obtain ⟨A, c, rfl, _, _, _, hE⟩ := rSl.elems hl
  clear hl
  go_enter Tryz.func53, Tryz.ntmps53
  go_wp2
  go_loopw [4, 10] (fun o i wr => ∃ (k : Nat) (out : List Int) (Ao : Option Addr) (co : Nat), k ≤ l.length ∧ i = .int .i64 k ∧ o = .slice Ao out.length co ∧ Hid (leastB (l.take k) = out) ∧ Hid (∃ S', (rSl rInt).rel wr S' [.slice Ao out.length co] out) ∧ Below w.heap.size w wr) (fun _ i _ => l.length - (intOf i).toNat)
  case atStart => exact ⟨0, [], none, 0, Nat.zero_le _, rfl, rfl, Lib.hid rfl, Lib.hid ⟨fun _ => True, none, 0, rfl, Nat.le_refl _, by decide, by decide, fun i x hx => by simp at hx⟩, Below.refl _ _⟩
  case round =>
    obtain ⟨k, out, Ao, co, hk, rfl, rfl, HI, HS, hb⟩ := hrel
    by_cases hlt : k < l.length
    · obtain ⟨p, off, v', b, rfl, _, hp, hx, hs, g1⟩ := Elems.sl (R := rSl rRg) hE hlt
      rw [← hb.cell (p := ⟨p, _, none⟩) hp] at g1
      have hik : (k : Int) < (l.length : Int) := by omega
      have HX := Lib.hid (show rBx.rel wr _ _ _ from Rd.below hs hb)
      have HXX := Lib.hid hx
      obtain ⟨A2, c2, rfl, _⟩ := rSl.elems hs
      generalize hpp : pointBx b = pp at *
      have HP := Lib.hid hpp
      clear hx hs hpp
      rcases Nat.eq_zero_or_pos k with h0 | h0
      · subst h0
        simp only [Nat.add_zero] at g1
        have HQ : Hid (leastB (l.take (0 + 1)) = pp) := Lib.hid ((leastB_one HXX.out).trans HP.out)
        go_wp2_with (first | (go_at_call 112; go_must ((with_reducible refine (Point_at' wr HX.out HP.out).mono ?_); rintro e w4 ⟨z4, rfl, how4, hb4⟩; obtain ⟨A4, c4, rfl⟩ := how4.value)))
        go_roundw
        case rel => exact ⟨1, pp, A4, c4, by omega, by go_num, rfl, HQ, Lib.hid ⟨_, how4.rel (by decide)⟩, hb.trans (hb4.mono hb.size)⟩
        case measure => simp [intOf]; omega
      · have HQ : Hid (leastB (l.take (k + 1)) = if cmpL pp out < 0 then pp else out) := Lib.hid (by rw [leastB_take HXX.out h0, HI.out, ← HP.out]; rfl)
        have hk0 : ((k : Int) == 0) = false := by rw [beq_eq_false_iff_ne]; omega
        obtain ⟨S9, hS9⟩ := HS.out
        have HS9 := Lib.hid hS9
        clear hS9
        generalize hcm : cmpL pp out = cm at *
        have HC := Lib.hid hcm
        clear hcm
        by_cases hc : cm < 0
        · have HQ' : Hid (leastB (l.take (k + 1)) = pp) := Lib.hid (by rw [HQ.out, if_pos hc])
          go_wp2_with (first | (go_at_call 112; go_must ((with_reducible refine (Point_at' wr HX.out HP.out).mono ?_); rintro e w4 ⟨z4, rfl, how4, hb4⟩; obtain ⟨A4, c4, rfl⟩ := how4.value; have hr4 := how4.rel (by decide))) | (go_at_call 113; go_must ((with_reducible refine (Compare_at w4 hr4 (Rd.below HS9.out hb4) HC.out).mono ?_); rintro e w5 ⟨rfl, rfl⟩)))
          go_roundw
          case rel => exact ⟨k + 1, pp, A4, c4, by omega, by go_num, rfl, HQ', Lib.hid ⟨_, hr4⟩, hb.trans (hb4.mono hb.size)⟩
          case measure => simp [intOf]; omega
        · have HQ' : Hid (leastB (l.take (k + 1)) = out) := Lib.hid (by rw [HQ.out, if_neg hc])
          go_wp2_with (first | (go_at_call 112; go_must ((with_reducible refine (Point_at' wr HX.out HP.out).mono ?_); rintro e w4 ⟨z4, rfl, how4, hb4⟩; obtain ⟨A4, c4, rfl⟩ := how4.value; have hr4 := how4.rel (by decide))) | (go_at_call 113; go_must ((with_reducible refine (Compare_at w4 hr4 (Rd.below HS9.out hb4) HC.out).mono ?_); rintro e w5 ⟨rfl, rfl⟩)))
          go_roundw
          case rel => exact ⟨k + 1, out, Ao, co, by omega, by go_num, rfl, HQ', Lib.hid ⟨_, Rd.below HS9.out hb4⟩, hb.trans (hb4.mono hb.size)⟩
          case measure => simp [intOf]; omega
    · have HQ : Hid (leastB l = out) := Lib.hid (by rw [← HI.out, List.take_of_length_le (by omega)])
      obtain ⟨S9, hS9⟩ := HS.out
      have HD : Hid (decide ((0 : Int) < (l.length : Int)) = decide (0 < l.length)) := Lib.hid (by rw [decide_eq_decide]; omega)
      go_wp2
      go_ret2
      exact ⟨_, S9, by rw [← HD.out]; rfl, by rw [HQ.out]; exact hS9, hb⟩

end Go.Proofs.YtlopccnehgolnabGreatDoor
