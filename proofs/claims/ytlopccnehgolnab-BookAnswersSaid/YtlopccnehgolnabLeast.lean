
/- The contracts of Compare and least: the least input of boxes. -/
import Derived.Test.YtlopccnehgolnabBoxA
namespace Go.Proofs.Ytlopccnehgolnab
open Go.RowKit Rb

def cmpL : List Int → List Int → Int
  | x :: a, y :: b => if x < y then -1 else if y < x then 1 else cmpL a b
  | _ :: _, [] => 1
  | [], _ :: _ => -1
  | [], [] => 0
theorem cmpL_at {a b : List Int} {k : Nat} {x y : Int} (hx : a[k]? = some x) (hy : b[k]? = some y) :
    cmpL (a.drop k) (b.drop k) = if x < y then -1 else if y < x then 1 else cmpL (a.drop (k + 1)) (b.drop (k + 1)) := by
  rw [drop_cons hx, drop_cons hy]; rfl
theorem cmpL_in : ∀ (a b : List Int), -1 ≤ cmpL a b ∧ cmpL a b ≤ 1
  | [], [] => by decide
  | [], _ :: _ => by simp [cmpL]
  | _ :: _, [] => by simp [cmpL]
  | x :: a, y :: b => by
    unfold cmpL
    have := cmpL_in a b
    split
    · decide
    · split
      · decide
      · exact this

set_option maxRecDepth 100000 in
set_option maxHeartbeats 400000 in
theorem Compare_any {S T : Nat → Prop} {v u : Value} {a b : List Int} (w : World) (hl : (rSl rInt).rel w S [v] a) (hm : (rSl rInt).rel w T [u] b) :
    Calls Try.prog 44 #[v, u] w fun e w' => e = .returned (.int .i64 (cmpL a b)) ∧ w = w' := by
  have hal := rSl.lenle hl (by decide)
  have hbl := rSl.lenle hm (by decide)
  obtain ⟨A, c, rfl, _, _, _, hE⟩ := rSl.elems hl
  obtain ⟨B, d, rfl, _, _, _, hF⟩ := rSl.elems hm
  clear hl hm
  go_enter Try.func44, Try.ntmps44
  go_wp2
  go_loopw [11] (fun i wr => ∃ k : Nat, k ≤ a.length ∧ i = .int .i64 k ∧ Hid (cmpL a b = cmpL (a.drop k) (b.drop k)) ∧ Hid (k ≤ b.length) ∧ w = wr) (fun i _ => a.length - (intOf i).toNat)
  case atStart => exact ⟨0, Nat.zero_le _, rfl, Lib.hid rfl, Lib.hid (Nat.zero_le _), rfl⟩
  case round =>
    obtain ⟨k, hk, rfl, HI, HK, rfl⟩ := hrel
    by_cases hlt : k < a.length
    · obtain ⟨p, off, x, rfl, _, hp, hx, hxi, g1⟩ := hE.intAt hlt
      have hik : (k : Int) < (a.length : Int) := by omega
      by_cases hlt2 : k < b.length
      · obtain ⟨q, off', y, rfl, _, hq, hy, hyi, g2⟩ := hF.intAt hlt2
        have HAT := Lib.hid (cmpL_at hx hy)
        have hik2 : (k : Int) < (b.length : Int) := by omega
        have hik3 : ¬ (b.length : Int) ≤ (k : Int) := by omega
        clear hx hy hE hF
        by_cases h1 : x < y
        · have HF' : Hid (cmpL a b = -1) := Lib.hid (by rw [HI.out, HAT.out, if_pos h1])
          go_wp2
          go_ret
          exact ⟨by rw [HF'.out]; rfl, rfl⟩
        · by_cases h2 : y < x
          · have HF' : Hid (cmpL a b = 1) := Lib.hid (by rw [HI.out, HAT.out, if_neg h1, if_pos h2])
            go_wp2
            go_ret
            exact ⟨by rw [HF'.out]; rfl, rfl⟩
          · have HF' := Lib.hid (HI.out.trans (by rw [HAT.out, if_neg h1, if_neg h2]))
            go_wp2
            go_roundw
            case rel => exact ⟨k + 1, by omega, by go_num, HF', Lib.hid (by omega), by trivial⟩
            case measure => simp [intOf]; omega
      · have hke : k = b.length := by have := HK.out; omega
        have HF' : Hid (cmpL a b = 1) := Lib.hid (by rw [HI.out, show b.drop k = [] from List.drop_eq_nil_of_le (by omega), drop_cons hx]; rfl)
        have hik3 : (b.length : Int) ≤ (k : Int) := by omega
        clear hke hx hE hF
        go_wp2
        go_ret
        exact ⟨by rw [HF'.out]; rfl, rfl⟩
    · have hke : k = a.length := by omega
      clear hE hF
      have hkb := HK.out
      by_cases h : a.length < b.length
      · have HF' : Hid (cmpL a b = -1) := Lib.hid (by rw [HI.out, show a.drop k = [] from List.drop_eq_nil_of_le (by omega), drop_cons (l := b) (k := k) (List.getElem?_eq_getElem (by omega))]; rfl)
        have h9 : (a.length : Int) < (b.length : Int) := by omega
        clear hke
        go_wp2
        go_ret
        exact ⟨by rw [HF'.out]; rfl, rfl⟩
      · have HF' : Hid (cmpL a b = 0) := Lib.hid (by rw [HI.out, show a.drop k = [] from List.drop_eq_nil_of_le (by omega), show b.drop k = [] from List.drop_eq_nil_of_le (by omega)]; rfl)
        have h9 : ¬ (a.length : Int) < (b.length : Int) := by omega
        clear hke
        go_wp2
        go_ret
        exact ⟨by rw [HF'.out]; rfl, rfl⟩

def leastStep (o : List Int) (b : Bx) : List Int := if cmpL (pointBx b) o < 0 then pointBx b else o
def leastB : List Bx → List Int
  | [] => []
  | b :: l => l.foldl leastStep (pointBx b)
/-- The least of the first k boxes. -/
theorem leastB_take {l : List Bx} {k : Nat} {b : Bx} (h : l[k]? = some b) (h0 : 0 < k) : leastB (l.take (k + 1)) = leastStep (leastB (l.take k)) b := by
  rw [take_getElem? h]
  have hk : k < l.length := (List.getElem?_eq_some_iff.1 h).1
  cases hl : l.take k with
  | nil => have := congrArg List.length hl; rw [List.length_take, List.length_nil] at this; omega
  | cons x l' =>
    show (l' ++ [b]).foldl leastStep (pointBx x) = _
    rw [List.foldl_append]; rfl
theorem leastB_one {l : List Bx} {b : Bx} (h : l[0]? = some b) : leastB (l.take (0 + 1)) = pointBx b := by
  rw [take_getElem? h]; rfl

theorem Point_at' {S : Nat → Prop} {v : Value} {b : Bx} {p : List Int} (w : World) (hl : rBx.rel w S [v] b) (h : pointBx b = p) :
    Calls Try.prog 43 #[v] w fun e w' => ∃ z, e = .returned z ∧ Own rInt 3 w' w.heap.size (fun _ => False) z p ∧ Below w.heap.size w w' := h ▸ Point_any w hl
theorem Compare_at {S T : Nat → Prop} {v u : Value} {a b : List Int} {n : Int} (w : World) (hl : (rSl rInt).rel w S [v] a) (hm : (rSl rInt).rel w T [u] b) (h : cmpL a b = n) :
    Calls Try.prog 44 #[v, u] w fun e w' => e = .returned (.int .i64 n) ∧ w = w' := h ▸ Compare_any w hl hm

set_option maxRecDepth 100000 in
set_option maxHeartbeats 400000 in
theorem least_any {S : Nat → Prop} {v : Value} {l : List Bx} (w : World) (hl : (rSl rBx).rel w S [v] l) :
    Calls Try.prog 28 #[v] w fun e w' => ∃ z S', e = .returned (.tuple #[z, .bool (decide (0 < l.length))]) ∧ (rSl rInt).rel w' S' [z] (leastB l) ∧ Below w.heap.size w w' := by
  have hal := rSl.lenle hl (by decide)
  obtain ⟨A, c, rfl, _, _, _, hE⟩ := rSl.elems hl
  clear hl
  go_enter Try.func28, Try.ntmps28
  go_wp2
  go_loopw [4, 10] (fun o i wr => ∃ (k : Nat) (out : List Int) (Ao : Option Addr) (co : Nat), k ≤ l.length ∧ i = .int .i64 k ∧ o = .slice Ao out.length co ∧ Hid (leastB (l.take k) = out) ∧ Hid (∃ S', (rSl rInt).rel wr S' [.slice Ao out.length co] out) ∧ Below w.heap.size w wr) (fun _ i _ => l.length - (intOf i).toNat)
  case atStart => exact ⟨0, [], none, 0, Nat.zero_le _, rfl, rfl, Lib.hid rfl, Lib.hid ⟨fun _ => True, none, 0, rfl, Nat.le_refl _, by decide, by decide, fun i x hx => by simp at hx⟩, Below.refl _ _⟩
  case round =>
    obtain ⟨k, out, Ao, co, hk, rfl, rfl, HI, HS, hb⟩ := hrel
    by_cases hlt : k < l.length
    · obtain ⟨p, off, v', b, rfl, _, hp, hx, hs, g1⟩ := Elems.sl (R := rSl rRg) hE hlt
      rw [← hb.cell (p := ⟨p, _, none⟩) hp] at g1
      have hik : (k : Int) < (l.length : Int) := by omega
      have HX := Lib.hid (show rBx.rel wr _ _ _ from Rd.below hs hb)
      have HXX := Lib.hid hx
      obtain ⟨A2, c2, rfl, _⟩ := rSl.elems hs
      generalize hpp : pointBx b = pp at *
      have HP := Lib.hid hpp
      clear hx hs hpp
      rcases Nat.eq_zero_or_pos k with h0 | h0
      · subst h0
        simp only [Nat.add_zero] at g1
        have HQ : Hid (leastB (l.take (0 + 1)) = pp) := Lib.hid ((leastB_one HXX.out).trans HP.out)
        go_wp2_with (first | (go_at_call 43; go_must ((with_reducible refine (Point_at' wr HX.out HP.out).mono ?_); rintro e w4 ⟨z4, rfl, how4, hb4⟩; obtain ⟨A4, c4, rfl⟩ := how4.value)))
        go_roundw
        case rel => exact ⟨1, pp, A4, c4, by omega, by go_num, rfl, HQ, Lib.hid ⟨_, how4.rel (by decide)⟩, hb.trans (hb4.mono hb.size)⟩
        case measure => simp [intOf]; omega
      · have HQ : Hid (leastB (l.take (k + 1)) = if cmpL pp out < 0 then pp else out) := Lib.hid (by rw [leastB_take HXX.out h0, HI.out, ← HP.out]; rfl)
        have hk0 : ((k : Int) == 0) = false := by rw [beq_eq_false_iff_ne]; omega
        obtain ⟨S9, hS9⟩ := HS.out
        have HS9 := Lib.hid hS9
        clear hS9
        generalize hcm : cmpL pp out = cm at *
        have HC := Lib.hid hcm
        clear hcm
        by_cases hc : cm < 0
        · have HQ' : Hid (leastB (l.take (k + 1)) = pp) := Lib.hid (by rw [HQ.out, if_pos hc])
          go_wp2_with (first | (go_at_call 43; go_must ((with_reducible refine (Point_at' wr HX.out HP.out).mono ?_); rintro e w4 ⟨z4, rfl, how4, hb4⟩; obtain ⟨A4, c4, rfl⟩ := how4.value; have hr4 := how4.rel (by decide))) | (go_at_call 44; go_must ((with_reducible refine (Compare_at w4 hr4 (Rd.below HS9.out hb4) HC.out).mono ?_); rintro e w5 ⟨rfl, rfl⟩)))
          go_roundw
          case rel => exact ⟨k + 1, pp, A4, c4, by omega, by go_num, rfl, HQ', Lib.hid ⟨_, hr4⟩, hb.trans (hb4.mono hb.size)⟩
          case measure => simp [intOf]; omega
        · have HQ' : Hid (leastB (l.take (k + 1)) = out) := Lib.hid (by rw [HQ.out, if_neg hc])
          go_wp2_with (first | (go_at_call 43; go_must ((with_reducible refine (Point_at' wr HX.out HP.out).mono ?_); rintro e w4 ⟨z4, rfl, how4, hb4⟩; obtain ⟨A4, c4, rfl⟩ := how4.value; have hr4 := how4.rel (by decide))) | (go_at_call 44; go_must ((with_reducible refine (Compare_at w4 hr4 (Rd.below HS9.out hb4) HC.out).mono ?_); rintro e w5 ⟨rfl, rfl⟩)))
          go_roundw
          case rel => exact ⟨k + 1, out, Ao, co, by omega, by go_num, rfl, HQ', Lib.hid ⟨_, Rd.below HS9.out hb4⟩, hb.trans (hb4.mono hb.size)⟩
          case measure => simp [intOf]; omega
    · have HQ : Hid (leastB l = out) := Lib.hid (by rw [← HI.out, List.take_of_length_le (by omega)])
      obtain ⟨S9, hS9⟩ := HS.out
      have HD : Hid (decide ((0 : Int) < (l.length : Int)) = decide (0 < l.length)) := Lib.hid (by rw [decide_eq_decide]; omega)
      go_wp2
      go_ret2
      exact ⟨_, S9, by rw [← HD.out]; rfl, by rw [HQ.out]; exact hS9, hb⟩

end Go.Proofs.Ytlopccnehgolnab
