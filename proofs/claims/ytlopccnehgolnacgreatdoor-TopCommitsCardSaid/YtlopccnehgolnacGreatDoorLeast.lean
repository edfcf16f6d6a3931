import Derived.Test.YtlopccnehgolnacGreatDoorGCommits11
namespace Go.Proofs.YtlopccnehgolnacGreatDoor
open Go.RowKit Rb
open Go.Lib renaming hid -> hI
open List renaming drop_eq_nil_of_le -> jA
open Nat renaming zero_le -> jB
open Rd renaming below -> jC
set_option maxRecDepth 100000
set_option maxHeartbeats 400000
def cmpL : List Int -> List Int -> Int
 | x :: a, y :: b => if x < y then -1 else if y < x then 1 else cmpL a b
 | _ :: _, [] => 1
 | [], _ :: _ => -1
 | [], [] => 0
theorem Y91 {a b : List Int} {k : Nat} {x y : Int} (hx : a[k]? = some x) (hy : b[k]? = some y) :
  cmpL (a.drop k) (b.drop k) = if x < y then -1 else if y < x then 1 else cmpL (a.drop (k + 1)) (b.drop (k + 1)) := by
 rw [Z0m hx, Z0m hy]; rfl
theorem Y2j {S T : Nat -> Prop} {v u : Value} {a b : List Int} (w : World) (hl : (rSl rInt).rel w S [v] a) (hm : (rSl rInt).rel w T [u] b) :
  Calls Tryz.prog 146 #[v, u] w fun e w' => e = .returned (.int .i64 (cmpL a b)) /\ w = w' := by
 have hal := rSl.lenle hl (by decide)
 have hbl := rSl.lenle hm (by decide)
 obtain ⟨A, c, rfl, _, _, _, hE⟩ := rSl.elems hl
 obtain ⟨B, d, rfl, _, _, _, hF⟩ := rSl.elems hm
 clear hl hm
 go_enter Tryz.func146, Tryz.ntmps146
 go_wp2
 go_loopw [11] (fun i wr => ∃ k : Nat, k <= a.length /\ i = .int .i64 k /\ Hid (cmpL a b = cmpL (a.drop k) (b.drop k)) /\ Hid (k <= b.length) /\ w = wr) (fun i _ => a.length - (intOf i).toNat)
 case atStart => exact ⟨0, jB _, rfl, hI rfl, hI (jB _), rfl⟩
 case round =>
  obtain ⟨k, hk, rfl, HI, HK, rfl⟩ := hrel
  by_cases hlt : k < a.length
  ·obtain ⟨p, off, x, rfl, _, hp, hx, hxi, g1⟩ := hE.intAt hlt
   have hik : (k : Int) < (a.length : Int) := by omega
   by_cases hlt2 : k < b.length
   ·obtain ⟨q, off', y, rfl, _, hq, hy, hyi, g2⟩ := hF.intAt hlt2
    have HAT := hI (Y91 hx hy)
    have hik2 : (k : Int) < (b.length : Int) := by omega
    have hik3 : ¬ (b.length : Int) <= (k : Int) := by omega
    clear hx hy hE hF
    by_cases h1 : x < y
    ·have HF' : Hid (cmpL a b = -1) := hI (by rw [HI.out, HAT.out, if_pos h1])
     go_wp2
     go_ret
     exact ⟨by rw [HF'.out]; rfl, rfl⟩
    ·by_cases h2 : y < x
     ·have HF' : Hid (cmpL a b = 1) := hI (by rw [HI.out, HAT.out, if_neg h1, if_pos h2])
      go_wp2
      go_ret
      exact ⟨by rw [HF'.out]; rfl, rfl⟩
     ·have HF' := hI (HI.out.trans (by rw [HAT.out, if_neg h1, if_neg h2]))
      go_wp2
      go_roundw
      case rel => exact ⟨k + 1, by omega, by go_num, HF', hI (by omega), by trivial⟩
      case measure => simp [intOf]; omega
   ·have hke : k = b.length := by have := HK.out; omega
    have HF' : Hid (cmpL a b = 1) := hI (by rw [HI.out, show b.drop k = [] from jA (by omega), Z0m hx]; rfl)
    have hik3 : (b.length : Int) <= (k : Int) := by omega
    clear hke hx hE hF
    go_wp2
    go_ret
    exact ⟨by rw [HF'.out]; rfl, rfl⟩
  ·have hke : k = a.length := by omega
   clear hE hF
   have hkb := HK.out
   by_cases h : a.length < b.length
   ·have HF' : Hid (cmpL a b = -1) := hI (by rw [HI.out, show a.drop k = [] from jA (by omega), Z0m (l := b) (k := k) (List.getElem?_eq_getElem (by omega))]; rfl)
    have h9 : (a.length : Int) < (b.length : Int) := by omega
    clear hke
    go_wp2
    go_ret
    exact ⟨by rw [HF'.out]; rfl, rfl⟩
   ·have HF' : Hid (cmpL a b = 0) := hI (by rw [HI.out, show a.drop k = [] from jA (by omega), show b.drop k = [] from jA (by omega)]; rfl)
    have h9 : ¬ (a.length : Int) < (b.length : Int) := by omega
    clear hke
    go_wp2
    go_ret
    exact ⟨by rw [HF'.out]; rfl, rfl⟩
def New (w : World) (S : Nat -> Prop) : Nat -> Prop := fun q => S q /\ w.heap.size <= q
theorem Y3y {α : Type} {R : Rd α} {w w1 w' : World} {S : Nat -> Prop} {cs : List Value} {x : α} (h : R.rel w' (New w1 S) cs x) (hb : w.heap.size <= w1.heap.size) : R.rel w' (New w S) cs x :=
 R.mono h fun _ hq _ => ⟨hq.1, Nat.le_trans hb hq.2⟩
theorem Y7d {α : Type} {R : Rd α} {w w' : World} {B : Nat} {cs : List Value} {x : α} (h : R.rel w' (Up (fun _ => False) B) cs x) (hb : w.heap.size <= B) : R.rel w' (New w fun _ => True) cs x :=
 R.mono h fun _ hq _ => ⟨trivial, hq.elim (fun h => h.elim) (Nat.le_trans hb)⟩
def Z8f (o : List Int) (b : Bx) : List Int := if cmpL (Z05 b) o < 0 then Z05 b else o
def Z10 : List Bx -> List Int
 | [] => []
 | b :: l => l.foldl Z8f (Z05 b)
theorem Y23 {l : List Bx} {k : Nat} {b : Bx} (h : l[k]? = some b) (h0 : 0 < k) : Z10 (l.take (k + 1)) = Z8f (Z10 (l.take k)) b := by
 rw [Z0b h]
 have hk : k < l.length := (List.getElem?_eq_some_iff.1 h).1
 cases hl : l.take k with
 | nil => have := congrArg List.length hl; rw [List.length_take, List.length_nil] at this; omega
 | cons x l' =>
  show (l' ++ [b]).foldl Z8f (Z05 x) = _
  rw [List.foldl_append]; rfl
theorem Y4p {l : List Bx} {b : Bx} (h : l[0]? = some b) : Z10 (l.take (0 + 1)) = Z05 b := by
 rw [Z0b h]; rfl
theorem Z7t {S : Nat -> Prop} {v : Value} {b : Bx} {p : List Int} (w : World) (hl : rBx.rel w S [v] b) (h : Z05 b = p) :
  Calls Tryz.prog 145 #[v] w fun e w' => ∃ z, e = .returned z /\ Own rInt 3 w' w.heap.size (fun _ => False) z p /\ Below w.heap.size w w' := h ▸ Y5q w hl
theorem Z88 {S T : Nat -> Prop} {v u : Value} {a b : List Int} {n : Int} (w : World) (hl : (rSl rInt).rel w S [v] a) (hm : (rSl rInt).rel w T [u] b) (h : cmpL a b = n) :
  Calls Tryz.prog 146 #[v, u] w fun e w' => e = .returned (.int .i64 n) /\ w = w' := h ▸ Y2j w hl hm
theorem Y13 {S : Nat -> Prop} {v : Value} {l : List Bx} (w : World) (hl : (rSl rBx).rel w S [v] l) :
  Calls Tryz.prog 121 #[v] w fun e w' => ∃ z S', e = .returned (.tuple #[z, .bool (decide (0 < l.length))]) /\ (rSl rInt).rel w' (New w S') [z] (Z10 l) /\ Below w.heap.size w w' := by
 have hal := rSl.lenle hl (by decide)
 obtain ⟨A, c, rfl, _, _, _, hE⟩ := rSl.elems hl
 clear hl
 go_enter Tryz.func121, Tryz.ntmps121
 go_wp2
 go_loopw [4, 10] (fun o i wr => ∃ (k : Nat) (out : List Int) (Ao : Option Addr) (co : Nat), k <= l.length /\ i = .int .i64 k /\ o = .slice Ao out.length co /\ Hid (Z10 (l.take k) = out) /\ Hid (∃ S', (rSl rInt).rel wr (New w S') [.slice Ao out.length co] out) /\ Below w.heap.size w wr) (fun _ i _ => l.length - (intOf i).toNat)
 case atStart => exact ⟨0, [], none, 0, jB _, rfl, rfl, hI rfl, hI ⟨fun _ => True, none, 0, rfl, Nat.le_refl _, by decide, by decide, fun i x hx => by simp at hx⟩, Below.refl _ _⟩
 case round =>
  obtain ⟨k, out, Ao, co, hk, rfl, rfl, HI, HS, hb⟩ := hrel
  by_cases hlt : k < l.length
  ·obtain ⟨p, off, v', b, rfl, _, hp, hx, hs, g1⟩ := Elems.sl (R := rSl rRg) hE hlt
   rw [<- hb.ce _ hp] at g1
   have hik : (k : Int) < (l.length : Int) := by omega
   have HX := hI (show rBx.rel wr _ _ _ from jC hs hb)
   have HXX := hI hx
   obtain ⟨A2, c2, rfl, _⟩ := rSl.elems hs
   generalize hpp : Z05 b = pp at *
   have HP := hI hpp
   clear hx hs hpp
   rcases Nat.eq_zero_or_pos k with h0 | h0
   ·subst h0
    simp only [Nat.add_zero] at g1
    have HQ : Hid (Z10 (l.take (0 + 1)) = pp) := hI ((Y4p HXX.out).trans HP.out)
    go_wp2_with (go_at_call 145; (with_reducible refine (Z7t wr HX.out HP.out).mono ?_); rintro e w4 ⟨z4, rfl, how4, hb4⟩; obtain ⟨A4, c4, rfl⟩ := how4.value)
    go_roundw
    case rel => exact ⟨1, pp, A4, c4, by omega, by go_num, rfl, HQ, hI ⟨_, Y7d (how4.rel (by decide)) hb.size⟩, hb.trans (hb4.mono hb.size)⟩
    case measure => simp [intOf]; omega
   ·have HQ : Hid (Z10 (l.take (k + 1)) = if cmpL pp out < 0 then pp else out) := hI (by rw [Y23 HXX.out h0, HI.out, <- HP.out]; rfl)
    have hk0 : ((k : Int) == 0) = false := by rw [beq_eq_false_iff_ne]; omega
    obtain ⟨S9, hS9⟩ := HS.out
    have HS9 := hI hS9
    clear hS9
    generalize hcm : cmpL pp out = cm at *
    have HC := hI hcm
    clear hcm
    by_cases hc : cm < 0
    ·have HQ' : Hid (Z10 (l.take (k + 1)) = pp) := hI (by rw [HQ.out, if_pos hc])
     go_wp2_with (first | (go_at_call 145; (with_reducible refine (Z7t wr HX.out HP.out).mono ?_); rintro e w4 ⟨z4, rfl, how4, hb4⟩; obtain ⟨A4, c4, rfl⟩ := how4.value; have hr4 := how4.rel (by decide)) | (go_at_call 146; (with_reducible refine (Z88 w4 hr4 (jC HS9.out hb4) HC.out).mono ?_); rintro e w5 ⟨rfl, rfl⟩))
     go_roundw
     case rel => exact ⟨k + 1, pp, A4, c4, by omega, by go_num, rfl, HQ', hI ⟨_, Y7d hr4 hb.size⟩, hb.trans (hb4.mono hb.size)⟩
     case measure => simp [intOf]; omega
    ·have HQ' : Hid (Z10 (l.take (k + 1)) = out) := hI (by rw [HQ.out, if_neg hc])
     go_wp2_with (first | (go_at_call 145; (with_reducible refine (Z7t wr HX.out HP.out).mono ?_); rintro e w4 ⟨z4, rfl, how4, hb4⟩; obtain ⟨A4, c4, rfl⟩ := how4.value; have hr4 := how4.rel (by decide)) | (go_at_call 146; (with_reducible refine (Z88 w4 hr4 (jC HS9.out hb4) HC.out).mono ?_); rintro e w5 ⟨rfl, rfl⟩))
     go_roundw
     case rel => exact ⟨k + 1, out, Ao, co, by omega, by go_num, rfl, HQ', hI ⟨_, jC HS9.out hb4⟩, hb.trans (hb4.mono hb.size)⟩
     case measure => simp [intOf]; omega
  ·have HQ : Hid (Z10 l = out) := hI (by rw [<- HI.out, List.take_of_length_le (by omega)])
   obtain ⟨S9, hS9⟩ := HS.out
   have HD : Hid (decide ((0 : Int) < (l.length : Int)) = decide (0 < l.length)) := hI (by rw [decide_eq_decide]; omega)
   go_wp2
   go_ret2
   exact ⟨_, S9, by rw [<- HD.out]; rfl, by rw [HQ.out]; exact hS9, hb⟩
