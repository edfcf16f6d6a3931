import Derived.Test.YtlopccnehgolnabGreatDoorGPromises11
namespace Go.Proofs.YtlopccnehgolnabGreatDoor
open Go.RowKit Rb
open Go.Lib renaming hid -> hI
open List renaming length_append -> lA, drop_eq_nil_of_le -> jA, length_cons -> jB, length_nil -> jC, take_of_length_le -> jD
open Nat renaming zero_le -> jE
open Rd renaming below -> jF
set_option maxRecDepth 100000
set_option maxHeartbeats 800000
def cmpL : List Int -> List Int -> Int
 | x :: a, y :: b => if x < y then -1 else if y < x then 1 else cmpL a b
 | _ :: _, [] => 1
 | [], _ :: _ => -1
 | [], [] => 0
theorem X2w {a b : List Int} {k : Nat} {x y : Int} (hx : a[k]? = some x) (hy : b[k]? = some y) :
  cmpL (a.drop k) (b.drop k) = if x < y then -1 else if y < x then 1 else cmpL (a.drop (k + 1)) (b.drop (k + 1)) := by
 rw [Z0p hx, Z0p hy]; rfl
theorem Y37 {S T : Nat -> Prop} {v u : Value} {a b : List Int} (w : World) (hl : (rSl rInt).rel w S [v] a) (hm : (rSl rInt).rel w T [u] b) :
  Calls Tryz.prog 113 #[v, u] w fun e w' => e = .returned (.int .i64 (cmpL a b)) /\ w = w' := by
 have hal := rSl.lenle hl (by decide)
 have hbl := rSl.lenle hm (by decide)
 obtain ⟨A, c, rfl, _, _, _, hE⟩ := rSl.elems hl
 obtain ⟨B, d, rfl, _, _, _, hF⟩ := rSl.elems hm
 clear hl hm
 go_enter Tryz.func113, Tryz.ntmps113
 go_wp2
 go_loopw [11] (fun i wr => ∃ k : Nat, k <= a.length /\ i = .int .i64 k /\ Hid (cmpL a b = cmpL (a.drop k) (b.drop k)) /\ Hid (k <= b.length) /\ w = wr) (fun i _ => a.length - (intOf i).toNat)
 case atStart => exact ⟨0, jE _, rfl, hI rfl, hI (jE _), rfl⟩
 case round =>
  obtain ⟨k, hk, rfl, HI, HK, rfl⟩ := hrel
  by_cases hlt : k < a.length
  ·obtain ⟨p, off, x, rfl, _, hp, hx, hxi, g1⟩ := hE.intAt hlt
   have hik : (k : Int) < (a.length : Int) := by omega
   by_cases hlt2 : k < b.length
   ·obtain ⟨q, off', y, rfl, _, hq, hy, hyi, g2⟩ := hF.intAt hlt2
    have HAT := hI (X2w hx hy)
    have hik2 : (k : Int) < (b.length : Int) := by omega
    have hik3 : ¬ (b.length : Int) <= (k : Int) := by omega
    clear hx hy hE hF
    by_cases h1 : x < y
    ·have HF' : Hid (cmpL a b = -1) := hI (by rw [HI.out, HAT.out, if_pos h1])
     go_wp2
     go_ret
     exact ⟨by rw [HF'.out]; rfl, rfl⟩
    ·by_cases h2 : y < x
     ·have HF' : Hid (cmpL a b = 1) := hI (by rw [HI.out, HAT.out, if_neg h1, if_pos h2])
      go_wp2
      go_ret
      exact ⟨by rw [HF'.out]; rfl, rfl⟩
     ·have HF' := hI (HI.out.trans (by rw [HAT.out, if_neg h1, if_neg h2]))
      go_wp2
      go_roundw
      case rel => exact ⟨k + 1, by omega, by go_num, HF', hI (by omega), by trivial⟩
      case measure => simp [intOf]; omega
   ·have hke : k = b.length := by have := HK.out; omega
    have HF' : Hid (cmpL a b = 1) := hI (by rw [HI.out, show b.drop k = [] from jA (by omega), Z0p hx]; rfl)
    have hik3 : (b.length : Int) <= (k : Int) := by omega
    clear hke hx hE hF
    go_wp2
    go_ret
    exact ⟨by rw [HF'.out]; rfl, rfl⟩
  ·have hke : k = a.length := by omega
   clear hE hF
   have hkb := HK.out
   by_cases h : a.length < b.length
   ·have HF' : Hid (cmpL a b = -1) := hI (by rw [HI.out, show a.drop k = [] from jA (by omega), Z0p (l := b) (k := k) (List.getElem?_eq_getElem (by omega))]; rfl)
    have h9 : (a.length : Int) < (b.length : Int) := by omega
    clear hke
    go_wp2
    go_ret
    exact ⟨by rw [HF'.out]; rfl, rfl⟩
   ·have HF' : Hid (cmpL a b = 0) := hI (by rw [HI.out, show a.drop k = [] from jA (by omega), show b.drop k = [] from jA (by omega)]; rfl)
    have h9 : ¬ (a.length : Int) < (b.length : Int) := by omega
    clear hke
    go_wp2
    go_ret
    exact ⟨by rw [HF'.out]; rfl, rfl⟩
def New (w : World) (S : Nat -> Prop) : Nat -> Prop := fun q => S q /\ w.heap.size <= q
theorem Y5t {α : Type} {R : Rd α} {w w1 w' : World} {S : Nat -> Prop} {cs : List Value} {x : α} (h : R.rel w' (New w1 S) cs x) (hb : w.heap.size <= w1.heap.size) : R.rel w' (New w S) cs x :=
 R.mono h fun _ hq _ => ⟨hq.1, Nat.le_trans hb hq.2⟩
theorem Y9w {α : Type} {R : Rd α} {w w' : World} {B : Nat} {cs : List Value} {x : α} (h : R.rel w' (Up (fun _ => False) B) cs x) (hb : w.heap.size <= B) : R.rel w' (New w fun _ => True) cs x :=
 R.mono h fun _ hq _ => ⟨trivial, hq.elim (fun h => h.elim) (Nat.le_trans hb)⟩
def Z9g (o : List Int) (b : Bx) : List Int := if cmpL (Z1g b) o < 0 then Z1g b else o
def Z2i : List Bx -> List Int
 | [] => []
 | b :: l => l.foldl Z9g (Z1g b)
theorem Y4q {l : List Bx} {k : Nat} {b : Bx} (h : l[k]? = some b) (h0 : 0 < k) : Z2i (l.take (k + 1)) = Z9g (Z2i (l.take k)) b := by
 rw [Z0b h]
 have hk : k < l.length := (List.getElem?_eq_some_iff.1 h).1
 cases hl : l.take k with
 | nil => have := congrArg List.length hl; rw [List.length_take, jC] at this; omega
 | cons x l' =>
  show (l' ++ [b]).foldl Z9g (Z1g x) = _
  rw [List.foldl_append]; rfl
theorem Y6o {l : List Bx} {b : Bx} (h : l[0]? = some b) : Z2i (l.take (0 + 1)) = Z1g b := by
 rw [Z0b h]; rfl
theorem Z8v {S : Nat -> Prop} {v : Value} {b : Bx} {p : List Int} (w : World) (hl : rBx.rel w S [v] b) (h : Z1g b = p) :
  Calls Tryz.prog 112 #[v] w fun e w' => ∃ z, e = .returned z /\ Own rInt 3 w' w.heap.size (fun _ => False) z p /\ Below w.heap.size w w' := h ▸ Y7t w hl
theorem Y0i {S T : Nat -> Prop} {v u : Value} {a b : List Int} {n : Int} (w : World) (hl : (rSl rInt).rel w S [v] a) (hm : (rSl rInt).rel w T [u] b) (h : cmpL a b = n) :
  Calls Tryz.prog 113 #[v, u] w fun e w' => e = .returned (.int .i64 n) /\ w = w' := h ▸ Y37 w hl hm
theorem Y3q {S : Nat -> Prop} {v : Value} {l : List Bx} (w : World) (hl : (rSl rBx).rel w S [v] l) :
  Calls Tryz.prog 53 #[v] w fun e w' => ∃ z S', e = .returned (.tuple #[z, .bool (decide (0 < l.length))]) /\ (rSl rInt).rel w' (New w S') [z] (Z2i l) /\ Below w.heap.size w w' := by
 have hal := rSl.lenle hl (by decide)
 obtain ⟨A, c, rfl, _, _, _, hE⟩ := rSl.elems hl
 clear hl
 go_enter Tryz.func53, Tryz.ntmps53
 go_wp2
 go_loopw [4, 10] (fun o i wr => ∃ (k : Nat) (out : List Int) (Ao : Option Addr) (co : Nat), k <= l.length /\ i = .int .i64 k /\ o = .slice Ao out.length co /\ Hid (Z2i (l.take k) = out) /\ Hid (∃ S', (rSl rInt).rel wr (New w S') [.slice Ao out.length co] out) /\ Below w.heap.size w wr) (fun _ i _ => l.length - (intOf i).toNat)
 case atStart => exact ⟨0, [], none, 0, jE _, rfl, rfl, hI rfl, hI ⟨fun _ => True, none, 0, rfl, Nat.le_refl _, by decide, by decide, fun i x hx => by simp at hx⟩, Below.refl _ _⟩
 case round =>
  obtain ⟨k, out, Ao, co, hk, rfl, rfl, HI, HS, hb⟩ := hrel
  by_cases hlt : k < l.length
  ·obtain ⟨p, off, v', b, rfl, _, hp, hx, hs, g1⟩ := Elems.sl (R := rSl rRg) hE hlt
   rw [<- hb.ce _ hp] at g1
   have hik : (k : Int) < (l.length : Int) := by omega
   have HX := hI (show rBx.rel wr _ _ _ from jF hs hb)
   have HXX := hI hx
   obtain ⟨A2, c2, rfl, _⟩ := rSl.elems hs
   generalize hpp : Z1g b = pp at *
   have HP := hI hpp
   clear hx hs hpp
   rcases Nat.eq_zero_or_pos k with h0 | h0
   ·subst h0
    simp only [Nat.add_zero] at g1
    have HQ : Hid (Z2i (l.take (0 + 1)) = pp) := hI ((Y6o HXX.out).trans HP.out)
    go_wp2_with (go_at_call 112; (with_reducible refine (Z8v wr HX.out HP.out).mono ?_); rintro e w4 ⟨z4, rfl, how4, hb4⟩; obtain ⟨A4, c4, rfl⟩ := how4.value)
    go_roundw
    case rel => exact ⟨1, pp, A4, c4, by omega, by go_num, rfl, HQ, hI ⟨_, Y9w (how4.rel (by decide)) hb.size⟩, hb.trans (hb4.mono hb.size)⟩
    case measure => simp [intOf]; omega
   ·have HQ : Hid (Z2i (l.take (k + 1)) = if cmpL pp out < 0 then pp else out) := hI (by rw [Y4q HXX.out h0, HI.out, <- HP.out]; rfl)
    have hk0 : ((k : Int) == 0) = false := by rw [beq_eq_false_iff_ne]; omega
    obtain ⟨S9, hS9⟩ := HS.out
    have HS9 := hI hS9
    clear hS9
    generalize hcm : cmpL pp out = cm at *
    have HC := hI hcm
    clear hcm
    by_cases hc : cm < 0
    ·have HQ' : Hid (Z2i (l.take (k + 1)) = pp) := hI (by rw [HQ.out, if_pos hc])
     go_wp2_with (first | (go_at_call 112; (with_reducible refine (Z8v wr HX.out HP.out).mono ?_); rintro e w4 ⟨z4, rfl, how4, hb4⟩; obtain ⟨A4, c4, rfl⟩ := how4.value; have hr4 := how4.rel (by decide)) | (go_at_call 113; (with_reducible refine (Y0i w4 hr4 (jF HS9.out hb4) HC.out).mono ?_); rintro e w5 ⟨rfl, rfl⟩))
     go_roundw
     case rel => exact ⟨k + 1, pp, A4, c4, by omega, by go_num, rfl, HQ', hI ⟨_, Y9w hr4 hb.size⟩, hb.trans (hb4.mono hb.size)⟩
     case measure => simp [intOf]; omega
    ·have HQ' : Hid (Z2i (l.take (k + 1)) = out) := hI (by rw [HQ.out, if_neg hc])
     go_wp2_with (first | (go_at_call 112; (with_reducible refine (Z8v wr HX.out HP.out).mono ?_); rintro e w4 ⟨z4, rfl, how4, hb4⟩; obtain ⟨A4, c4, rfl⟩ := how4.value; have hr4 := how4.rel (by decide)) | (go_at_call 113; (with_reducible refine (Y0i w4 hr4 (jF HS9.out hb4) HC.out).mono ?_); rintro e w5 ⟨rfl, rfl⟩))
     go_roundw
     case rel => exact ⟨k + 1, out, Ao, co, by omega, by go_num, rfl, HQ', hI ⟨_, jF HS9.out hb4⟩, hb.trans (hb4.mono hb.size)⟩
     case measure => simp [intOf]; omega
  ·have HQ : Hid (Z2i l = out) := hI (by rw [<- HI.out, jD (by omega)])
   obtain ⟨S9, hS9⟩ := HS.out
   have HD : Hid (decide ((0 : Int) < (l.length : Int)) = decide (0 < l.length)) := hI (by rw [decide_eq_decide]; omega)
   go_wp2
   go_ret2
   exact ⟨_, S9, by rw [<- HD.out]; rfl, by rw [HQ.out]; exact hS9, hb⟩
theorem Y25 {S T : Nat -> Prop} {bs : List Value} {b : Bk} {u : Value} {ns : List Int} (w : World) (hb : rBk.rel w S bs b) (hn : (rSl rInt).rel w T [u] ns) :
  Calls Tryz.prog 11 #[.agg bs.toArray, u] w fun e w' => ∃ z, e = .returned z /\ Own rInt 3 w' w.heap.size (fun _ => False) z (Z18 ns b.doms) /\ Below w.heap.size w w' := by
 obtain ⟨v0, u0, rfl, hd, htb⟩ := hb
 obtain ⟨A, c, rfl, _, _, hbt, hF⟩ := rSl.elems hd
 obtain ⟨B, d, rfl, _⟩ := rSl.elems htb
 obtain ⟨C, g, rfl, _, _, _, hN⟩ := rSl.elems hn
 have hlt5 : b.doms.length <= 4398046511104 := by simp only [rDm] at hbt; omega
 have hnl := rSl.lenle hn (by decide)
 obtain ⟨W0, e0, hb0, hs0⟩ : ∃ W0, w.alloc (.cells #[.slice A b.doms.length c, .slice B b.tabs.length d] 33) = W0 /\ Hid (Below w.heap.size w W0) /\ w.heap.size < W0.heap.size := ⟨_, rfl, hI bA, by simp⟩; have c0 := ac0 e0
 clear hd htb hbt hn
 go_enter Tryz.func11, Tryz.ntmps11
 go_wp2
 clear e0 c0
 go_loopw [5, 12] (fun o i wr => ∃ (k : Nat) (out : List Int), k <= b.doms.length /\ i = .int .i64 k /\ Own rInt 3 wr W0.heap.size (fun _ => False) o out /\ Hid (out = Z18 ns (b.doms.take k)) /\ Hid (out.length <= k) /\ Hid (Below W0.heap.size W0 wr)) (fun _ i _ => b.doms.length - (intOf i).toNat)
 case atStart => exact ⟨0, [], jE _, rfl, Own.nil _ _ _ _ _, hI rfl, hI (by simp), hI (Below.refl _ _)⟩
 case round =>
  obtain ⟨k, out, hk, rfl, hown, HO, HOL, HB⟩ := hrel
  have hbw := hb0.out.trans (HB.out.mono hb0.out.size)
  by_cases hlt : k < b.doms.length
  ·obtain ⟨bB, off, x, rfl, hbB, hx, hr, g0, g1, g2⟩ := hF.dm hlt
   rw [<- hbw.ce _ hbB] at g0 g1 g2
   have hik : (k : Int) < (b.doms.length : Int) := by omega
   have HX := hI hx
   obtain ⟨W3, e3, HB3, HO3⟩ : ∃ W3, wr.alloc (.cells #[.string ⟨x.name.toArray⟩, .int .i64 x.lo, .int .i64 x.hi] 44) = W3 /\ Hid (Below W0.heap.size W0 W3) /\ Hid (Own rInt 3 W3 W0.heap.size (fun _ => False) u5 out) := ⟨_, rfl, hI (HB.out.alloc HB.out.size _), hI (hown.alloc _)⟩; have j1 := ac1 e3; have j2 := ac2 e3
   have HBY : Hid ((out.length + 1) * rInt.bytes <= 140737488355328) := hI (by have := HOL.out; show (_ + 1) * 8 <= _; omega)
   clear hx hown
   by_cases hln : k < ns.length
   ·obtain ⟨q, off', n, rfl, _, hq, hy, hyi, h3⟩ := hN.intAt hln
    rw [<- hbw.ce _ hq] at h3
    have h4 : W3.cell? ⟨q, off' + k, none⟩ = some (.int .i64 n) := by rw [<- e3, World.cell?_alloc_lt _ _ _ (Nat.lt_of_lt_of_le hq hbw.size)]; exact h3
    have HNN : Hid ((ns[k]?).getD 0 = n) := hI (by rw [hy]; rfl)
    have HIN : Hid (∀ y, y = x.lo \/ y = x.hi \/ y = n -> InI y) := hI (by rintro y (rfl | rfl | rfl); exact hr.2.1; exact hr.2.2; exact hyi)
    have hin : (k : Int) < (ns.length : Int) := by omega
    clear hy hyi hr hN hF h3
    by_cases h1 : x.hi < n
    ·by_cases h2 : x.lo < x.hi
     ·have HV : Hid (Z4m x.lo x.hi n = x.hi) := hI (by unfold Z4m; omega)
      have HT : Hid (Z18 ns (b.doms.take (k + 1)) = out ++ [x.hi]) := hI (by rw [Z11 HX.out, <- HO.out, HNN.out, HV.out])
      go_wp2_with (at_builtin; refine Z0a (R := rInt) (x := x.hi) el_I rfl (.tmp 25) (.tmp 33) rfl rfl HO3.out [.int .i64 x.hi] rfl rfl (fun _ => False) ⟨rfl, HIN.out _ (by simp)⟩ (fun _ h => h.elim) HBY.out HB3.out.size ?_; intro v9 w9 hown9 hb9 _ _)
      go_roundw
      case rel => exact ⟨k + 1, out ++ [x.hi], by omega, by go_num, hown9, hI HT.out.symm, hI (by have := HOL.out; rw [lA]; simp only [jB, jC]; omega), hI (HB3.out.trans hb9)⟩
      case measure => simp [intOf]; omega
     ·have HV : Hid (Z4m x.lo x.hi n = x.lo) := hI (by unfold Z4m; omega)
      have HT : Hid (Z18 ns (b.doms.take (k + 1)) = out ++ [x.lo]) := hI (by rw [Z11 HX.out, <- HO.out, HNN.out, HV.out])
      go_wp2_with (at_builtin; refine Z0a (R := rInt) (x := x.lo) el_I rfl (.tmp 25) (.tmp 33) rfl rfl HO3.out [.int .i64 x.lo] rfl rfl (fun _ => False) ⟨rfl, HIN.out _ (by simp)⟩ (fun _ h => h.elim) HBY.out HB3.out.size ?_; intro v9 w9 hown9 hb9 _ _)
      go_roundw
      case rel => exact ⟨k + 1, out ++ [x.lo], by omega, by go_num, hown9, hI HT.out.symm, hI (by have := HOL.out; rw [lA]; simp only [jB, jC]; omega), hI (HB3.out.trans hb9)⟩
      case measure => simp [intOf]; omega
    ·by_cases h2 : x.lo < n
     ·have HV : Hid (Z4m x.lo x.hi n = n) := hI (by unfold Z4m; omega)
      have HT : Hid (Z18 ns (b.doms.take (k + 1)) = out ++ [n]) := hI (by rw [Z11 HX.out, <- HO.out, HNN.out, HV.out])
      go_wp2_with (at_builtin; refine Z0a (R := rInt) (x := n) el_I rfl (.tmp 25) (.tmp 33) rfl rfl HO3.out [.int .i64 n] rfl rfl (fun _ => False) ⟨rfl, HIN.out _ (by simp)⟩ (fun _ h => h.elim) HBY.out HB3.out.size ?_; intro v9 w9 hown9 hb9 _ _)
      go_roundw
      case rel => exact ⟨k + 1, out ++ [n], by omega, by go_num, hown9, hI HT.out.symm, hI (by have := HOL.out; rw [lA]; simp only [jB, jC]; omega), hI (HB3.out.trans hb9)⟩
      case measure => simp [intOf]; omega
     ·have HV : Hid (Z4m x.lo x.hi n = x.lo) := hI (by unfold Z4m; omega)
      have HT : Hid (Z18 ns (b.doms.take (k + 1)) = out ++ [x.lo]) := hI (by rw [Z11 HX.out, <- HO.out, HNN.out, HV.out])
      go_wp2_with (at_builtin; refine Z0a (R := rInt) (x := x.lo) el_I rfl (.tmp 25) (.tmp 33) rfl rfl HO3.out [.int .i64 x.lo] rfl rfl (fun _ => False) ⟨rfl, HIN.out _ (by simp)⟩ (fun _ h => h.elim) HBY.out HB3.out.size ?_; intro v9 w9 hown9 hb9 _ _)
      go_roundw
      case rel => exact ⟨k + 1, out ++ [x.lo], by omega, by go_num, hown9, hI HT.out.symm, hI (by have := HOL.out; rw [lA]; simp only [jB, jC]; omega), hI (HB3.out.trans hb9)⟩
      case measure => simp [intOf]; omega
   ·have HNN : Hid ((ns[k]?).getD 0 = 0) := hI (by rw [List.getElem?_eq_none (by omega)]; rfl)
    have HIN : Hid (∀ y, y = x.lo \/ y = x.hi \/ y = 0 -> InI y) := hI (by rintro y (rfl | rfl | rfl); exact hr.2.1; exact hr.2.2; unfold InI; omega)
    have hin : ¬ (k : Int) < (ns.length : Int) := by omega
    clear hr hN hF
    by_cases h1 : x.hi < 0
    ·by_cases h2 : x.lo < x.hi
     ·have HV : Hid (Z4m x.lo x.hi 0 = x.hi) := hI (by unfold Z4m; omega)
      have HT : Hid (Z18 ns (b.doms.take (k + 1)) = out ++ [x.hi]) := hI (by rw [Z11 HX.out, <- HO.out, HNN.out, HV.out])
      go_wp2_with (at_builtin; refine Z0a (R := rInt) (x := x.hi) el_I rfl (.tmp 25) (.tmp 33) rfl rfl HO3.out [.int .i64 x.hi] rfl rfl (fun _ => False) ⟨rfl, HIN.out _ (by simp)⟩ (fun _ h => h.elim) HBY.out HB3.out.size ?_; intro v9 w9 hown9 hb9 _ _)
      go_roundw
      case rel => exact ⟨k + 1, out ++ [x.hi], by omega, by go_num, hown9, hI HT.out.symm, hI (by have := HOL.out; rw [lA]; simp only [jB, jC]; omega), hI (HB3.out.trans hb9)⟩
      case measure => simp [intOf]; omega
     ·have HV : Hid (Z4m x.lo x.hi 0 = x.lo) := hI (by unfold Z4m; omega)
      have HT : Hid (Z18 ns (b.doms.take (k + 1)) = out ++ [x.lo]) := hI (by rw [Z11 HX.out, <- HO.out, HNN.out, HV.out])
      go_wp2_with (at_builtin; refine Z0a (R := rInt) (x := x.lo) el_I rfl (.tmp 25) (.tmp 33) rfl rfl HO3.out [.int .i64 x.lo] rfl rfl (fun _ => False) ⟨rfl, HIN.out _ (by simp)⟩ (fun _ h => h.elim) HBY.out HB3.out.size ?_; intro v9 w9 hown9 hb9 _ _)
      go_roundw
      case rel => exact ⟨k + 1, out ++ [x.lo], by omega, by go_num, hown9, hI HT.out.symm, hI (by have := HOL.out; rw [lA]; simp only [jB, jC]; omega), hI (HB3.out.trans hb9)⟩
      case measure => simp [intOf]; omega
    ·by_cases h2 : x.lo < 0
     ·have HV : Hid (Z4m x.lo x.hi 0 = 0) := hI (by unfold Z4m; omega)
      have HT : Hid (Z18 ns (b.doms.take (k + 1)) = out ++ [0]) := hI (by rw [Z11 HX.out, <- HO.out, HNN.out, HV.out])
      go_wp2_with (at_builtin; refine Z0a (R := rInt) (x := 0) el_I rfl (.tmp 25) (.tmp 33) rfl rfl HO3.out [.int .i64 0] rfl rfl (fun _ => False) ⟨rfl, HIN.out _ (by simp)⟩ (fun _ h => h.elim) HBY.out HB3.out.size ?_; intro v9 w9 hown9 hb9 _ _)
      go_roundw
      case rel => exact ⟨k + 1, out ++ [0], by omega, by go_num, hown9, hI HT.out.symm, hI (by have := HOL.out; rw [lA]; simp only [jB, jC]; omega), hI (HB3.out.trans hb9)⟩
      case measure => simp [intOf]; omega
     ·have HV : Hid (Z4m x.lo x.hi 0 = x.lo) := hI (by unfold Z4m; omega)
      have HT : Hid (Z18 ns (b.doms.take (k + 1)) = out ++ [x.lo]) := hI (by rw [Z11 HX.out, <- HO.out, HNN.out, HV.out])
      go_wp2_with (at_builtin; refine Z0a (R := rInt) (x := x.lo) el_I rfl (.tmp 25) (.tmp 33) rfl rfl HO3.out [.int .i64 x.lo] rfl rfl (fun _ => False) ⟨rfl, HIN.out _ (by simp)⟩ (fun _ h => h.elim) HBY.out HB3.out.size ?_; intro v9 w9 hown9 hb9 _ _)
      go_roundw
      case rel => exact ⟨k + 1, out ++ [x.lo], by omega, by go_num, hown9, hI HT.out.symm, hI (by have := HOL.out; rw [lA]; simp only [jB, jC]; omega), hI (HB3.out.trans hb9)⟩
      case measure => simp [intOf]; omega
  ·have HQ : Hid (Z18 ns b.doms = out) := hI (by rw [HO.out, jD (by omega)])
   obtain ⟨A9, l9, rfl⟩ := hown.value
   clear hN hF
   go_wp2
   go_ret
   exact ⟨_, rfl, by rw [HQ.out]; exact hown.lower hb0.out.size, hbw⟩
