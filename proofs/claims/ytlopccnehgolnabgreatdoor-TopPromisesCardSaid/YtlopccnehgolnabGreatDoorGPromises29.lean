import Derived.Test.YtlopccnehgolnabGreatDoorGPromises27
import Derived.Test.YtlopccnehgolnabGreatDoorGPromises28
import Derived.Test.YtlopccnehgolnabGreatDoorGPromises11
import Derived.Test.YtlopccnehgolnabGreatDoorGPromises8
namespace Go.Proofs.YtlopccnehgolnabGreatDoor
open Go.RowKit Rb
open Go.Lib renaming hid -> hI
open Go.World renaming cell?_alloc_new -> cN
open Nat renaming lt_of_lt_of_le -> nL, le_trans -> nT, le_refl -> nR, le_of_lt -> jI, zero_le -> jJ
open List renaming length_append -> lA, append_assoc -> jC, append_nil -> jD, flatMap_append -> jE, flatMap_cons -> jF, length_cons -> jG, length_nil -> jH
open Go.RowKit.Below renaming refl -> jA
open Bool renaming and_false -> jB
open Rd renaming below -> jK
set_option maxRecDepth 100000
set_option maxHeartbeats 1600000
def Z2c (pol : Int) (all : Bx) (r s : Rl) : List Bx :=
 if Z1b (Z1f r all) && Z1b (Z1f s all) && !(decide (pol = 2) && decide (r.out = s.out)) && Z1b (Z09 (Z19 (Z1f r all)) (Z19 (Z1f s all))) then [Z19 (Z09 (Z19 (Z1f r all)) (Z19 (Z1f s all)))] else []
def Z2a (pol : Int) (all : Bx) (r : Rl) (l : List Rl) : List Bx := l.flatMap (Z2c pol all r)
def Z4b (t : Tb) (all : Bx) (k : Nat) : List Bx := (List.range k).flatMap fun i => match t.rules[i]? with | some r => Z2a t.pol all r (t.rules.take i) | none => []
def Z17 (t : Tb) (all : Bx) : List Bx := if Z0s t && Z0j all (t.ins.length : Int) && decide (t.pol <= 2) then Z4b t all t.rules.length else []
theorem Y24 {t : Tb} {all : Bx} {k : Nat} {r : Rl} (h : t.rules[k]? = some r) : Z4b t all (k + 1) = Z4b t all k ++ Z2a t.pol all r (t.rules.take k) := by
 unfold Z4b
 rw [List.range_succ, jE]
 simp [h]
theorem Y1v {pol : Int} {all : Bx} {r s : Rl} {l : List Rl} {j : Nat} (h : l[j]? = some s) : Z2a pol all r (l.take (j + 1)) = Z2a pol all r (l.take j) ++ Z2c pol all r s := by
 unfold Z2a
 rw [Z0b h, jE]
 simp
theorem Y1u {pol : Int} {all : Bx} {r : Rl} {l : List Rl} (h : Z1b (Z1f r all) = false) : Z2a pol all r l = [] := by
 unfold Z2a
 rw [List.flatMap_eq_nil_iff]
 intro s _
 unfold Z2c
 rw [h]; rfl
theorem Z25 {pol : Int} {all : Bx} {r s : Rl} {a b x : Bx} {f : Bool} (ha : Z1f r all = some a) (hb : Z1f s all = some b) (hc : pol ≠ 2 \/ r.out ≠ s.out) (hf : Z1b (Z09 a b) = f) (hx : Z19 (Z09 a b) = x) : Z2c pol all r s = if f then [x] else [] := by
 subst hf; subst hx
 have h : (decide (pol = 2) && decide (r.out = s.out)) = false := by
  rw [Bool.and_eq_false_iff, decide_eq_false_iff_not, decide_eq_false_iff_not]; exact hc
 have e : Z19 (some a) = a /\ Z19 (some b) = b := ⟨rfl, rfl⟩
 unfold Z2c
 rw [ha, hb, h, e.1, e.2]
 simp only [show Z1b (some a) = true from rfl, show Z1b (some b) = true from rfl, Bool.true_and, Bool.not_false]
theorem Z1x {α : Type} {S : Nat -> Prop} (R : Rd α) (w : World) : (rSl R).rel w S [.slice none 0 0] [] := ⟨none, 0, rfl, nR _, by decide, by simp, fun i x hx => by simp at hx⟩
def S9 (m n8 n4 : Nat) : Nat -> Prop := fun b => b < m \/ (n8 < b /\ b < n4)
structure ClI (W0 : World) (n8 n4 : Nat) (rout : Int) (z9 : Value) (a : Bx) (wr : World) (o : Value) (out : List Bx) : Prop where
 own : Own rBx 59 wr W0.heap.size (fun _ => False) o out
 blk : ∀ b, o.ownBlock = some b -> b < n8 \/ n4 <= b
 below : Below W0.heap.size W0 wr
 c1 : wr.cell? ⟨n8, 1, none⟩ = some (.int .i64 rout)
 ra : rBx.rel wr (S9 W0.heap.size n8 n4) [z9] a
 sz : n4 <= wr.heap.size
 base : W0.heap.size <= n8
 n84 : n8 < n4
theorem ClI.keepB {W0 : World} {n8 n4 : Nat} {rout : Int} {z9 : Value} {a : Bx} {wr w' : World} {o : Value} {out : List Bx} (I : ClI W0 n8 n4 rout z9 a wr o out) (hb : Below wr.heap.size wr w') : ClI W0 n8 n4 rout z9 a w' o out where
 own := I.own.below hb
 blk := I.blk
 below := I.below.trans (hb.mono I.below.size)
 c1 := (hb.ce 1 (nL I.n84 I.sz)).trans I.c1
 ra := jK I.ra hb
 sz := nT I.sz hb.size
 base := I.base
 n84 := I.n84
theorem ClI.push {W0 : World} {n8 n4 : Nat} {rout : Int} {z9 : Value} {a : Bx} {wr w9 : World} {o o9 : Value} {out : List Bx} {x : Bx} (I : ClI W0 n8 n4 rout z9 a wr o out) (hown : Own rBx 59 w9 W0.heap.size (fun _ => False) o9 (out ++ [x]))
  (hb : Below W0.heap.size wr w9) (hg : wr.grownBy w9 o.ownBlock) (hv : o9.ownBlock = o.ownBlock \/ o9.ownBlock = some (wr.heap.size + 1)) : ClI W0 n8 n4 rout z9 a w9 o9 (out ++ [x]) where
 own := hown
 blk := fun b h => by
  rcases hv with hv | hv
  ·exact I.blk b (hv ▸ h)
  ·rw [hv] at h; injection h with h; have := I.sz; right; omega
 below := I.below.trans hb
 c1 := (X34 hg (q := n8) (nL I.n84 I.sz) (fun h => by have := I.blk _ h; have := I.n84; omega) 1).1.trans I.c1
 ra := rBx.keep I.ra (Keeps.grown hg fun g h hS => by
  have h1 := I.blk g h
  have h2 := (I.own.lt g h).1
  have h3 := I.base
  have h4 := I.n84
  rcases hS with hS | hS <;> omega)
 sz := nT I.sz hg.size
 base := I.base
 n84 := I.n84
theorem Y68 {S T : Nat -> Prop} {v u : Value} {r : Rl} {all : Bx} {ar : Option Bx} (w : World) (hl : (rSl rCl).rel w S [v] r.cells) (hm : rBx.rel w T [u] all) (h : Z1f r all = ar) :
  Calls Tryz.prog 61 #[.agg #[v, .int .i64 r.out], u] w fun e w' => ∃ z, e = .returned (.tuple #[z, .bool (Z1b ar)]) /\ Own (rSl rRg) 95 w' w.heap.size T z (Z19 ar) /\ Below w.heap.size w w' := h ▸ Y9y w hl hm
theorem Z3h {S T : Nat -> Prop} {v u : Value} {r : Rl} {all : Bx} {a : Bx} (w : World) (hl : (rSl rCl).rel w S [v] r.cells) (hm : rBx.rel w T [u] all) (h : Z1f r all = some a) :
  Calls Tryz.prog 61 #[.agg #[v, .int .i64 r.out], u] w fun e w' => ∃ z, e = .returned (.tuple #[z, .bool true]) /\ Own (rSl rRg) 95 w' w.heap.size T z a /\ Below w.heap.size w w' := Y68 w hl hm h
theorem Z8s {S T : Nat -> Prop} {v u : Value} {r : Rl} {all : Bx} (w : World) (hl : (rSl rCl).rel w S [v] r.cells) (hm : rBx.rel w T [u] all) (h : Z1f r all = none) :
  Calls Tryz.prog 61 #[.agg #[v, .int .i64 r.out], u] w fun e w' => ∃ z, e = .returned (.tuple #[z, .bool false]) /\ Below w.heap.size w w' := (Y68 w hl hm h).mono fun _ _ ⟨z, h1, _, h3⟩ => ⟨z, h1, h3⟩
theorem Y7e {S T : Nat -> Prop} {cs : List Value} {t : Tb} {u : Value} {all : Bx} (w : World) (hl : rTb.rel w S cs t) (hm : rBx.rel w T [u] all) :
  Calls Tryz.prog 21 #[.agg cs.toArray, u] w fun e w' => ∃ z S', e = .returned (.tuple #[z, .bool (decide (0 < (Z17 t all).length))]) /\ (rSl rInt).rel w' (New w S') [z] (Z2i (Z17 t all)) /\ Below w.heap.size w w' := by
 have hal := rSl.lenle hm (by decide)
 have HG := hI fun o => Z6n (w.alloc o) (Rd.alloc hl o)
 obtain ⟨vi, vr, rfl, hnm, hp, hi, hr⟩ := hl
 obtain ⟨A, c, rfl, hi1, hi2, hi3, hE⟩ := rSl.elems hi
 obtain ⟨B, d, rfl, hr1, hr2, hr3, hF⟩ := rSl.elems hr
 obtain ⟨C, g, rfl, _⟩ := rSl.elems hm
 have HALL := hI (show rBx.rel w (fun b => T b /\ b < w.heap.size) _ _ from rBx.mono hm fun b h h' => ⟨h, h'⟩)
 obtain ⟨W0, e0, hb0, c0, c1, c2, c3, c4, hs0⟩ : ∃ W0, w.alloc (.cells #[.string ⟨t.name.toArray⟩, .int .i64 t.pol, .bool t.comp, .slice A t.ins.length c, .slice B t.rules.length d] 42) = W0 /\ Below w.heap.size w W0 /\
   W0.cell? ⟨w.heap.size, 0, none⟩ = some (.string ⟨t.name.toArray⟩) /\ W0.cell? ⟨w.heap.size, 1, none⟩ = some (.int .i64 t.pol) /\ W0.cell? ⟨w.heap.size, 2, none⟩ = some (.bool t.comp) /\ W0.cell? ⟨w.heap.size, 3, none⟩ = some (.slice A t.ins.length c) /\ W0.cell? ⟨w.heap.size, 4, none⟩ = some (.slice B t.rules.length d) /\ w.heap.size < W0.heap.size :=
  ⟨_, rfl, (jA _ _).alloc (nR _) _, cN _ _ _ _, cN _ _ _ _, cN _ _ _ _, cN _ _ _ _, cN _ _ _ _, by simp⟩
 have HG0 := hI (by have := HG.out (.cells #[.string ⟨t.name.toArray⟩, .int .i64 t.pol, .bool t.comp, .slice A t.ins.length c, .slice B t.rules.length d] 42); rw [e0] at this; exact this)
 clear hi hr hE hi3 hr3 hm HG
 cases hgt : Z0s t
 ·have HF : Hid (Z17 t all = []) := hI (by unfold Z17; rw [hgt]; rfl)
  rw [hgt] at HG0
  clear hgt
  go_enter Tryz.func21, Tryz.ntmps21
  go_wp2_with (go_at_call 51; refine HG0.out.mono ?_; rintro e w1 ⟨rfl, hb1⟩)
  go_ret2
  exact ⟨_, fun _ => True, by rw [HF.out]; rfl, by rw [HF.out]; exact Z1x _ _, hb0.trans (hb1.mono hb0.size)⟩
 rw [hgt] at HG0
 have hrl : t.rules.length <= 6 := (Z0z hgt).2.2.2.2.2
 cases hgb : Z0j all (t.ins.length : Int)
 ·have HF : Hid (Z17 t all = []) := hI (by unfold Z17; rw [hgb, jB]; rfl)
  have HGB := hI hgb
  clear hgt hgb
  go_enter Tryz.func21, Tryz.ntmps21
  go_wp2_with (first | (go_at_call 51; refine HG0.out.mono ?_; rintro e w1 ⟨rfl, hb1⟩; have hbx := hb0.trans (hb1.mono hb0.size); have k3 := (hb1.ce 3 hs0).trans c3) | (go_at_call 52; ((with_reducible refine (Z48 _ (jK HALL.out hbx) HGB.out).mono ?_); rintro e w2 ⟨rfl, hb2⟩)))
  go_ret2
  exact ⟨_, fun _ => True, by rw [HF.out]; rfl, by rw [HF.out]; exact Z1x _ _, hbx.trans (hb2.mono hbx.size)⟩
 have HGB := hI hgb
 by_cases hp2 : t.pol <= 2
 case neg =>
  have HF : Hid (Z17 t all = []) := hI (by unfold Z17; rw [decide_eq_false hp2, jB]; rfl)
  have hp3 : 2 < t.pol := by omega
  clear hgt hgb
  go_enter Tryz.func21, Tryz.ntmps21
  go_wp2_with (first | (go_at_call 51; refine HG0.out.mono ?_; rintro e w1 ⟨rfl, hb1⟩; have hbx := hb0.trans (hb1.mono hb0.size); have k3 := (hb1.ce 3 hs0).trans c3; have k1 := (hb1.ce 1 hs0).trans c1) | (go_at_call 52; ((with_reducible refine (Z48 _ (jK HALL.out hbx) HGB.out).mono ?_); rintro e w2 ⟨rfl, hb2⟩; have m1 := (hb2.ce 1 (nL hs0 hb1.size)).trans k1)))
  go_ret2
  exact ⟨_, fun _ => True, by rw [HF.out]; rfl, by rw [HF.out]; exact Z1x _ _, hbx.trans (hb2.mono hbx.size)⟩
 have HF : Hid (Z17 t all = Z4b t all t.rules.length) := hI (by unfold Z17; rw [hgt, hgb, decide_eq_true hp2]; rfl)
 have hp3 : ¬ 2 < t.pol := by omega
 clear hgt hgb hp2
 go_enter Tryz.func21, Tryz.ntmps21
 go_wp2_with (first | (go_at_call 51; refine HG0.out.mono ?_; rintro e w1 ⟨rfl, hb1⟩; have hbx := hb0.trans (hb1.mono hb0.size); have k3 := (hb1.ce 3 hs0).trans c3; have k1 := (hb1.ce 1 hs0).trans c1; have k4 := (hb1.ce 4 hs0).trans c4) | (go_at_call 52; ((with_reducible refine (Z48 _ (jK HALL.out hbx) HGB.out).mono ?_); rintro e w2 ⟨rfl, hb2⟩; have m1 := (hb2.ce 1 (nL hs0 hb1.size)).trans k1; have m4 := (hb2.ce 4 (nL hs0 hb1.size)).trans k4)))
 have hbw := hb1.trans (hb2.mono hb1.size)
 clear hb1 hb2 hbx k1 k3 k4 m1 m4 e0
 go_loopw [6, 36] (fun o i wr => ∃ (k : Nat) (out : List Bx), k <= t.rules.length /\ i = .int .i64 k /\ Own rBx 59 wr W0.heap.size (fun _ => False) o out /\ Hid (out = Z4b t all k) /\ Hid (out.length <= 6 * k) /\ Below W0.heap.size W0 wr) (fun _ i _ => t.rules.length - (intOf i).toNat)
 case atStart => exact ⟨0, [], jJ _, rfl, Own.nil _ _ _ _ _, hI rfl, hI (by simp), hbw⟩
 case round =>
  clear hbw HG0 HGB
  obtain ⟨k, out, hk, rfl, hown, HO, HOL, hb⟩ := hrel
  have m1 := (hb.ce 1 hs0).trans c1
  have m4 := (hb.ce 4 hs0).trans c4
  have hbw := hb0.trans (hb.mono (jI hs0))
  by_cases hlt : k < t.rules.length
  ·obtain ⟨bA, off, r, q, rfl, _, hbA, hx, hri, hq, g1, g2⟩ := hF.rl hlt
   rw [<- hbw.ce _ hbA] at g1 g2
   have hik : (k : Int) < (t.rules.length : Int) := by omega
   have HT := hI (Y24 (all := all) hx)
   obtain ⟨A2, l2, rfl, _⟩ := rSl.elems hq
   have HQ := hI hq
   obtain ⟨W1, e1, hown1, hb1, d0, d1, hs1⟩ : ∃ W1, wr.alloc (.cells #[.slice A2 r.cells.length l2, .int .i64 r.out] 93) = W1 /\ Own rBx 59 W1 W0.heap.size (fun _ => False) u6 out /\ Below W0.heap.size W0 W1 /\
     W1.cell? ⟨wr.heap.size, 0, none⟩ = some (.slice A2 r.cells.length l2) /\ W1.cell? ⟨wr.heap.size, 1, none⟩ = some (.int .i64 r.out) /\ W1.heap.size = wr.heap.size + 1 :=
    ⟨_, rfl, hown.alloc _, hb.alloc hb.size _, cN _ _ _ _, cN _ _ _ _, by simp⟩
   have HLT := hI hown.lt
   have hbw1 := hb0.trans (hb1.mono (jI hs0))
   clear hown hx hq
   have HQ1 := hI (jK HQ.out hbw1)
   have HALL1 := hI (jK HALL.out hbw1)
   generalize har : Z1f r all = ar at *
   have HAR := hI har
   clear har
   cases ar with
   | none =>
    have HT' : Hid (Z4b t all (k + 1) = out) := hI (by rw [HT.out, Y1u (by rw [HAR.out]; rfl), jD, HO.out])
    go_wp2_with (go_at_call 61; (with_reducible refine (Z8s W1 HQ1.out HALL1.out HAR.out).mono ?_); rintro e w4 ⟨z9, rfl, hb4⟩)
    go_roundw
    case rel => exact ⟨k + 1, out, by omega, by go_num, hown1.below hb4, hI HT'.out.symm, hI (by have := HOL.out; omega), hb1.trans (hb4.mono hb1.size)⟩
    case measure => simp [intOf]; omega
   | some a =>
    have HUSE := hI HLT.out
    have hwr := hb.size
    go_wp2_with (go_at_call 61; (with_reducible refine (Z3h W1 HQ1.out HALL1.out HAR.out).mono ?_); rintro e w4 ⟨z9, rfl, how4, hb4⟩; obtain ⟨A9, l9, rfl⟩ := how4.value; have n4 := ((hb1.trans (hb4.mono hb1.size)).ce 4 hs0).trans c4)
    have HI0 : Hid (ClI W0 wr.heap.size w4.heap.size r.out (.slice A9 a.length l9) a w4 u6 out) := hI {
     own := hown1.below hb4
     blk := fun b h => .inl (HLT.out b h).2
     below := hb1.trans (hb4.mono hb1.size)
     c1 := (hb4.cell (p := ⟨wr.heap.size, 1, none⟩) (by show wr.heap.size < _; omega)).trans d1
     ra := rBx.mono (show rBx.rel w4 _ _ _ from how4.rel (by decide)) fun b h h' => by
      rcases h with h | h
      ·exact .inl (Nat.lt_trans h.2 hs0)
      ·exact .inr ⟨by omega, h'⟩
     sz := nR _
     base := hwr
     n84 := by have := hb4.size; omega }
    clear hown1 how4 hb4 d0 d1 n4 hb hbw hb1 hbw1 HQ HQ1 HALL1 HLT HUSE g1 g2 m1 m4 hs1 e1 hwr
    generalize wr.heap.size = n8 at *
    have hik3 : ¬ (k : Int) < 0 := by omega
    go_loopw [6, 54] (fun o i wi => ∃ (j : Nat) (out2 : List Bx), j <= k /\ i = .int .i64 j /\ Hid (ClI W0 n8 w4.heap.size r.out (.slice A9 a.length l9) a wi o out2) /\ Hid (out2 = out ++ Z2a t.pol all r (t.rules.take j)) /\ Hid (out2.length <= 6 * k + j)) (fun _ i _ => k - (intOf i).toNat)
    case atStart => exact ⟨0, out, jJ _, rfl, HI0, hI (by simp [Z2a]), HOL⟩
    case round =>
     clear HI0
     obtain ⟨j, out2, hj, rfl, HI, HO2, HOL2⟩ := hrel
     have hbi := HI.out.below
     have hbwi := hb0.trans (hbi.mono (jI hs0))
     by_cases hlj : j < k
     ·obtain ⟨bA', off', s, q', h9, _, hbA', hx', hri', hq', g1', g2'⟩ := hF.rl (show j < t.rules.length by omega)
      obtain ⟨rfl, rfl⟩ : bA = bA' /\ off = off' := by simpa using h9
      rw [<- hbwi.ce _ hbA] at g1' g2'
      have hij : (j : Int) < (k : Int) := by omega
      have HRS : Hid (out ++ Z2a t.pol all r (t.rules.take (j + 1)) = out ++ (Z2a t.pol all r (t.rules.take j) ++ Z2c t.pol all r s)) := hI (congrArg (out ++ ·) (Y1v (pol := t.pol) (all := all) (r := r) hx'))
      obtain ⟨A3, l3, rfl, _⟩ := rSl.elems hq'
      have HQ' := hI hq'
      obtain ⟨W2, e2, hb2, f0, f1, hs2, hs2w⟩ : ∃ W2, wr.alloc (.cells #[.slice A3 s.cells.length l3, .int .i64 s.out] 93) = W2 /\ Below wr.heap.size wr W2 /\
        W2.cell? ⟨wr.heap.size, 0, none⟩ = some (.slice A3 s.cells.length l3) /\ W2.cell? ⟨wr.heap.size, 1, none⟩ = some (.int .i64 s.out) /\ wr.heap.size < W2.heap.size /\ Below w.heap.size w W2 :=
       ⟨_, rfl, (jA _ _).alloc (nR _) _, cN _ _ _ _, cN _ _ _ _, by simp, hbwi.alloc hbwi.size _⟩
      have HQ2 := hI (jK HQ'.out hs2w)
      have HALL2 := hI (jK HALL.out hs2w)
      have HUP : Hid (∀ w5, Below wr.heap.size wr w5 -> ∀ b, Up (fun _ => False) w5.heap.size b -> Up (fun _ => False) W0.heap.size b /\ u6.ownBlock ≠ some b) := hI (by
       rintro w5 h5 b (h | h)
       ·exact h.elim
       ·exact ⟨.inr (nT hbi.size (nT h5.size h)), fun e => by have := HI.out.own.lt _ e; have := h5.size; omega⟩)
      have HBY : Hid ((out2.length + 1) * rBx.bytes <= 140737488355328) := hI (by have := HOL2.out; show (_ + _) * 24 <= _; omega)
      clear h9 hx' hq' HQ' hbi hbwi
      generalize hbr : Z1f s all = br at *
      have HBR := hI hbr
      clear hbr
      cases br with
      | none =>
       have HC : Hid (Z2c t.pol all r s = []) := hI (by unfold Z2c; rw [HBR.out]; simp [Z1b])
       go_wp2_with (go_at_call 61; (with_reducible refine (Z8s W2 HQ2.out HALL2.out HBR.out).mono ?_); rintro e w5 ⟨z13, rfl, hb5⟩; have HI5 := hI (HI.out.keepB (hb2.trans (hb5.mono hb2.size))))
       go_roundw
       case rel => exact ⟨j + 1, out2, by omega, by go_num, HI5, hI (by rw [HRS.out, HC.out, jD, HO2.out]), hI (by have := HOL2.out; omega)⟩
       case measure => simp [intOf]; omega
      | some b =>
       obtain ⟨xb, hxb⟩ : ∃ x, Z19 (Z09 a b) = x := ⟨_, rfl⟩
       obtain ⟨rr, hrr⟩ : ∃ x, Z1b (Z09 a b) = x := ⟨_, rfl⟩
       have qo := hI hxb
       have qr := hI hrr
       clear hxb hrr
       by_cases hp2 : t.pol = 2
       ·by_cases hro : r.out = s.out
        ·have HC : Hid (Z2c t.pol all r s = []) := hI (by unfold Z2c; rw [HBR.out]; simp [hp2, hro])
         have t1 : (t.pol == 2) = true := by rw [beq_iff_eq]; exact hp2
         have t2 : (r.out == s.out) = true := by rw [beq_iff_eq]; exact hro
         clear hp2 hro
         go_wp2_with (go_at_call 61; (with_reducible refine (Z3h W2 HQ2.out HALL2.out HBR.out).mono ?_); rintro e w5 ⟨z13, rfl, how5, hb5⟩; obtain ⟨A13, l13, rfl⟩ := how5.value; have HI5 := hI (HI.out.keepB (hb2.trans (hb5.mono hb2.size))); have p1 := (HI5.out.below.ce 1 hs0).trans c1; have pr := HI5.out.c1; have ps := (hb5.ce 1 hs2).trans f1; have HB5 := hI (show rBx.rel w5 _ _ _ from how5.rel (by decide)))
         go_roundw
         case rel => exact ⟨j + 1, out2, by omega, by go_num, HI5, hI (by rw [HRS.out, HC.out, jD, HO2.out]), hI (by have := HOL2.out; omega)⟩
         case measure => simp [intOf]; omega
        ·have t1 : (t.pol == 2) = true := by rw [beq_iff_eq]; exact hp2
         have t2 : (r.out == s.out) = false := by rw [beq_eq_false_iff_ne]; exact hro
         have hro2 := hI hro
         clear hp2 hro
         cases rr
         ·have HC : Hid (Z2c t.pol all r s = []) := hI (Z25 HAR.out HBR.out (.inr hro2.out) qr.out qo.out)
          go_wp2_with (first | (go_at_call 61; (with_reducible refine (Z3h W2 HQ2.out HALL2.out HBR.out).mono ?_); rintro e w5 ⟨z13, rfl, how5, hb5⟩; obtain ⟨A13, l13, rfl⟩ := how5.value; have HI5 := hI (HI.out.keepB (hb2.trans (hb5.mono hb2.size))); have p1 := (HI5.out.below.ce 1 hs0).trans c1; have pr := HI5.out.c1; have ps := (hb5.ce 1 hs2).trans f1; have HB5 := hI (show rBx.rel w5 _ _ _ from how5.rel (by decide))) | (go_at_call 62; (with_reducible refine (Z8j w5 HI5.out.ra HB5.out qr.out qo.out).mono ?_); rintro e w6 ⟨z15, rfl, how6, hb6⟩; obtain ⟨A15, l15, rfl⟩ := how6.value; have HI6 := hI (HI5.out.keepB hb6)))
          go_roundw
          case rel => exact ⟨j + 1, out2, by omega, by go_num, HI6, hI (by rw [HRS.out, HC.out, jD, HO2.out]), hI (by have := HOL2.out; omega)⟩
          case measure => simp [intOf]; omega
         ·have HC : Hid (Z2c t.pol all r s = [xb]) := hI (Z25 HAR.out HBR.out (.inr hro2.out) qr.out qo.out)
          go_wp2_with (first | (go_at_call 61; (with_reducible refine (Z3h W2 HQ2.out HALL2.out HBR.out).mono ?_); rintro e w5 ⟨z13, rfl, how5, hb5⟩; obtain ⟨A13, l13, rfl⟩ := how5.value; have HI5 := hI (HI.out.keepB (hb2.trans (hb5.mono hb2.size))); have p1 := (HI5.out.below.ce 1 hs0).trans c1; have pr := HI5.out.c1; have ps := (hb5.ce 1 hs2).trans f1; have HB5 := hI (show rBx.rel w5 _ _ _ from how5.rel (by decide))) | (go_at_call 62; (with_reducible refine (Z8j w5 HI5.out.ra HB5.out qr.out qo.out).mono ?_); rintro e w6 ⟨z15, rfl, how6, hb6⟩; obtain ⟨A15, l15, rfl⟩ := how6.value; have HI6 := hI (HI5.out.keepB hb6)) | (at_builtin; refine Z0a (R := rBx) (x := xb) Y3e rfl (.tmp 85) (.tmp 87) rfl rfl HI6.out.own [.slice A15 xb.length l15] rfl rfl (Up (fun _ => False) w5.heap.size) (how6.rel (by decide)) (fun b h _ => HUP.out w5 (hb2.trans (hb5.mono hb2.size)) b h) HBY.out HI6.out.below.size ?_; intro v9 w9 hown9 hb9 hg9 hv9; have HI9 := hI (HI6.out.push hown9 hb9 hg9 hv9)))
          go_roundw
          case rel => exact ⟨j + 1, out2 ++ [xb], by omega, by go_num, HI9, hI (by rw [HRS.out, HC.out, <- jC, <- HO2.out]), hI (by have := HOL2.out; rw [lA]; simp only [jG, jH]; omega)⟩
          case measure => simp [intOf]; omega
       ·have t1 : (t.pol == 2) = false := by rw [beq_eq_false_iff_ne]; exact hp2
        have hpp2 := hI hp2
        clear hp2
        cases rr
        ·have HC : Hid (Z2c t.pol all r s = []) := hI (Z25 HAR.out HBR.out (.inl hpp2.out) qr.out qo.out)
         go_wp2_with (first | (go_at_call 61; (with_reducible refine (Z3h W2 HQ2.out HALL2.out HBR.out).mono ?_); rintro e w5 ⟨z13, rfl, how5, hb5⟩; obtain ⟨A13, l13, rfl⟩ := how5.value; have HI5 := hI (HI.out.keepB (hb2.trans (hb5.mono hb2.size))); have p1 := (HI5.out.below.ce 1 hs0).trans c1; have pr := HI5.out.c1; have ps := (hb5.ce 1 hs2).trans f1; have HB5 := hI (show rBx.rel w5 _ _ _ from how5.rel (by decide))) | (go_at_call 62; (with_reducible refine (Z8j w5 HI5.out.ra HB5.out qr.out qo.out).mono ?_); rintro e w6 ⟨z15, rfl, how6, hb6⟩; obtain ⟨A15, l15, rfl⟩ := how6.value; have HI6 := hI (HI5.out.keepB hb6)))
         go_roundw
         case rel => exact ⟨j + 1, out2, by omega, by go_num, HI6, hI (by rw [HRS.out, HC.out, jD, HO2.out]), hI (by have := HOL2.out; omega)⟩
         case measure => simp [intOf]; omega
        ·have HC : Hid (Z2c t.pol all r s = [xb]) := hI (Z25 HAR.out HBR.out (.inl hpp2.out) qr.out qo.out)
         go_wp2_with (first | (go_at_call 61; (with_reducible refine (Z3h W2 HQ2.out HALL2.out HBR.out).mono ?_); rintro e w5 ⟨z13, rfl, how5, hb5⟩; obtain ⟨A13, l13, rfl⟩ := how5.value; have HI5 := hI (HI.out.keepB (hb2.trans (hb5.mono hb2.size))); have p1 := (HI5.out.below.ce 1 hs0).trans c1; have pr := HI5.out.c1; have ps := (hb5.ce 1 hs2).trans f1; have HB5 := hI (show rBx.rel w5 _ _ _ from how5.rel (by decide))) | (go_at_call 62; (with_reducible refine (Z8j w5 HI5.out.ra HB5.out qr.out qo.out).mono ?_); rintro e w6 ⟨z15, rfl, how6, hb6⟩; obtain ⟨A15, l15, rfl⟩ := how6.value; have HI6 := hI (HI5.out.keepB hb6)) | (at_builtin; refine Z0a (R := rBx) (x := xb) Y3e rfl (.tmp 85) (.tmp 87) rfl rfl HI6.out.own [.slice A15 xb.length l15] rfl rfl (Up (fun _ => False) w5.heap.size) (how6.rel (by decide)) (fun b h _ => HUP.out w5 (hb2.trans (hb5.mono hb2.size)) b h) HBY.out HI6.out.below.size ?_; intro v9 w9 hown9 hb9 hg9 hv9; have HI9 := hI (HI6.out.push hown9 hb9 hg9 hv9)))
         go_roundw
         case rel => exact ⟨j + 1, out2 ++ [xb], by omega, by go_num, HI9, hI (by rw [HRS.out, HC.out, <- jC, <- HO2.out]), hI (by have := HOL2.out; rw [lA]; simp only [jG, jH]; omega)⟩
         case measure => simp [intOf]; omega
     ·have hje : j = k := by omega
      have HT' : Hid (Z4b t all (k + 1) = out2) := hI (by rw [HT.out, <- HO.out, HO2.out, hje])
      clear hF
      go_wp2
      go_roundw
      case rel => exact ⟨k + 1, out2, by omega, by go_num, HI.out.own, hI HT'.out.symm, hI (by have := HOL2.out; omega), HI.out.below⟩
      case measure => simp [intOf]; omega
  ·have hke : k = t.rules.length := by omega
   have HQ : Hid (Z17 t all = out) := hI (by rw [HF.out, HO.out, hke])
   have HC := hI (Y3q wr (hown.rel (by decide)))
   obtain ⟨A9, l9, rfl⟩ := hown.value
   clear hF hown
   go_wp2_with (go_at_call 53; (with_reducible refine HC.out.mono ?_); rintro e w9 ⟨z9, S', rfl, hz9, hb9⟩)
   go_ret2
   exact ⟨z9, S', by rw [HQ.out]; rfl, by rw [HQ.out]; exact Y5t hz9 hbw.size, hbw.trans (hb9.mono hbw.size)⟩
def X39 (a : Bx) (l : List Bx) (ns : List Int) : Nat := if inBx a ns && !(l.any fun b => Z0j b (a.length : Int) && inBx b ns) then 1 else 0
def AllG (n : Nat) (out : List Bx) : Prop := ∀ x ∈ out, Sets x /\ x.length = n
theorem Y6h {out : List Bx} {b : Bx} {n : Nat} (hn : n <= 3) (hg : AllG n out) (hb : Z0j b (n : Int) = true) (ns : List Int) :
  Z4c (out.flatMap (Z14 · b)) ns = if inBx b ns then 0 else Z4c out ns := by
 induction out with
 | nil => simp [Z4n]
 | cons x out ih =>
  obtain ⟨h1, h2⟩ := hg x (by simp)
  have hx : Z0j x (x.length : Int) = true := Z3l h1 rfl (by omega)
  rw [jF, Z73, Z7l, ih fun y hy => hg y (by simp [hy]), Y4r hx (by rw [h2]; exact hb)]
  cases inBx b ns <;> cases inBx x ns <;> simp
theorem X0n {out : List Bx} {b : Bx} {n : Nat} (hn : n <= 3) (hg : AllG n out) (hb : Z0j b (n : Int) = true) : Z3w (out.flatMap (Z14 · b)) <= Z3w out := by
 induction out with
 | nil => simp
 | cons x out ih =>
  obtain ⟨h1, h2⟩ := hg x (by simp)
  have hx : Z0j x (x.length : Int) = true := Z3l h1 rfl (by omega)
  have h3 := Y8u hx (b := b) (by rw [h2]; exact hb)
  have h4 := ih fun y hy => hg y (by simp [hy])
  have h5 := Y9i (Z19 (Z09 x b))
  have e : Z3w (x :: out) = Z3w [x] + Z3w out := by rw [<- Z8b]; rfl
  have e2 : Z3w [x] = Z35 x := by simp [Z3w]
  rw [jF, Z8b, e, e2]
  split at h3 <;> omega
theorem Y8l {out : List Bx} {b : Bx} {n : Nat} (hn : n <= 3) (hg : AllG n out) (hb : Z0j b (n : Int) = true) : AllG n (out.flatMap (Z14 · b)) := by
 intro y hy
 rw [List.mem_flatMap] at hy
 obtain ⟨x, hx, hy⟩ := hy
 obtain ⟨h1, h2⟩ := hg x hx
 have := Z7q (Z3l h1 rfl (by omega)) (by rw [h2]; exact hb) y hy
 exact ⟨this.1, by rw [this.2, h2]⟩
theorem X0o {n : Nat} (hn : n <= 3) (ns : List Int) : ∀ (l : List Bx) (out : List Bx) (c : Bool), AllG n out -> Z4c out ns = (if c then 1 else 0) ->
  AllG n (l.foldl (Z07 n) out) /\ Z3w (l.foldl (Z07 n) out) <= Z3w out /\ Z4c (l.foldl (Z07 n) out) ns = if c && !(l.any fun b => Z0j b (n : Int) && inBx b ns) then 1 else 0 := by
 intro l
 induction l with
 | nil => intro out c hg hc; exact ⟨hg, Int.le_refl _, by simpa using hc⟩
 | cons b l ih =>
  intro out c hg hc
  rw [List.foldl_cons]
  cases hb : Z0j b (n : Int)
  ·have hs : Z07 n out b = out := by unfold Z07; rw [hb]; rfl
   rw [hs]
   have := ih out c hg hc
   simpa [hb] using this
  ·have hs : Z07 n out b = out.flatMap (Z14 · b) := by unfold Z07; rw [hb]; rfl
   rw [hs]
   have h1 := ih (out.flatMap (Z14 · b)) (c && !inBx b ns) (Y8l hn hg hb) (by rw [Y6h hn hg hb, hc]; cases c <;> cases inBx b ns <;> simp)
   refine ⟨h1.1, Int.le_trans h1.2.1 (X0n hn hg hb), ?_⟩
   rw [h1.2.2]
   simp only [List.any_cons, hb, Bool.true_and]
   cases c <;> cases inBx b ns <;> simp
theorem Y9c {a : Bx} (ha : Z0j a (a.length : Int) = true) (l : List Bx) (ns : List Int) :
  AllG a.length (Z6i a l) /\ Z3w (Z6i a l) <= Z35 a /\ Z4c (Z6i a l) ns = X39 a l ns := by
 obtain ⟨h1, _, h3⟩ := goodBx_iff.1 ha
 have hf := X0o (n := a.length) (by omega) ns l [a] (inBx a ns) (fun x hx => by rw [List.mem_singleton] at hx; rw [hx]; exact ⟨h1, rfl⟩) (by rw [Z7l, Z4n]; rfl)
 have e : Z6i a l = l.foldl (Z07 a.length) [a] := by unfold Z6i; rw [ha]; rfl
 have e2 : Z3w [a] = Z35 a := by simp [Z3w]
 rw [e]
 exact ⟨hf.1, by rw [<- e2]; exact hf.2.1, hf.2.2⟩
theorem X2p {S T : Nat -> Prop} {v u : Value} {a : Bx} {l L : List Bx} (w : World) (hl : rBx.rel w S [v] a) (hm : (rSl rBx).rel w T [u] l) (hl6 : l.length <= 6) (h : Z6i a l = L) :
  Calls Tryz.prog 54 #[v, u] w fun e w' => ∃ z S', e = .returned z /\ (rSl rBx).rel w' S' [z] L /\ Below w.heap.size w w' := h ▸ Y98 w hl hm hl6
def Z1l (rs : List Rl) (all : Bx) : List Bx := rs.flatMap fun r => if Z1b (Z1f r all) then [Z19 (Z1f r all)] else []
theorem Y2t {rs : List Rl} {all : Bx} {k : Nat} {r : Rl} (h : rs[k]? = some r) : Z1l (rs.take (k + 1)) all = Z1l (rs.take k) all ++ (if Z1b (Z1f r all) then [Z19 (Z1f r all)] else []) := by
 unfold Z1l
 rw [Z0b h, jE]
 simp
theorem Z8x (all : Bx) : ∀ rs : List Rl, (Z1l rs all).length <= rs.length
 | [] => by simp [Z1l]
 | r :: rs => by
  have := Z8x all rs
  have e : Z1l (r :: rs) all = (if Z1b (Z1f r all) then [Z19 (Z1f r all)] else []) ++ Z1l rs all := rfl
  rw [e, lA, jG]
  split <;> simp <;> omega
theorem Y71 {S T : Nat -> Prop} {cs : List Value} {t : Tb} {u : Value} {all : Bx} (w : World) (hl : rTb.rel w S cs t) (hm : rBx.rel w T [u] all) (h6 : t.rules.length <= 6) :
  Calls Tryz.prog 55 #[.agg cs.toArray, u] w fun e w' => ∃ z S', e = .returned z /\ (rSl rBx).rel w' S' [z] (Z1l t.rules all) /\ Below w.heap.size w w' := by
 obtain ⟨vi, vr, rfl, hnm, hp, hi, hr⟩ := hl
 obtain ⟨A, c, rfl, hi1, hi2, hi3, hE⟩ := rSl.elems hi
 obtain ⟨B, d, rfl, hr1, hr2, hr3, hF⟩ := rSl.elems hr
 obtain ⟨C, g, rfl, _⟩ := rSl.elems hm
 have HALL := hI (show rBx.rel w (fun b => T b /\ b < w.heap.size) _ _ from rBx.mono hm fun b h h' => ⟨h, h'⟩)
 obtain ⟨W0, e0, hb0, c4, hs0⟩ : ∃ W0, w.alloc (.cells #[.string ⟨t.name.toArray⟩, .int .i64 t.pol, .bool t.comp, .slice A t.ins.length c, .slice B t.rules.length d] 42) = W0 /\ Below w.heap.size w W0 /\
   W0.cell? ⟨w.heap.size, 4, none⟩ = some (.slice B t.rules.length d) /\ w.heap.size < W0.heap.size :=
  ⟨_, rfl, (jA _ _).alloc (nR _) _, cN _ _ _ _, by simp⟩
 clear hi hr hE hi3 hr3 hm
 go_enter Tryz.func55, Tryz.ntmps55
 go_wp2
 clear e0 c4
 go_loopw [5, 13] (fun o i wr => ∃ (k : Nat) (out : List Bx), k <= t.rules.length /\ i = .int .i64 k /\ Own rBx 59 wr w.heap.size (fun b => T b /\ b < w.heap.size) o out /\ Hid (out = Z1l (t.rules.take k) all) /\ Hid (out.length <= k) /\ Below w.heap.size w wr) (fun _ i _ => t.rules.length - (intOf i).toNat)
 case atStart => exact ⟨0, [], jJ _, rfl, Own.nil _ _ _ _ _, hI (by simp [Z1l]), hI (by simp), hb0⟩
 case round =>
  clear hb0
  obtain ⟨k, out, hk, rfl, hown, HO, HOL, hb⟩ := hrel
  by_cases hlt : k < t.rules.length
  ·obtain ⟨bA, off, r, q, rfl, _, hbA, hx, hri, hq, g1, g2⟩ := hF.rl hlt
   rw [<- hb.ce _ hbA] at g1 g2
   have hik : (k : Int) < (t.rules.length : Int) := by omega
   have HT := hI (Y2t (all := all) hx)
   obtain ⟨A2, l2, rfl, _⟩ := rSl.elems hq
   have HQ := hI hq
   obtain ⟨W1, e1, hown1, hb1, d0, d1⟩ : ∃ W1, wr.alloc (.cells #[.slice A2 r.cells.length l2, .int .i64 r.out] 93) = W1 /\ Own rBx 59 W1 w.heap.size (fun b => T b /\ b < w.heap.size) u5 out /\ Below w.heap.size w W1 /\
     W1.cell? ⟨wr.heap.size, 0, none⟩ = some (.slice A2 r.cells.length l2) /\ W1.cell? ⟨wr.heap.size, 1, none⟩ = some (.int .i64 r.out) :=
    ⟨_, rfl, hown.alloc _, hb.alloc hb.size _, cN _ _ _ _, cN _ _ _ _⟩
   clear hown hq hx
   have HQ1 := hI (jK HQ.out hb1)
   have HALL1 := hI (jK HALL.out hb1)
   have HLT := hI hown1.lt
   generalize har : Z1f r all = ar at *
   have HAR := hI har
   clear har
   cases ar with
   | none =>
    have HT' : Hid (Z1l (t.rules.take (k + 1)) all = out) := hI (by rw [HT.out, HO.out]; simp [Z1b])
    go_wp2_with (go_at_call 61; (with_reducible refine (Z8s W1 HQ1.out HALL1.out HAR.out).mono ?_); rintro e w4 ⟨z9, rfl, hb4⟩)
    go_roundw
    case rel => exact ⟨k + 1, out, by omega, by go_num, hown1.below hb4, hI HT'.out.symm, hI (by have := HOL.out; omega), hb1.trans (hb4.mono hb1.size)⟩
    case measure => simp [intOf]; omega
   | some a =>
    have HT' : Hid (Z1l (t.rules.take (k + 1)) all = out ++ [a]) := hI (by rw [HT.out, HO.out]; rfl)
    have HUP : Hid (∀ w4, Below W1.heap.size W1 w4 -> ∀ b, Up (fun b => T b /\ b < w.heap.size) W1.heap.size b -> Up (fun b => T b /\ b < w.heap.size) w.heap.size b /\ u5.ownBlock ≠ some b) := hI (by
     rintro w4 h4 b (h | h)
     ·exact ⟨.inl h, fun e => by have := HLT.out _ e; have := h.2; omega⟩
     ·exact ⟨.inr (nT hb1.size h), fun e => by have := HLT.out _ e; omega⟩)
    have HBY : Hid ((out.length + 1) * rBx.bytes <= 140737488355328) := hI (by have := HOL.out; show (_ + _) * 24 <= _; omega)
    go_wp2_with (first | (go_at_call 61; (with_reducible refine (Z3h W1 HQ1.out HALL1.out HAR.out).mono ?_); rintro e w4 ⟨z9, rfl, how4, hb4⟩; obtain ⟨A9, l9, rfl⟩ := how4.value; have hbx := hb1.trans (hb4.mono hb1.size)) | (at_builtin; refine Z0a (R := rBx) (x := a) Y3e rfl (.tmp 24) (.tmp 26) rfl rfl (hown1.below hb4) [.slice A9 a.length l9] rfl rfl (Up (fun b => T b /\ b < w.heap.size) W1.heap.size) (how4.rel (by decide)) (fun b h _ => HUP.out w4 hb4 b h) HBY.out hbx.size ?_; intro v9 w9 hown9 hb9 _ _))
    go_roundw
    case rel => exact ⟨k + 1, out ++ [a], by omega, by go_num, hown9, hI HT'.out.symm, hI (by have := HOL.out; rw [lA]; simp only [jG, jH]; omega), hbx.trans hb9⟩
    case measure => simp [intOf]; omega
  ·have HQ : Hid (Z1l t.rules all = out) := hI (by rw [HO.out, List.take_of_length_le (by omega)])
   obtain ⟨A9, l9, rfl⟩ := hown.value
   go_wp2
   go_ret
   exact ⟨_, _, rfl, by rw [HQ.out]; exact hown.rel (by decide), hb⟩
theorem Z4r {S : Nat -> Prop} {cs : List Value} {t : Tb} {r : Bool} (w : World) (hl : rTb.rel w S cs t) (h : Z0s t = r) :
  Calls Tryz.prog 51 #[.agg cs.toArray] w fun e w' => e = .returned (.bool r) /\ Below w.heap.size w w' := h ▸ Z6n w hl
def gapB (t : Tb) (all : Bx) : List Bx := if Z0s t && Z0j all (t.ins.length : Int) && !decide (t.pol = 7) then Z6i all (Z1l t.rules all) else []
theorem X0d {S T : Nat -> Prop} {cs : List Value} {t : Tb} {u : Value} {all : Bx} {L : List Bx} (w : World) (hl : rTb.rel w S cs t) (hm : rBx.rel w T [u] all) (h6 : t.rules.length <= 6) (h : Z1l t.rules all = L) :
  Calls Tryz.prog 55 #[.agg cs.toArray, u] w fun e w' => ∃ z S', e = .returned z /\ (rSl rBx).rel w' S' [z] L /\ Below w.heap.size w w' := h ▸ Y71 w hl hm h6
theorem X2k {S T : Nat -> Prop} {cs : List Value} {t : Tb} {u : Value} {all : Bx} (w : World) (hl : rTb.rel w S cs t) (hm : rBx.rel w T [u] all) :
  Calls Tryz.prog 19 #[.agg cs.toArray, u] w fun e w' => ∃ z S', e = .returned (.tuple #[z, .bool (decide (0 < (gapB t all).length))]) /\ (rSl rInt).rel w' (New w S') [z] (Z2i (gapB t all)) /\ Below w.heap.size w w' := by
 have hl' := hl
 obtain ⟨vi, vr, rfl, hnm, hp, hi, hr⟩ := hl
 obtain ⟨A, c, rfl, _⟩ := rSl.elems hi
 obtain ⟨B, d, rfl, _⟩ := rSl.elems hr
 obtain ⟨C, g, rfl, _⟩ := rSl.elems hm
 obtain ⟨W0, e0, hb0, c0, c1, c2, c3, c4, hs0, HT, HA⟩ : ∃ W0, w.alloc (.cells #[.string ⟨t.name.toArray⟩, .int .i64 t.pol, .bool t.comp, .slice A t.ins.length c, .slice B t.rules.length d] 42) = W0 /\ Below w.heap.size w W0 /\
   W0.cell? ⟨w.heap.size, 0, none⟩ = some (.string ⟨t.name.toArray⟩) /\ W0.cell? ⟨w.heap.size, 1, none⟩ = some (.int .i64 t.pol) /\ W0.cell? ⟨w.heap.size, 2, none⟩ = some (.bool t.comp) /\ W0.cell? ⟨w.heap.size, 3, none⟩ = some (.slice A t.ins.length c) /\ W0.cell? ⟨w.heap.size, 4, none⟩ = some (.slice B t.rules.length d) /\ w.heap.size < W0.heap.size /\
   Hid (rTb.rel W0 S [.string ⟨t.name.toArray⟩, .int .i64 t.pol, .bool t.comp, .slice A t.ins.length c, .slice B t.rules.length d] t) /\ Hid (rBx.rel W0 T [.slice C all.length g] all) :=
  ⟨_, rfl, (jA _ _).alloc (nR _) _, cN _ _ _ _, cN _ _ _ _, cN _ _ _ _, cN _ _ _ _, cN _ _ _ _, by simp, hI (Rd.alloc hl' _), hI (Rd.alloc hm _)⟩
 have HBW := hI hb0
 have HSZ := hI hs0
 clear hl' hi hr hm hb0 hs0 hnm hp
 cases hgt : Z0s t
 ·have qg := hI hgt
  have HF : Hid (gapB t all = []) := hI (by unfold gapB; rw [hgt]; rfl)
  clear hgt
  go_enter Tryz.func19, Tryz.ntmps19
  go_wp2_with (go_at_call 51; (with_reducible refine (Z4r _ HT.out qg.out).mono ?_); rintro e w1 ⟨rfl, hb1⟩; replace c0 := (hb1.ce 0 HSZ.out).trans c0; replace c1 := (hb1.ce 1 HSZ.out).trans c1; replace c2 := (hb1.ce 2 HSZ.out).trans c2; replace c3 := (hb1.ce 3 HSZ.out).trans c3; replace c4 := (hb1.ce 4 HSZ.out).trans c4; (try replace HT := hI (jK HT.out hb1)); (try replace HA := hI (jK HA.out hb1)); (try replace HL := hI (jK HL.out hb1)); (try replace HG := hI (jK HG.out hb1)); (try replace HP := hI (jK HP.out hb1)); replace HBW := hI (HBW.out.trans (hb1.mono HBW.out.size)); replace HSZ := hI (nL HSZ.out hb1.size); clear hb1)
  go_ret2
  exact ⟨_, fun _ => True, by rw [HF.out]; rfl, by rw [HF.out]; exact Z1x _ _, HBW.out⟩
 have qg := hI hgt
 have hr6 := (Z0z hgt).2.2.2.2.2
 cases hgb : Z0j all (t.ins.length : Int)
 ·have qb := hI hgb
  have HF : Hid (gapB t all = []) := hI (by unfold gapB; rw [hgb, jB]; rfl)
  clear hgt hgb
  go_enter Tryz.func19, Tryz.ntmps19
  go_wp2_with (first | (go_at_call 51; (with_reducible refine (Z4r _ HT.out qg.out).mono ?_); rintro e w1 ⟨rfl, hb1⟩; replace c0 := (hb1.ce 0 HSZ.out).trans c0; replace c1 := (hb1.ce 1 HSZ.out).trans c1; replace c2 := (hb1.ce 2 HSZ.out).trans c2; replace c3 := (hb1.ce 3 HSZ.out).trans c3; replace c4 := (hb1.ce 4 HSZ.out).trans c4; (try replace HT := hI (jK HT.out hb1)); (try replace HA := hI (jK HA.out hb1)); (try replace HL := hI (jK HL.out hb1)); (try replace HG := hI (jK HG.out hb1)); (try replace HP := hI (jK HP.out hb1)); replace HBW := hI (HBW.out.trans (hb1.mono HBW.out.size)); replace HSZ := hI (nL HSZ.out hb1.size); clear hb1) | (go_at_call 52; (with_reducible refine (Z48 _ HA.out qb.out).mono ?_); rintro e w1 ⟨rfl, hb1⟩; replace c0 := (hb1.ce 0 HSZ.out).trans c0; replace c1 := (hb1.ce 1 HSZ.out).trans c1; replace c2 := (hb1.ce 2 HSZ.out).trans c2; replace c3 := (hb1.ce 3 HSZ.out).trans c3; replace c4 := (hb1.ce 4 HSZ.out).trans c4; (try replace HT := hI (jK HT.out hb1)); (try replace HA := hI (jK HA.out hb1)); (try replace HL := hI (jK HL.out hb1)); (try replace HG := hI (jK HG.out hb1)); (try replace HP := hI (jK HP.out hb1)); replace HBW := hI (HBW.out.trans (hb1.mono HBW.out.size)); replace HSZ := hI (nL HSZ.out hb1.size); clear hb1))
  go_ret2
  exact ⟨_, fun _ => True, by rw [HF.out]; rfl, by rw [HF.out]; exact Z1x _ _, HBW.out⟩
 have qb := hI hgb
 by_cases hp7 : t.pol = 7
 ·have HF : Hid (gapB t all = []) := hI (by unfold gapB; rw [decide_eq_true hp7, Bool.not_true, jB]; rfl)
  have hq7 : (t.pol == 7) = true := by rw [beq_iff_eq]; exact hp7
  clear hgt hgb hp7
  go_enter Tryz.func19, Tryz.ntmps19
  go_wp2_with (first | (go_at_call 51; (with_reducible refine (Z4r _ HT.out qg.out).mono ?_); rintro e w1 ⟨rfl, hb1⟩; replace c0 := (hb1.ce 0 HSZ.out).trans c0; replace c1 := (hb1.ce 1 HSZ.out).trans c1; replace c2 := (hb1.ce 2 HSZ.out).trans c2; replace c3 := (hb1.ce 3 HSZ.out).trans c3; replace c4 := (hb1.ce 4 HSZ.out).trans c4; (try replace HT := hI (jK HT.out hb1)); (try replace HA := hI (jK HA.out hb1)); (try replace HL := hI (jK HL.out hb1)); (try replace HG := hI (jK HG.out hb1)); (try replace HP := hI (jK HP.out hb1)); replace HBW := hI (HBW.out.trans (hb1.mono HBW.out.size)); replace HSZ := hI (nL HSZ.out hb1.size); clear hb1) | (go_at_call 52; (with_reducible refine (Z48 _ HA.out qb.out).mono ?_); rintro e w1 ⟨rfl, hb1⟩; replace c0 := (hb1.ce 0 HSZ.out).trans c0; replace c1 := (hb1.ce 1 HSZ.out).trans c1; replace c2 := (hb1.ce 2 HSZ.out).trans c2; replace c3 := (hb1.ce 3 HSZ.out).trans c3; replace c4 := (hb1.ce 4 HSZ.out).trans c4; (try replace HT := hI (jK HT.out hb1)); (try replace HA := hI (jK HA.out hb1)); (try replace HL := hI (jK HL.out hb1)); (try replace HG := hI (jK HG.out hb1)); (try replace HP := hI (jK HP.out hb1)); replace HBW := hI (HBW.out.trans (hb1.mono HBW.out.size)); replace HSZ := hI (nL HSZ.out hb1.size); clear hb1))
  go_ret2
  exact ⟨_, fun _ => True, by rw [HF.out]; rfl, by rw [HF.out]; exact Z1x _ _, HBW.out⟩
 have hq7 : (t.pol == 7) = false := by rw [beq_eq_false_iff_ne]; exact hp7
 obtain ⟨L, hL⟩ : ∃ L, Z1l t.rules all = L := ⟨_, rfl⟩
 have hL6 : L.length <= 6 := by rw [<- hL]; exact nT (Z8x all t.rules) hr6
 obtain ⟨G, hG⟩ : ∃ G, Z6i all L = G := ⟨_, rfl⟩
 have HF : Hid (gapB t all = G) := hI (by unfold gapB; rw [hgt, hgb, decide_eq_false hp7, hL, hG]; rfl)
 have qL := hI hL
 have qG := hI hG
 clear hgt hgb hp7 hL hG
 go_enter Tryz.func19, Tryz.ntmps19
 go_wp2_with (first | (go_at_call 51; (with_reducible refine (Z4r _ HT.out qg.out).mono ?_); rintro e w1 ⟨rfl, hb1⟩; replace c0 := (hb1.ce 0 HSZ.out).trans c0; replace c1 := (hb1.ce 1 HSZ.out).trans c1; replace c2 := (hb1.ce 2 HSZ.out).trans c2; replace c3 := (hb1.ce 3 HSZ.out).trans c3; replace c4 := (hb1.ce 4 HSZ.out).trans c4; (try replace HT := hI (jK HT.out hb1)); (try replace HA := hI (jK HA.out hb1)); (try replace HL := hI (jK HL.out hb1)); (try replace HG := hI (jK HG.out hb1)); (try replace HP := hI (jK HP.out hb1)); replace HBW := hI (HBW.out.trans (hb1.mono HBW.out.size)); replace HSZ := hI (nL HSZ.out hb1.size); clear hb1) | (go_at_call 52; (with_reducible refine (Z48 _ HA.out qb.out).mono ?_); rintro e w1 ⟨rfl, hb1⟩; replace c0 := (hb1.ce 0 HSZ.out).trans c0; replace c1 := (hb1.ce 1 HSZ.out).trans c1; replace c2 := (hb1.ce 2 HSZ.out).trans c2; replace c3 := (hb1.ce 3 HSZ.out).trans c3; replace c4 := (hb1.ce 4 HSZ.out).trans c4; (try replace HT := hI (jK HT.out hb1)); (try replace HA := hI (jK HA.out hb1)); (try replace HL := hI (jK HL.out hb1)); (try replace HG := hI (jK HG.out hb1)); (try replace HP := hI (jK HP.out hb1)); replace HBW := hI (HBW.out.trans (hb1.mono HBW.out.size)); replace HSZ := hI (nL HSZ.out hb1.size); clear hb1) | (go_at_call 55; (with_reducible refine (X0d _ HT.out HA.out hr6 qL.out).mono ?_); rintro e w1 ⟨zp, SP, rfl, hzp, hb1⟩; obtain ⟨AAHL, llHL, rfl, _⟩ := rSl.elems hzp; have HL := hI hzp; clear hzp; replace c0 := (hb1.ce 0 HSZ.out).trans c0; replace c1 := (hb1.ce 1 HSZ.out).trans c1; replace c2 := (hb1.ce 2 HSZ.out).trans c2; replace c3 := (hb1.ce 3 HSZ.out).trans c3; replace c4 := (hb1.ce 4 HSZ.out).trans c4; (try replace HT := hI (jK HT.out hb1)); (try replace HA := hI (jK HA.out hb1)); (try replace HG := hI (jK HG.out hb1)); (try replace HP := hI (jK HP.out hb1)); replace HBW := hI (HBW.out.trans (hb1.mono HBW.out.size)); replace HSZ := hI (nL HSZ.out hb1.size); clear hb1) | (go_at_call 54; (with_reducible refine (X2p _ HA.out HL.out hL6 qG.out).mono ?_); rintro e w1 ⟨zp, SP, rfl, hzp, hb1⟩; obtain ⟨AAHG, llHG, rfl, _⟩ := rSl.elems hzp; have HG := hI hzp; clear hzp; replace c0 := (hb1.ce 0 HSZ.out).trans c0; replace c1 := (hb1.ce 1 HSZ.out).trans c1; replace c2 := (hb1.ce 2 HSZ.out).trans c2; replace c3 := (hb1.ce 3 HSZ.out).trans c3; replace c4 := (hb1.ce 4 HSZ.out).trans c4; (try replace HT := hI (jK HT.out hb1)); (try replace HA := hI (jK HA.out hb1)); (try replace HL := hI (jK HL.out hb1)); (try replace HP := hI (jK HP.out hb1)); replace HBW := hI (HBW.out.trans (hb1.mono HBW.out.size)); replace HSZ := hI (nL HSZ.out hb1.size); clear hb1) | (go_at_call 53; (with_reducible refine (Y3q _ HG.out).mono ?_); rintro e w1 ⟨zp, SP, rfl, hzp, hb1⟩; replace hzp := Y5t hzp HBW.out.size; obtain ⟨AAHP, llHP, rfl, _⟩ := rSl.elems hzp; have HP := hI hzp; clear hzp; replace c0 := (hb1.ce 0 HSZ.out).trans c0; replace c1 := (hb1.ce 1 HSZ.out).trans c1; replace c2 := (hb1.ce 2 HSZ.out).trans c2; replace c3 := (hb1.ce 3 HSZ.out).trans c3; replace c4 := (hb1.ce 4 HSZ.out).trans c4; (try replace HT := hI (jK HT.out hb1)); (try replace HA := hI (jK HA.out hb1)); (try replace HL := hI (jK HL.out hb1)); (try replace HG := hI (jK HG.out hb1)); replace HBW := hI (HBW.out.trans (hb1.mono HBW.out.size)); replace HSZ := hI (nL HSZ.out hb1.size); clear hb1))
 go_ret2
 exact ⟨_, _, by rw [HF.out]; rfl, by rw [HF.out]; exact HP.out, HBW.out⟩
end Go.Proofs.YtlopccnehgolnabGreatDoor
namespace Go.Proofs.YtlopccnehgolnabGreatDoor
open Go.RowKit Rb
open Bool renaming and_eq_true -> jA, true_and -> jB
open List renaming getElem?_eq_getElem -> jC, getElem_mem -> jD, mem_flatMap -> jE, mem_range -> jF, pairwise_cons -> jG
open Option renaming map_some -> jH, some -> jI
theorem Y2y {c : Cl} {s : List Rg} (hs : GoodS s) (n : Int) : hasL (Z1n c s) n = (hasL s n && Z24 c n) := by
 have hn := hs.isNum n
 obtain ⟨no, rs⟩ := c
 unfold Z1n Z24
 have h1 := (Z3g rs).2 n
 cases no
 ·by_cases h0 : rs.length = 0
  ·simp [h0]
  ·simp only [Bool.false_eq_true, if_false]
   rw [if_pos (by omega), Z4l hs, h1, decide_eq_false h0]
   cases hh : hasL s n
   ·rfl
   ·rw [hh, Bool.and_true] at hn; rw [hn]; simp
 ·simp only [if_true]
  rw [Z63 hs, h1]
  cases hh : hasL s n
  ·rfl
  ·rw [hh, Bool.and_true] at hn; rw [hn]; simp
theorem Y1s {c : Cl} {s : List Rg} (hs : GoodS s) : GoodS (Z1n c s) := by
 unfold Z1n
 split
 ·exact (Z2y _ _).1
 ·split
  ·exact (Z2h _ _).1
  ·exact hs
theorem Y5r {s : List Rg} (h : s.length = 0) (n : Int) : hasL s n = false := by rw [List.eq_nil_of_length_eq_zero h]; rfl
theorem Z8w : ∀ {cs : List Cl} {all : Bx}, Sets all -> cs.length = all.length -> (∀ ns, inBx (Z19 (Z10 cs all)) ns = (inBx all ns && Z0w cs ns) \/ Z10 cs all = none) /\
  (Z10 cs all = none -> ∀ ns, (inBx all ns && Z0w cs ns) = false) /\ ∀ a, Z10 cs all = some a -> Sets a /\ a.length = all.length
 | [], [], _, _ => by
  refine ⟨fun ns => .inl ?_, fun h => (by simp [Z10] at h), fun a h => ?_⟩
  ·cases ns <;> rfl
  ·simp only [Z10, jI.injEq] at h; subst h; exact ⟨fun _ h => by simp at h, rfl⟩
 | [], _ :: _, _, h => by simp at h
 | _ :: _, [], _, h => by simp at h
 | c :: cs, s :: all, hg, hl => by
  have hs := (hg s (by simp)).2
  obtain ⟨h1, h2, h3⟩ := Z8w (cs := cs) (all := all) (fun x hx => hg x (by simp [hx])) (by simpa using hl)
  have hc := fun n => Y2y (c := c) hs n
  by_cases h0 : (Z1n c s).length = 0
  ·have e : Z10 (c :: cs) (s :: all) = none := by rw [Z10, if_pos h0]
   refine ⟨fun _ => .inr e, fun _ ns => ?_, fun a h => (by rw [e] at h; cases h)⟩
   cases ns with
   | nil => rfl
   | cons n ns =>
    have := hc n
    rw [Y5r h0] at this
    simp only [inBx, Z0w]
    cases hh : hasL s n
    ·rfl
    ·rw [hh] at this; simp only [jB] at this; rw [<- this]; simp
  ·have e : Z10 (c :: cs) (s :: all) = (Z10 cs all).map (Z1n c s :: ·) := by rw [Z10, if_neg h0]
   rw [e]
   cases ha : Z10 cs all with
   | none =>
    refine ⟨fun _ => .inr rfl, fun _ ns => ?_, fun a h => by cases h⟩
    cases ns with
    | nil => rfl
    | cons n ns =>
     have := h2 ha ns
     simp only [inBx, Z0w]
     cases hx : inBx all ns
     ·simp
     ·rw [hx, jB] at this; rw [this]; simp
   | some a =>
    refine ⟨fun ns => .inl ?_, fun h => (by cases h), fun a' h => ?_⟩
    ·cases ns with
     | nil => rfl
     | cons n ns =>
      have := h1 ns
      rw [ha] at this
      rcases this with this | this
      ·show (hasL (Z1n c s) n && inBx a ns) = _
       rw [show inBx a ns = _ from this, hc n]
       simp only [inBx, Z0w]
       cases hasL s n <;> cases Z24 c n <;> cases inBx all ns <;> cases Z0w cs ns <;> rfl
      ·cases this
    ·simp only [jH, jI.injEq] at h
     subst h
     obtain ⟨g1, g2⟩ := h3 a ha
     exact ⟨fun x hx => by rcases List.mem_cons.1 hx with rfl | hx; exact ⟨by omega, Y1s hs⟩; exact g1 x hx, by simp [g2]⟩
theorem Z7k {r : Rl} {all a : Bx} (h : Z1f r all = some a) : (∀ ns, inBx a ns = (inBx all ns && Z0i r ns)) /\ Sets a /\ a.length = all.length := by
 unfold Z1f at h
 split at h
 case isFalse => cases h
 case isTrue hc =>
  simp only [jA, decide_eq_true_iff] at hc
  obtain ⟨h1, _, h3⟩ := Z8w (goodBx_iff.1 hc.2).1 hc.1
  refine ⟨fun ns => ?_, h3 a h⟩
  have := h1 ns
  rw [h] at this
  rcases this with this | this
  ·exact this
  ·cases this
theorem Z7j {r : Rl} {all : Bx} (h : Z1f r all = none) (hl : r.cells.length = all.length) (hg : Z0j all (all.length : Int) = true) (ns : List Int) : (inBx all ns && Z0i r ns) = false := by
 unfold Z1f at h
 rw [decide_eq_true hl, hg] at h
 exact (Z8w (goodBx_iff.1 hg).1 hl).2.1 (by simpa using h) ns
theorem Z7z : ∀ {a b : Bx}, Sets a -> a.length = b.length -> (∀ x, Z05 a b = some x -> ∀ ns, inBx x ns = (inBx a ns && inBx b ns)) /\ (Z05 a b = none -> ∀ ns, (inBx a ns && inBx b ns) = false)
 | [], [], _, _ => by
  refine ⟨fun x h ns => ?_, fun h => by simp [Z05] at h⟩
  simp only [Z05, jI.injEq] at h
  subst h
  cases ns <;> rfl
 | [], _ :: _, _, h => by simp at h
 | _ :: _, [], _, h => by simp at h
 | s :: a, t :: b, hg, hl => by
  have hs := (hg s (by simp)).2
  obtain ⟨h1, h2⟩ := Z7z (a := a) (b := b) (fun x hx => hg x (by simp [hx])) (by simpa using hl)
  have hc := fun n => Z4l (b := t) hs n
  by_cases h0 : (Z0q s t).length = 0
  ·have e : Z05 (s :: a) (t :: b) = none := by rw [Z05, if_pos h0]
   refine ⟨fun x h => (by rw [e] at h; cases h), fun _ ns => ?_⟩
   cases ns with
   | nil => rfl
   | cons n ns =>
    have := hc n
    rw [Y5r h0] at this
    simp only [inBx]
    cases hh : hasL s n
    ·rfl
    ·rw [hh] at this; simp only [jB] at this; rw [<- this]; simp
  ·have e : Z05 (s :: a) (t :: b) = (Z05 a b).map (Z0q s t :: ·) := by rw [Z05, if_neg h0]
   rw [e]
   cases ha : Z05 a b with
   | none =>
    refine ⟨fun x h => (by cases h), fun _ ns => ?_⟩
    cases ns with
    | nil => rfl
    | cons n ns =>
     have := h2 ha ns
     simp only [inBx]
     cases hx : inBx a ns
     ·simp
     ·rw [hx, jB] at this; rw [this]; simp
   | some y =>
    refine ⟨fun x h ns => ?_, fun h => by cases h⟩
    simp only [jH, jI.injEq] at h
    subst h
    cases ns with
    | nil => rfl
    | cons n ns =>
     simp only [inBx]
     rw [h1 y ha ns, hc n]
     cases hasL s n <;> cases hasL t n <;> cases inBx a ns <;> cases inBx b ns <;> rfl
theorem Y79 {a b x : Bx} (ha : Sets a) (hl : a.length = b.length) (h : Z09 a b = some x) (ns : List Int) : inBx x ns = (inBx a ns && inBx b ns) := by
 unfold Z09 at h
 split at h
 ·exact (Z7z ha hl).1 x h ns
 ·cases h
theorem Y4c {a b : Bx} (ha : Sets a) (hb : Sets b) (hl : a.length = b.length) (h3 : a.length <= 3) (h : Z09 a b = none) (ns : List Int) : (inBx a ns && inBx b ns) = false := by
 unfold Z09 at h
 rw [Z3l ha rfl h3, Z3l hb hl.symm h3] at h
 exact (Z7z ha hl).2 h ns
def X16 (pol : Int) (r s : Rl) : Prop := pol = 2 /\ r.out = s.out
theorem Z9v (pol : Int) (hp : pol = 1 \/ pol = 2) : ∀ (l : List Int) (n : Int), ((Z0e pol n l).2.2 = 0 /\ ∀ o ∈ l, pol = 2 /\ n = o) \/ ((Z0e pol n l).2.2 = 4 /\ ∃ o ∈ l, ¬ (pol = 2 /\ n = o))
 | [], n => .inl ⟨rfl, fun o h => by simp at h⟩
 | o :: l, n => by
  rcases hp with rfl | rfl
  ·exact .inr ⟨rfl, o, by simp, by omega⟩
  ·have ih := Z9v 2 (.inr rfl) l n
   by_cases ho : o = n
   ·subst ho
    have e : Z0e 2 o (o :: l) = Z0e 2 o l := by simp [Z0e]
    rw [e]
    rcases ih with ⟨h1, h2⟩ | ⟨h1, x, h2, h3⟩
    ·exact .inl ⟨h1, fun x hx => by rcases List.mem_cons.1 hx with rfl | hx; exact ⟨rfl, rfl⟩; exact h2 x hx⟩
    ·exact .inr ⟨h1, x, by simp [h2], h3⟩
   ·have e : Z0e 2 n (o :: l) = (0, false, 4) := by simp [Z0e, ho]
    rw [e]
    exact .inr ⟨rfl, o, by simp, fun h => ho h.2.symm⟩
theorem Z8a (pol : Int) (hp : pol ≠ 1 /\ pol ≠ 2) : ∀ (l : List Int) (n : Int), (Z0e pol n l).2.2 = 0
 | [], n => rfl
 | o :: l, n => by
  have ih := Z8a pol hp l
  simp only [Z0e]
  rw [if_neg hp.1, if_neg hp.2]
  split
  ·exact ih _
  ·split
   ·exact ih _
   ·split
    ·exact ih _
    ·exact ih _
theorem X1i {pol : Int} (hp : pol = 1 \/ pol = 2) (l : List Int) : ((sayO pol l).2.2 = 0 /\ l.Pairwise fun x y => pol = 2 /\ x = y) \/ ((sayO pol l).2.2 = 4 /\ ¬ l.Pairwise fun x y => pol = 2 /\ x = y) := by
 cases l with
 | nil => exact .inl ⟨rfl, List.Pairwise.nil⟩
 | cons n l =>
  rcases Z9v pol hp l n with ⟨h1, h2⟩ | ⟨h1, x, h2, h3⟩
  ·refine .inl ⟨h1, jG.2 ⟨h2, ?_⟩⟩
   clear h1
   induction l with
   | nil => exact List.Pairwise.nil
   | cons y l ih =>
    refine jG.2 ⟨fun z hz => ?_, ih fun o ho => h2 o (by simp [ho])⟩
    have hy := h2 y (by simp)
    have hz' := h2 z (by simp [hz])
    exact ⟨hy.1, by rw [<- hy.2, hz'.2]⟩
  ·exact .inr ⟨h1, fun hP => h3 ((jG.1 hP).1 x h2)⟩
theorem Y84 (pol : Int) (rs : List Rl) (ns : List Int) : ((Z2t rs ns).Pairwise fun x y => pol = 2 /\ x = y) ↔ rs.Pairwise fun r s => Z0i r ns = true -> Z0i s ns = true -> X16 pol r s := by
 unfold Z2t
 rw [List.pairwise_map, List.pairwise_filter]
 rfl
theorem X1m {t : Tb} {ns : List Int} (hg : Z0s t = true) (hl : ns.length = t.ins.length) :
  (2 < t.pol -> (Z03 t ns).2.2 = 0) /\ (t.pol <= 2 -> ((Z03 t ns).2.2 = 0 /\ t.rules.Pairwise fun r s => Z0i r ns = true -> Z0i s ns = true -> X16 t.pol r s) \/
   ((Z03 t ns).2.2 = 4 /\ ¬ t.rules.Pairwise fun r s => Z0i r ns = true -> Z0i s ns = true -> X16 t.pol r s)) := by
 have hb := Z0z hg
 have e : Z03 t ns = if t.pol = 7 then (((Z2t t.rules ns).length : Int), true, 0) else sayO t.pol (Z2t t.rules ns) := by
  unfold Z03; rw [if_pos ⟨hg, hl⟩, Y9f]
 constructor
 ·intro h2
  rw [e]
  split
  ·rfl
  ·cases Z2t t.rules ns with
   | nil => rfl
   | cons o l => exact Z8a t.pol (by omega) l o
 ·intro h2
  rw [e, if_neg (by omega)]
  have := X1i (pol := t.pol) (by omega) (Z2t t.rules ns)
  rw [Y84] at this
  exact this
theorem Z6c {t : Tb} (h : Z0s t = true) {r : Rl} (hr : r ∈ t.rules) : r.cells.length = t.ins.length := by
 unfold Z0s at h
 simp only [jA, List.all_eq_true] at h
 have h1 := h.2 r hr
 unfold Z0o at h1
 simp only [jA, decide_eq_true_iff] at h1
 exact h1.1.2
theorem mem_clashTo {t : Tb} {all x : Bx} {k : Nat} : x ∈ Z4b t all k ↔ ∃ i j r s, j < i /\ i < k /\ t.rules[i]? = some r /\ t.rules[j]? = some s /\ x ∈ Z2c t.pol all r s := by
 unfold Z4b Z2a
 rw [jE]
 constructor
 ·rintro ⟨i, hi, hx⟩
  rw [jF] at hi
  cases hr : t.rules[i]? with
  | none => rw [hr] at hx; simp at hx
  | some r =>
   rw [hr] at hx
   simp only [jE] at hx
   obtain ⟨s, hs, hx⟩ := hx
   obtain ⟨j, hj, rfl⟩ := List.getElem_of_mem hs
   have hj' : j < i /\ j < t.rules.length := by rw [List.length_take] at hj; omega
   exact ⟨i, j, r, t.rules[j], hj'.1, hi, hr, jC hj'.2, by simpa using hx⟩
 ·rintro ⟨i, j, r, s, hji, hik, hr, hs, hx⟩
  refine ⟨i, jF.2 hik, ?_⟩
  rw [hr]
  simp only [jE]
  refine ⟨s, ?_, hx⟩
  have hj := (List.getElem?_eq_some_iff.1 hs).1
  rw [List.mem_iff_getElem?]
  exact ⟨j, by rw [List.getElem?_take, if_pos hji]; exact hs⟩
section
variable {t : Tb} {all : Bx} (hg : Z0s t = true) (hb : Z0j all (t.ins.length : Int) = true)
include hg hb
theorem Y8d (ns : List Int) (hin : inBx all ns = true) (h4 : (Z03 t ns).2.2 ≠ 0) : ∃ x ∈ Z17 t all, inBx x ns = true := by
 have h6 : (all.length : Int) = t.ins.length := (goodBx_iff.1 hb).2.1
 have hlen := Z61 hin
 have hse := X1m hg (ns := ns) (by omega)
 have hp : t.pol <= 2 := by
  rcases Int.lt_or_le 2 t.pol with h | h
  ·exact absurd (hse.1 h) h4
  ·exact h
 rcases hse.2 hp with ⟨h0, _⟩ | ⟨_, hnP⟩
 ·exact absurd h0 h4
 ·apply Classical.byContradiction
  intro hno
  apply hnP
  rw [List.pairwise_iff_getElem]
  intro j i hj hi hji hsj hri
  apply Classical.byContradiction
  intro hnA
  apply hno
  have hgb : Z0j all (all.length : Int) = true := by rw [h6]; exact hb
  have hci := Z6c hg (jD hi)
  have hcj := Z6c hg (jD hj)
  cases ha : Z1f t.rules[i] all with
  | none => have := Z7j ha (by omega) hgb ns; rw [hin, hri] at this; cases this
  | some a =>
   cases hb' : Z1f t.rules[j] all with
   | none => have := Z7j hb' (by omega) hgb ns; rw [hin, hsj] at this; cases this
   | some b =>
    obtain ⟨a1, a2, a3⟩ := Z7k ha
    obtain ⟨b1, b2, b3⟩ := Z7k hb'
    have hl3 := (goodBx_iff.1 hb).2.2
    cases hxb : Z09 a b with
    | none => have := Y4c a2 b2 (by omega) (by omega) hxb ns; rw [a1, b1, hin, hri, hsj] at this; cases this
    | some x =>
     refine ⟨x, ?_, by rw [Y79 a2 (by omega) hxb, a1, b1, hin, hri, hsj]; rfl⟩
     unfold Z17
     rw [hg, hb, decide_eq_true hp]
     refine mem_clashTo.2 ⟨i, j, _, _, hji, hi, jC hi, jC hj, ?_⟩
     rw [Z25 ha hb' (f := true) (x := x) ?_ (by rw [hxb]; rfl) (by rw [hxb]; rfl)]
     ·simp
     ·rcases Classical.em (t.pol = 2) with h2 | h2
      ·right; intro e; exact hnA ⟨h2, e.symm⟩
      ·exact .inl h2
end
end Go.Proofs.YtlopccnehgolnabGreatDoor
