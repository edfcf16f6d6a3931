import Derived.Test.YtlopccnehgolnacGreatDoorGCommits26
import Derived.Test.YtlopccnehgolnacGreatDoorLeast
import Derived.Test.YtlopccnehgolnacGreatDoorGCommits11
import Derived.Test.YtlopccnehgolnacGreatDoorGCommits8
namespace Go.Proofs.YtlopccnehgolnacGreatDoor
open Go.RowKit Rb
open Go.Lib renaming hid -> hI
open Go.World renaming cell?_alloc_new -> cN
open Nat renaming lt_of_lt_of_le -> nL, le_trans -> nT, le_refl -> nR, le_of_lt -> jH, zero_le -> jI
open List renaming length_append -> lA, append_assoc -> jC, append_nil -> jD, flatMap_append -> jE, length_cons -> jF, length_nil -> jG
open Go.RowKit.Below renaming refl -> jA
open Bool renaming and_false -> jB
open Rd renaming below -> jJ
set_option maxRecDepth 100000
set_option maxHeartbeats 1600000
def Z17 (pol : Int) (all : Bx) (r s : Rl) : List Bx :=
 if Z1e (Z1l r all) && Z1e (Z1l s all) && !(decide (pol = 2) && decide (r.out = s.out)) && Z1e (Z1s (Z2k (Z1l r all)) (Z2k (Z1l s all))) then [Z2k (Z1s (Z2k (Z1l r all)) (Z2k (Z1l s all)))] else []
def Z18 (pol : Int) (all : Bx) (r : Rl) (l : List Rl) : List Bx := l.flatMap (Z17 pol all r)
def Z4t (t : Tb) (all : Bx) (k : Nat) : List Bx := (List.range k).flatMap fun i => match t.rules[i]? with | some r => Z18 t.pol all r (t.rules.take i) | none => []
def Z16 (t : Tb) (all : Bx) : List Bx := if Z0r t && Z00 all (t.ins.length : Int) && decide (t.pol <= 2) then Z4t t all t.rules.length else []
theorem Y1l {t : Tb} {all : Bx} {k : Nat} {r : Rl} (h : t.rules[k]? = some r) : Z4t t all (k + 1) = Z4t t all k ++ Z18 t.pol all r (t.rules.take k) := by
 unfold Z4t
 rw [List.range_succ, jE]
 simp [h]
theorem Y0b {pol : Int} {all : Bx} {r s : Rl} {l : List Rl} {j : Nat} (h : l[j]? = some s) : Z18 pol all r (l.take (j + 1)) = Z18 pol all r (l.take j) ++ Z17 pol all r s := by
 unfold Z18
 rw [Z0b h, jE]
 simp
theorem Y0a {pol : Int} {all : Bx} {r : Rl} {l : List Rl} (h : Z1e (Z1l r all) = false) : Z18 pol all r l = [] := by
 unfold Z18
 rw [List.flatMap_eq_nil_iff]
 intro s _
 unfold Z17
 rw [h]; rfl
theorem Z3f {pol : Int} {all : Bx} {r s : Rl} {a b x : Bx} {f : Bool} (ha : Z1l r all = some a) (hb : Z1l s all = some b) (hc : pol ≠ 2 \/ r.out ≠ s.out) (hf : Z1e (Z1s a b) = f) (hx : Z2k (Z1s a b) = x) : Z17 pol all r s = if f then [x] else [] := by
 subst hf; subst hx
 have h : (decide (pol = 2) && decide (r.out = s.out)) = false := by
  rw [Bool.and_eq_false_iff, decide_eq_false_iff_not, decide_eq_false_iff_not]; exact hc
 have e : Z2k (some a) = a /\ Z2k (some b) = b := ⟨rfl, rfl⟩
 unfold Z17
 rw [ha, hb, h, e.1, e.2]
 simp only [show Z1e (some a) = true from rfl, show Z1e (some b) = true from rfl, Bool.true_and, Bool.not_false]
theorem Z01 {α : Type} {S : Nat -> Prop} (R : Rd α) (w : World) : (rSl R).rel w S [.slice none 0 0] [] := ⟨none, 0, rfl, nR _, by decide, by simp, fun i x hx => by simp at hx⟩
def S9 (m n8 n4 : Nat) : Nat -> Prop := fun b => b < m \/ (n8 < b /\ b < n4)
structure ClI (W0 : World) (n8 n4 : Nat) (rout : Int) (z9 : Value) (a : Bx) (wr : World) (o : Value) (out : List Bx) : Prop where
 own : Own rBx 163 wr W0.heap.size (fun _ => False) o out
 blk : ∀ b, o.ownBlock = some b -> b < n8 \/ n4 <= b
 below : Below W0.heap.size W0 wr
 c1 : wr.cell? ⟨n8, 1, none⟩ = some (.int .i64 rout)
 ra : rBx.rel wr (S9 W0.heap.size n8 n4) [z9] a
 sz : n4 <= wr.heap.size
 base : W0.heap.size <= n8
 n84 : n8 < n4
theorem ClI.keepB {W0 : World} {n8 n4 : Nat} {rout : Int} {z9 : Value} {a : Bx} {wr w' : World} {o : Value} {out : List Bx} (I : ClI W0 n8 n4 rout z9 a wr o out) (hb : Below wr.heap.size wr w') : ClI W0 n8 n4 rout z9 a w' o out where
 own := I.own.below hb
 blk := I.blk
 below := I.below.trans (hb.mono I.below.size)
 c1 := (hb.ce 1 (nL I.n84 I.sz)).trans I.c1
 ra := jJ I.ra hb
 sz := nT I.sz hb.size
 base := I.base
 n84 := I.n84
theorem ClI.push {W0 : World} {n8 n4 : Nat} {rout : Int} {z9 : Value} {a : Bx} {wr w9 : World} {o o9 : Value} {out : List Bx} {x : Bx} (I : ClI W0 n8 n4 rout z9 a wr o out) (hown : Own rBx 163 w9 W0.heap.size (fun _ => False) o9 (out ++ [x]))
  (hb : Below W0.heap.size wr w9) (hg : wr.grownBy w9 o.ownBlock) (hv : o9.ownBlock = o.ownBlock \/ o9.ownBlock = some (wr.heap.size + 1)) : ClI W0 n8 n4 rout z9 a w9 o9 (out ++ [x]) where
 own := hown
 blk := fun b h => by
  rcases hv with hv | hv
  ·exact I.blk b (hv ▸ h)
  ·rw [hv] at h; injection h with h; have := I.sz; right; omega
 below := I.below.trans hb
 c1 := (X06 hg (q := n8) (nL I.n84 I.sz) (fun h => by have := I.blk _ h; have := I.n84; omega) 1).1.trans I.c1
 ra := rBx.keep I.ra (Keeps.grown hg fun g h hS => by
  have h1 := I.blk g h
  have h2 := (I.own.lt g h).1
  have h3 := I.base
  have h4 := I.n84
  rcases hS with hS | hS <;> omega)
 sz := nT I.sz hg.size
 base := I.base
 n84 := I.n84
theorem Y46 {S T : Nat -> Prop} {v u : Value} {r : Rl} {all : Bx} {ar : Option Bx} (w : World) (hl : (rSl rCl).rel w S [v] r.cells) (hm : rBx.rel w T [u] all) (h : Z1l r all = ar) :
  Calls Tryz.prog 119 #[.agg #[v, .int .i64 r.out], u] w fun e w' => ∃ z, e = .returned (.tuple #[z, .bool (Z1e ar)]) /\ Own (rSl rRg) 70 w' w.heap.size T z (Z2k ar) /\ Below w.heap.size w w' := h ▸ Y7f w hl hm
theorem Z22 {S T : Nat -> Prop} {v u : Value} {r : Rl} {all : Bx} {a : Bx} (w : World) (hl : (rSl rCl).rel w S [v] r.cells) (hm : rBx.rel w T [u] all) (h : Z1l r all = some a) :
  Calls Tryz.prog 119 #[.agg #[v, .int .i64 r.out], u] w fun e w' => ∃ z, e = .returned (.tuple #[z, .bool true]) /\ Own (rSl rRg) 70 w' w.heap.size T z a /\ Below w.heap.size w w' := Y46 w hl hm h
theorem Z7q {S T : Nat -> Prop} {v u : Value} {r : Rl} {all : Bx} (w : World) (hl : (rSl rCl).rel w S [v] r.cells) (hm : rBx.rel w T [u] all) (h : Z1l r all = none) :
  Calls Tryz.prog 119 #[.agg #[v, .int .i64 r.out], u] w fun e w' => ∃ z, e = .returned (.tuple #[z, .bool false]) /\ Below w.heap.size w w' := (Y46 w hl hm h).mono fun _ _ ⟨z, h1, _, h3⟩ => ⟨z, h1, h3⟩
theorem Y5c {S T : Nat -> Prop} {cs : List Value} {t : Tb} {u : Value} {all : Bx} (w : World) (hl : rTb.rel w S cs t) (hm : rBx.rel w T [u] all) :
  Calls Tryz.prog 97 #[.agg cs.toArray, u] w fun e w' => ∃ z S', e = .returned (.tuple #[z, .bool (decide (0 < (Z16 t all).length))]) /\ (rSl rInt).rel w' (New w S') [z] (Z10 (Z16 t all)) /\ Below w.heap.size w w' := by
 have hal := rSl.lenle hm (by decide)
 have HG := hI fun o => Z5x (w.alloc o) (Rd.alloc hl o)
 obtain ⟨vi, vr, rfl, hnm, hp, hi, hr⟩ := hl
 obtain ⟨A, c, rfl, hi1, hi2, hi3, hE⟩ := rSl.elems hi
 obtain ⟨B, d, rfl, hr1, hr2, hr3, hF⟩ := rSl.elems hr
 obtain ⟨C, g, rfl, _⟩ := rSl.elems hm
 have HALL := hI (show rBx.rel w (fun b => T b /\ b < w.heap.size) _ _ from rBx.mono hm fun b h h' => ⟨h, h'⟩)
 obtain ⟨W0, e0, hb0, c0, c1, c2, c3, c4, hs0⟩ : ∃ W0, w.alloc (.cells #[.string ⟨t.name.toArray⟩, .int .i64 t.pol, .bool t.comp, .slice A t.ins.length c, .slice B t.rules.length d] 66) = W0 /\ Below w.heap.size w W0 /\
   W0.cell? ⟨w.heap.size, 0, none⟩ = some (.string ⟨t.name.toArray⟩) /\ W0.cell? ⟨w.heap.size, 1, none⟩ = some (.int .i64 t.pol) /\ W0.cell? ⟨w.heap.size, 2, none⟩ = some (.bool t.comp) /\ W0.cell? ⟨w.heap.size, 3, none⟩ = some (.slice A t.ins.length c) /\ W0.cell? ⟨w.heap.size, 4, none⟩ = some (.slice B t.rules.length d) /\ w.heap.size < W0.heap.size :=
  ⟨_, rfl, (jA _ _).alloc (nR _) _, cN _ _ _ _, cN _ _ _ _, cN _ _ _ _, cN _ _ _ _, cN _ _ _ _, by simp⟩
 have HG0 := hI (by have := HG.out (.cells #[.string ⟨t.name.toArray⟩, .int .i64 t.pol, .bool t.comp, .slice A t.ins.length c, .slice B t.rules.length d] 66); rw [e0] at this; exact this)
 clear hi hr hE hi3 hr3 hm HG
 cases hgt : Z0r t
 ·have HF : Hid (Z16 t all = []) := hI (by unfold Z16; rw [hgt]; rfl)
  rw [hgt] at HG0
  clear hgt
  go_enter Tryz.func97, Tryz.ntmps97
  go_wp2_with (go_at_call 79; refine HG0.out.mono ?_; rintro e w1 ⟨rfl, hb1⟩)
  go_ret2
  exact ⟨_, fun _ => True, by rw [HF.out]; rfl, by rw [HF.out]; exact Z01 _ _, hb0.trans (hb1.mono hb0.size)⟩
 rw [hgt] at HG0
 have hrl : t.rules.length <= 6 := (Z06 hgt).2.2.2.2.2
 cases hgb : Z00 all (t.ins.length : Int)
 ·have HF : Hid (Z16 t all = []) := hI (by unfold Z16; rw [hgb, jB]; rfl)
  have HGB := hI hgb
  clear hgt hgb
  go_enter Tryz.func97, Tryz.ntmps97
  go_wp2_with (first | (go_at_call 79; refine HG0.out.mono ?_; rintro e w1 ⟨rfl, hb1⟩; have hbx := hb0.trans (hb1.mono hb0.size); have k3 := (hb1.ce 3 hs0).trans c3) | (go_at_call 118; ((with_reducible refine (Z4n _ (jJ HALL.out hbx) HGB.out).mono ?_); rintro e w2 ⟨rfl, hb2⟩)))
  go_ret2
  exact ⟨_, fun _ => True, by rw [HF.out]; rfl, by rw [HF.out]; exact Z01 _ _, hbx.trans (hb2.mono hbx.size)⟩
 have HGB := hI hgb
 by_cases hp2 : t.pol <= 2
 case neg =>
  have HF : Hid (Z16 t all = []) := hI (by unfold Z16; rw [decide_eq_false hp2, jB]; rfl)
  have hp3 : 2 < t.pol := by omega
  clear hgt hgb
  go_enter Tryz.func97, Tryz.ntmps97
  go_wp2_with (first | (go_at_call 79; refine HG0.out.mono ?_; rintro e w1 ⟨rfl, hb1⟩; have hbx := hb0.trans (hb1.mono hb0.size); have k3 := (hb1.ce 3 hs0).trans c3; have k1 := (hb1.ce 1 hs0).trans c1) | (go_at_call 118; ((with_reducible refine (Z4n _ (jJ HALL.out hbx) HGB.out).mono ?_); rintro e w2 ⟨rfl, hb2⟩; have m1 := (hb2.ce 1 (nL hs0 hb1.size)).trans k1)))
  go_ret2
  exact ⟨_, fun _ => True, by rw [HF.out]; rfl, by rw [HF.out]; exact Z01 _ _, hbx.trans (hb2.mono hbx.size)⟩
 have HF : Hid (Z16 t all = Z4t t all t.rules.length) := hI (by unfold Z16; rw [hgt, hgb, decide_eq_true hp2]; rfl)
 have hp3 : ¬ 2 < t.pol := by omega
 clear hgt hgb hp2
 go_enter Tryz.func97, Tryz.ntmps97
 go_wp2_with (first | (go_at_call 79; refine HG0.out.mono ?_; rintro e w1 ⟨rfl, hb1⟩; have hbx := hb0.trans (hb1.mono hb0.size); have k3 := (hb1.ce 3 hs0).trans c3; have k1 := (hb1.ce 1 hs0).trans c1; have k4 := (hb1.ce 4 hs0).trans c4) | (go_at_call 118; ((with_reducible refine (Z4n _ (jJ HALL.out hbx) HGB.out).mono ?_); rintro e w2 ⟨rfl, hb2⟩; have m1 := (hb2.ce 1 (nL hs0 hb1.size)).trans k1; have m4 := (hb2.ce 4 (nL hs0 hb1.size)).trans k4)))
 have hbw := hb1.trans (hb2.mono hb1.size)
 clear hb1 hb2 hbx k1 k3 k4 m1 m4 e0
 go_loopw [6, 36] (fun o i wr => ∃ (k : Nat) (out : List Bx), k <= t.rules.length /\ i = .int .i64 k /\ Own rBx 163 wr W0.heap.size (fun _ => False) o out /\ Hid (out = Z4t t all k) /\ Hid (out.length <= 6 * k) /\ Below W0.heap.size W0 wr) (fun _ i _ => t.rules.length - (intOf i).toNat)
 case atStart => exact ⟨0, [], jI _, rfl, Own.nil _ _ _ _ _, hI rfl, hI (by simp), hbw⟩
 case round =>
  clear hbw HG0 HGB
  obtain ⟨k, out, hk, rfl, hown, HO, HOL, hb⟩ := hrel
  have m1 := (hb.ce 1 hs0).trans c1
  have m4 := (hb.ce 4 hs0).trans c4
  have hbw := hb0.trans (hb.mono (jH hs0))
  by_cases hlt : k < t.rules.length
  ·obtain ⟨bA, off, r, q, rfl, _, hbA, hx, hri, hq, g1, g2⟩ := hF.rl hlt
   rw [<- hbw.ce _ hbA] at g1 g2
   have hik : (k : Int) < (t.rules.length : Int) := by omega
   have HT := hI (Y1l (all := all) hx)
   obtain ⟨A2, l2, rfl, _⟩ := rSl.elems hq
   have HQ := hI hq
   obtain ⟨W1, e1, hown1, hb1, d0, d1, hs1⟩ : ∃ W1, wr.alloc (.cells #[.slice A2 r.cells.length l2, .int .i64 r.out] 69) = W1 /\ Own rBx 163 W1 W0.heap.size (fun _ => False) u6 out /\ Below W0.heap.size W0 W1 /\
     W1.cell? ⟨wr.heap.size, 0, none⟩ = some (.slice A2 r.cells.length l2) /\ W1.cell? ⟨wr.heap.size, 1, none⟩ = some (.int .i64 r.out) /\ W1.heap.size = wr.heap.size + 1 :=
    ⟨_, rfl, hown.alloc _, hb.alloc hb.size _, cN _ _ _ _, cN _ _ _ _, by simp⟩
   have HLT := hI hown.lt
   have hbw1 := hb0.trans (hb1.mono (jH hs0))
   clear hown hx hq
   have HQ1 := hI (jJ HQ.out hbw1)
   have HALL1 := hI (jJ HALL.out hbw1)
   generalize har : Z1l r all = ar at *
   have HAR := hI har
   clear har
   cases ar with
   | none =>
    have HT' : Hid (Z4t t all (k + 1) = out) := hI (by rw [HT.out, Y0a (by rw [HAR.out]; rfl), jD, HO.out])
    go_wp2_with (go_at_call 119; (with_reducible refine (Z7q W1 HQ1.out HALL1.out HAR.out).mono ?_); rintro e w4 ⟨z9, rfl, hb4⟩)
    go_roundw
    case rel => exact ⟨k + 1, out, by omega, by go_num, hown1.below hb4, hI HT'.out.symm, hI (by have := HOL.out; omega), hb1.trans (hb4.mono hb1.size)⟩
    case measure => simp [intOf]; omega
   | some a =>
    have HUSE := hI HLT.out
    have hwr := hb.size
    go_wp2_with (go_at_call 119; (with_reducible refine (Z22 W1 HQ1.out HALL1.out HAR.out).mono ?_); rintro e w4 ⟨z9, rfl, how4, hb4⟩; obtain ⟨A9, l9, rfl⟩ := how4.value; have n4 := ((hb1.trans (hb4.mono hb1.size)).ce 4 hs0).trans c4)
    have HI0 : Hid (ClI W0 wr.heap.size w4.heap.size r.out (.slice A9 a.length l9) a w4 u6 out) := hI {
     own := hown1.below hb4
     blk := fun b h => .inl (HLT.out b h).2
     below := hb1.trans (hb4.mono hb1.size)
     c1 := (hb4.cell (p := ⟨wr.heap.size, 1, none⟩) (by show wr.heap.size < _; omega)).trans d1
     ra := rBx.mono (show rBx.rel w4 _ _ _ from how4.rel (by decide)) fun b h h' => by
      rcases h with h | h
      ·exact .inl (Nat.lt_trans h.2 hs0)
      ·exact .inr ⟨by omega, h'⟩
     sz := nR _
     base := hwr
     n84 := by have := hb4.size; omega }
    clear hown1 how4 hb4 d0 d1 n4 hb hbw hb1 hbw1 HQ HQ1 HALL1 HLT HUSE g1 g2 m1 m4 hs1 e1 hwr
    generalize wr.heap.size = n8 at *
    have hik3 : ¬ (k : Int) < 0 := by omega
    go_loopw [6, 54] (fun o i wi => ∃ (j : Nat) (out2 : List Bx), j <= k /\ i = .int .i64 j /\ Hid (ClI W0 n8 w4.heap.size r.out (.slice A9 a.length l9) a wi o out2) /\ Hid (out2 = out ++ Z18 t.pol all r (t.rules.take j)) /\ Hid (out2.length <= 6 * k + j)) (fun _ i _ => k - (intOf i).toNat)
    case atStart => exact ⟨0, out, jI _, rfl, HI0, hI (by simp [Z18]), HOL⟩
    case round =>
     clear HI0
     obtain ⟨j, out2, hj, rfl, HI, HO2, HOL2⟩ := hrel
     have hbi := HI.out.below
     have hbwi := hb0.trans (hbi.mono (jH hs0))
     by_cases hlj : j < k
     ·obtain ⟨bA', off', s, q', h9, _, hbA', hx', hri', hq', g1', g2'⟩ := hF.rl (show j < t.rules.length by omega)
      obtain ⟨rfl, rfl⟩ : bA = bA' /\ off = off' := by simpa using h9
      rw [<- hbwi.ce _ hbA] at g1' g2'
      have hij : (j : Int) < (k : Int) := by omega
      have HRS : Hid (out ++ Z18 t.pol all r (t.rules.take (j + 1)) = out ++ (Z18 t.pol all r (t.rules.take j) ++ Z17 t.pol all r s)) := hI (congrArg (out ++ ·) (Y0b (pol := t.pol) (all := all) (r := r) hx'))
      obtain ⟨A3, l3, rfl, _⟩ := rSl.elems hq'
      have HQ' := hI hq'
      obtain ⟨W2, e2, hb2, f0, f1, hs2, hs2w⟩ : ∃ W2, wr.alloc (.cells #[.slice A3 s.cells.length l3, .int .i64 s.out] 69) = W2 /\ Below wr.heap.size wr W2 /\
        W2.cell? ⟨wr.heap.size, 0, none⟩ = some (.slice A3 s.cells.length l3) /\ W2.cell? ⟨wr.heap.size, 1, none⟩ = some (.int .i64 s.out) /\ wr.heap.size < W2.heap.size /\ Below w.heap.size w W2 :=
       ⟨_, rfl, (jA _ _).alloc (nR _) _, cN _ _ _ _, cN _ _ _ _, by simp, hbwi.alloc hbwi.size _⟩
      have HQ2 := hI (jJ HQ'.out hs2w)
      have HALL2 := hI (jJ HALL.out hs2w)
      have HUP : Hid (∀ w5, Below wr.heap.size wr w5 -> ∀ b, Up (fun _ => False) w5.heap.size b -> Up (fun _ => False) W0.heap.size b /\ u6.ownBlock ≠ some b) := hI (by
       rintro w5 h5 b (h | h)
       ·exact h.elim
       ·exact ⟨.inr (nT hbi.size (nT h5.size h)), fun e => by have := HI.out.own.lt _ e; have := h5.size; omega⟩)
      have HBY : Hid ((out2.length + 1) * rBx.bytes <= 140737488355328) := hI (by have := HOL2.out; show (_ + _) * 24 <= _; omega)
      clear h9 hx' hq' HQ' hbi hbwi
      generalize hbr : Z1l s all = br at *
      have HBR := hI hbr
      clear hbr
      cases br with
      | none =>
       have HC : Hid (Z17 t.pol all r s = []) := hI (by unfold Z17; rw [HBR.out]; simp [Z1e])
       go_wp2_with (go_at_call 119; (with_reducible refine (Z7q W2 HQ2.out HALL2.out HBR.out).mono ?_); rintro e w5 ⟨z13, rfl, hb5⟩; have HI5 := hI (HI.out.keepB (hb2.trans (hb5.mono hb2.size))))
       go_roundw
       case rel => exact ⟨j + 1, out2, by omega, by go_num, HI5, hI (by rw [HRS.out, HC.out, jD, HO2.out]), hI (by have := HOL2.out; omega)⟩
       case measure => simp [intOf]; omega
      | some b =>
       obtain ⟨xb, hxb⟩ : ∃ x, Z2k (Z1s a b) = x := ⟨_, rfl⟩
       obtain ⟨rr, hrr⟩ : ∃ x, Z1e (Z1s a b) = x := ⟨_, rfl⟩
       have qo := hI hxb
       have qr := hI hrr
       clear hxb hrr
       by_cases hp2 : t.pol = 2
       ·by_cases hro : r.out = s.out
        ·have HC : Hid (Z17 t.pol all r s = []) := hI (by unfold Z17; rw [HBR.out]; simp [hp2, hro])
         have t1 : (t.pol == 2) = true := by rw [beq_iff_eq]; exact hp2
         have t2 : (r.out == s.out) = true := by rw [beq_iff_eq]; exact hro
         clear hp2 hro
         go_wp2_with (go_at_call 119; (with_reducible refine (Z22 W2 HQ2.out HALL2.out HBR.out).mono ?_); rintro e w5 ⟨z13, rfl, how5, hb5⟩; obtain ⟨A13, l13, rfl⟩ := how5.value; have HI5 := hI (HI.out.keepB (hb2.trans (hb5.mono hb2.size))); have p1 := (HI5.out.below.ce 1 hs0).trans c1; have pr := HI5.out.c1; have ps := (hb5.ce 1 hs2).trans f1; have HB5 := hI (show rBx.rel w5 _ _ _ from how5.rel (by decide)))
         go_roundw
         case rel => exact ⟨j + 1, out2, by omega, by go_num, HI5, hI (by rw [HRS.out, HC.out, jD, HO2.out]), hI (by have := HOL2.out; omega)⟩
         case measure => simp [intOf]; omega
        ·have t1 : (t.pol == 2) = true := by rw [beq_iff_eq]; exact hp2
         have t2 : (r.out == s.out) = false := by rw [beq_eq_false_iff_ne]; exact hro
         have hro2 := hI hro
         clear hp2 hro
         cases rr
         ·have HC : Hid (Z17 t.pol all r s = []) := hI (Z3f HAR.out HBR.out (.inr hro2.out) qr.out qo.out)
          go_wp2_with (first | (go_at_call 119; (with_reducible refine (Z22 W2 HQ2.out HALL2.out HBR.out).mono ?_); rintro e w5 ⟨z13, rfl, how5, hb5⟩; obtain ⟨A13, l13, rfl⟩ := how5.value; have HI5 := hI (HI.out.keepB (hb2.trans (hb5.mono hb2.size))); have p1 := (HI5.out.below.ce 1 hs0).trans c1; have pr := HI5.out.c1; have ps := (hb5.ce 1 hs2).trans f1; have HB5 := hI (show rBx.rel w5 _ _ _ from how5.rel (by decide))) | (go_at_call 120; (with_reducible refine (Z7g w5 HI5.out.ra HB5.out qr.out qo.out).mono ?_); rintro e w6 ⟨z15, rfl, how6, hb6⟩; obtain ⟨A15, l15, rfl⟩ := how6.value; have HI6 := hI (HI5.out.keepB hb6)))
          go_roundw
          case rel => exact ⟨j + 1, out2, by omega, by go_num, HI6, hI (by rw [HRS.out, HC.out, jD, HO2.out]), hI (by have := HOL2.out; omega)⟩
          case measure => simp [intOf]; omega
         ·have HC : Hid (Z17 t.pol all r s = [xb]) := hI (Z3f HAR.out HBR.out (.inr hro2.out) qr.out qo.out)
          go_wp2_with (first | (go_at_call 119; (with_reducible refine (Z22 W2 HQ2.out HALL2.out HBR.out).mono ?_); rintro e w5 ⟨z13, rfl, how5, hb5⟩; obtain ⟨A13, l13, rfl⟩ := how5.value; have HI5 := hI (HI.out.keepB (hb2.trans (hb5.mono hb2.size))); have p1 := (HI5.out.below.ce 1 hs0).trans c1; have pr := HI5.out.c1; have ps := (hb5.ce 1 hs2).trans f1; have HB5 := hI (show rBx.rel w5 _ _ _ from how5.rel (by decide))) | (go_at_call 120; (with_reducible refine (Z7g w5 HI5.out.ra HB5.out qr.out qo.out).mono ?_); rintro e w6 ⟨z15, rfl, how6, hb6⟩; obtain ⟨A15, l15, rfl⟩ := how6.value; have HI6 := hI (HI5.out.keepB hb6)) | (at_builtin; refine Z0a (R := rBx) (x := xb) Y1s rfl (.tmp 85) (.tmp 87) rfl rfl HI6.out.own [.slice A15 xb.length l15] rfl rfl (Up (fun _ => False) w5.heap.size) (how6.rel (by decide)) (fun b h _ => HUP.out w5 (hb2.trans (hb5.mono hb2.size)) b h) HBY.out HI6.out.below.size ?_; intro v9 w9 hown9 hb9 hg9 hv9; have HI9 := hI (HI6.out.push hown9 hb9 hg9 hv9)))
          go_roundw
          case rel => exact ⟨j + 1, out2 ++ [xb], by omega, by go_num, HI9, hI (by rw [HRS.out, HC.out, <- jC, <- HO2.out]), hI (by have := HOL2.out; rw [lA]; simp only [jF, jG]; omega)⟩
          case measure => simp [intOf]; omega
       ·have t1 : (t.pol == 2) = false := by rw [beq_eq_false_iff_ne]; exact hp2
        have hpp2 := hI hp2
        clear hp2
        cases rr
        ·have HC : Hid (Z17 t.pol all r s = []) := hI (Z3f HAR.out HBR.out (.inl hpp2.out) qr.out qo.out)
         go_wp2_with (first | (go_at_call 119; (with_reducible refine (Z22 W2 HQ2.out HALL2.out HBR.out).mono ?_); rintro e w5 ⟨z13, rfl, how5, hb5⟩; obtain ⟨A13, l13, rfl⟩ := how5.value; have HI5 := hI (HI.out.keepB (hb2.trans (hb5.mono hb2.size))); have p1 := (HI5.out.below.ce 1 hs0).trans c1; have pr := HI5.out.c1; have ps := (hb5.ce 1 hs2).trans f1; have HB5 := hI (show rBx.rel w5 _ _ _ from how5.rel (by decide))) | (go_at_call 120; (with_reducible refine (Z7g w5 HI5.out.ra HB5.out qr.out qo.out).mono ?_); rintro e w6 ⟨z15, rfl, how6, hb6⟩; obtain ⟨A15, l15, rfl⟩ := how6.value; have HI6 := hI (HI5.out.keepB hb6)))
         go_roundw
         case rel => exact ⟨j + 1, out2, by omega, by go_num, HI6, hI (by rw [HRS.out, HC.out, jD, HO2.out]), hI (by have := HOL2.out; omega)⟩
         case measure => simp [intOf]; omega
        ·have HC : Hid (Z17 t.pol all r s = [xb]) := hI (Z3f HAR.out HBR.out (.inl hpp2.out) qr.out qo.out)
         go_wp2_with (first | (go_at_call 119; (with_reducible refine (Z22 W2 HQ2.out HALL2.out HBR.out).mono ?_); rintro e w5 ⟨z13, rfl, how5, hb5⟩; obtain ⟨A13, l13, rfl⟩ := how5.value; have HI5 := hI (HI.out.keepB (hb2.trans (hb5.mono hb2.size))); have p1 := (HI5.out.below.ce 1 hs0).trans c1; have pr := HI5.out.c1; have ps := (hb5.ce 1 hs2).trans f1; have HB5 := hI (show rBx.rel w5 _ _ _ from how5.rel (by decide))) | (go_at_call 120; (with_reducible refine (Z7g w5 HI5.out.ra HB5.out qr.out qo.out).mono ?_); rintro e w6 ⟨z15, rfl, how6, hb6⟩; obtain ⟨A15, l15, rfl⟩ := how6.value; have HI6 := hI (HI5.out.keepB hb6)) | (at_builtin; refine Z0a (R := rBx) (x := xb) Y1s rfl (.tmp 85) (.tmp 87) rfl rfl HI6.out.own [.slice A15 xb.length l15] rfl rfl (Up (fun _ => False) w5.heap.size) (how6.rel (by decide)) (fun b h _ => HUP.out w5 (hb2.trans (hb5.mono hb2.size)) b h) HBY.out HI6.out.below.size ?_; intro v9 w9 hown9 hb9 hg9 hv9; have HI9 := hI (HI6.out.push hown9 hb9 hg9 hv9)))
         go_roundw
         case rel => exact ⟨j + 1, out2 ++ [xb], by omega, by go_num, HI9, hI (by rw [HRS.out, HC.out, <- jC, <- HO2.out]), hI (by have := HOL2.out; rw [lA]; simp only [jF, jG]; omega)⟩
         case measure => simp [intOf]; omega
     ·have hje : j = k := by omega
      have HT' : Hid (Z4t t all (k + 1) = out2) := hI (by rw [HT.out, <- HO.out, HO2.out, hje])
      clear hF
      go_wp2
      go_roundw
      case rel => exact ⟨k + 1, out2, by omega, by go_num, HI.out.own, hI HT'.out.symm, hI (by have := HOL2.out; omega), HI.out.below⟩
      case measure => simp [intOf]; omega
  ·have hke : k = t.rules.length := by omega
   have HQ : Hid (Z16 t all = out) := hI (by rw [HF.out, HO.out, hke])
   have HC := hI (Y13 wr (hown.rel (by decide)))
   obtain ⟨A9, l9, rfl⟩ := hown.value
   clear hF hown
   go_wp2_with (go_at_call 121; (with_reducible refine HC.out.mono ?_); rintro e w9 ⟨z9, S', rfl, hz9, hb9⟩)
   go_ret2
   exact ⟨z9, S', by rw [HQ.out]; rfl, by rw [HQ.out]; exact Y3y hz9 hbw.size, hbw.trans (hb9.mono hbw.size)⟩
def Z1q (rs : List Rl) (all : Bx) : List Bx := rs.flatMap fun r => if Z1e (Z1l r all) then [Z2k (Z1l r all)] else []
theorem Y1b {rs : List Rl} {all : Bx} {k : Nat} {r : Rl} (h : rs[k]? = some r) : Z1q (rs.take (k + 1)) all = Z1q (rs.take k) all ++ (if Z1e (Z1l r all) then [Z2k (Z1l r all)] else []) := by
 unfold Z1q
 rw [Z0b h, jE]
 simp
theorem Z7v (all : Bx) : ∀ rs : List Rl, (Z1q rs all).length <= rs.length
 | [] => by simp [Z1q]
 | r :: rs => by
  have := Z7v all rs
  have e : Z1q (r :: rs) all = (if Z1e (Z1l r all) then [Z2k (Z1l r all)] else []) ++ Z1q rs all := rfl
  rw [e, lA, jF]
  split <;> simp <;> omega
theorem Y5y {S T : Nat -> Prop} {cs : List Value} {t : Tb} {u : Value} {all : Bx} (w : World) (hl : rTb.rel w S cs t) (hm : rBx.rel w T [u] all) (h6 : t.rules.length <= 6) :
  Calls Tryz.prog 123 #[.agg cs.toArray, u] w fun e w' => ∃ z S', e = .returned z /\ (rSl rBx).rel w' S' [z] (Z1q t.rules all) /\ Below w.heap.size w w' := by
 obtain ⟨vi, vr, rfl, hnm, hp, hi, hr⟩ := hl
 obtain ⟨A, c, rfl, hi1, hi2, hi3, hE⟩ := rSl.elems hi
 obtain ⟨B, d, rfl, hr1, hr2, hr3, hF⟩ := rSl.elems hr
 obtain ⟨C, g, rfl, _⟩ := rSl.elems hm
 have HALL := hI (show rBx.rel w (fun b => T b /\ b < w.heap.size) _ _ from rBx.mono hm fun b h h' => ⟨h, h'⟩)
 obtain ⟨W0, e0, hb0, c4, hs0⟩ : ∃ W0, w.alloc (.cells #[.string ⟨t.name.toArray⟩, .int .i64 t.pol, .bool t.comp, .slice A t.ins.length c, .slice B t.rules.length d] 66) = W0 /\ Below w.heap.size w W0 /\
   W0.cell? ⟨w.heap.size, 4, none⟩ = some (.slice B t.rules.length d) /\ w.heap.size < W0.heap.size :=
  ⟨_, rfl, (jA _ _).alloc (nR _) _, cN _ _ _ _, by simp⟩
 clear hi hr hE hi3 hr3 hm
 go_enter Tryz.func123, Tryz.ntmps123
 go_wp2
 clear e0 c4
 go_loopw [5, 13] (fun o i wr => ∃ (k : Nat) (out : List Bx), k <= t.rules.length /\ i = .int .i64 k /\ Own rBx 163 wr w.heap.size (fun b => T b /\ b < w.heap.size) o out /\ Hid (out = Z1q (t.rules.take k) all) /\ Hid (out.length <= k) /\ Below w.heap.size w wr) (fun _ i _ => t.rules.length - (intOf i).toNat)
 case atStart => exact ⟨0, [], jI _, rfl, Own.nil _ _ _ _ _, hI (by simp [Z1q]), hI (by simp), hb0⟩
 case round =>
  clear hb0
  obtain ⟨k, out, hk, rfl, hown, HO, HOL, hb⟩ := hrel
  by_cases hlt : k < t.rules.length
  ·obtain ⟨bA, off, r, q, rfl, _, hbA, hx, hri, hq, g1, g2⟩ := hF.rl hlt
   rw [<- hb.ce _ hbA] at g1 g2
   have hik : (k : Int) < (t.rules.length : Int) := by omega
   have HT := hI (Y1b (all := all) hx)
   obtain ⟨A2, l2, rfl, _⟩ := rSl.elems hq
   have HQ := hI hq
   obtain ⟨W1, e1, hown1, hb1, d0, d1⟩ : ∃ W1, wr.alloc (.cells #[.slice A2 r.cells.length l2, .int .i64 r.out] 69) = W1 /\ Own rBx 163 W1 w.heap.size (fun b => T b /\ b < w.heap.size) u5 out /\ Below w.heap.size w W1 /\
     W1.cell? ⟨wr.heap.size, 0, none⟩ = some (.slice A2 r.cells.length l2) /\ W1.cell? ⟨wr.heap.size, 1, none⟩ = some (.int .i64 r.out) :=
    ⟨_, rfl, hown.alloc _, hb.alloc hb.size _, cN _ _ _ _, cN _ _ _ _⟩
   clear hown hq hx
   have HQ1 := hI (jJ HQ.out hb1)
   have HALL1 := hI (jJ HALL.out hb1)
   have HLT := hI hown1.lt
   generalize har : Z1l r all = ar at *
   have HAR := hI har
   clear har
   cases ar with
   | none =>
    have HT' : Hid (Z1q (t.rules.take (k + 1)) all = out) := hI (by rw [HT.out, HO.out]; simp [Z1e])
    go_wp2_with (go_at_call 119; (with_reducible refine (Z7q W1 HQ1.out HALL1.out HAR.out).mono ?_); rintro e w4 ⟨z9, rfl, hb4⟩)
    go_roundw
    case rel => exact ⟨k + 1, out, by omega, by go_num, hown1.below hb4, hI HT'.out.symm, hI (by have := HOL.out; omega), hb1.trans (hb4.mono hb1.size)⟩
    case measure => simp [intOf]; omega
   | some a =>
    have HT' : Hid (Z1q (t.rules.take (k + 1)) all = out ++ [a]) := hI (by rw [HT.out, HO.out]; rfl)
    have HUP : Hid (∀ w4, Below W1.heap.size W1 w4 -> ∀ b, Up (fun b => T b /\ b < w.heap.size) W1.heap.size b -> Up (fun b => T b /\ b < w.heap.size) w.heap.size b /\ u5.ownBlock ≠ some b) := hI (by
     rintro w4 h4 b (h | h)
     ·exact ⟨.inl h, fun e => by have := HLT.out _ e; have := h.2; omega⟩
     ·exact ⟨.inr (nT hb1.size h), fun e => by have := HLT.out _ e; omega⟩)
    have HBY : Hid ((out.length + 1) * rBx.bytes <= 140737488355328) := hI (by have := HOL.out; show (_ + _) * 24 <= _; omega)
    go_wp2_with (first | (go_at_call 119; (with_reducible refine (Z22 W1 HQ1.out HALL1.out HAR.out).mono ?_); rintro e w4 ⟨z9, rfl, how4, hb4⟩; obtain ⟨A9, l9, rfl⟩ := how4.value; have hbx := hb1.trans (hb4.mono hb1.size)) | (at_builtin; refine Z0a (R := rBx) (x := a) Y1s rfl (.tmp 24) (.tmp 26) rfl rfl (hown1.below hb4) [.slice A9 a.length l9] rfl rfl (Up (fun b => T b /\ b < w.heap.size) W1.heap.size) (how4.rel (by decide)) (fun b h _ => HUP.out w4 hb4 b h) HBY.out hbx.size ?_; intro v9 w9 hown9 hb9 _ _))
    go_roundw
    case rel => exact ⟨k + 1, out ++ [a], by omega, by go_num, hown9, hI HT'.out.symm, hI (by have := HOL.out; rw [lA]; simp only [jF, jG]; omega), hbx.trans hb9⟩
    case measure => simp [intOf]; omega
  ·have HQ : Hid (Z1q t.rules all = out) := hI (by rw [HO.out, List.take_of_length_le (by omega)])
   obtain ⟨A9, l9, rfl⟩ := hown.value
   go_wp2
   go_ret
   exact ⟨_, _, rfl, by rw [HQ.out]; exact hown.rel (by decide), hb⟩
theorem Z35 {S : Nat -> Prop} {cs : List Value} {t : Tb} {r : Bool} (w : World) (hl : rTb.rel w S cs t) (h : Z0r t = r) :
  Calls Tryz.prog 79 #[.agg cs.toArray] w fun e w' => e = .returned (.bool r) /\ Below w.heap.size w w' := h ▸ Z5x w hl
def gapB (t : Tb) (all : Bx) : List Bx := if Z0r t && Z00 all (t.ins.length : Int) && !decide (t.pol = 7) then Y0t all (Z1q t.rules all) else []
theorem Y7t {S T : Nat -> Prop} {cs : List Value} {t : Tb} {u : Value} {all : Bx} {L : List Bx} (w : World) (hl : rTb.rel w S cs t) (hm : rBx.rel w T [u] all) (h6 : t.rules.length <= 6) (h : Z1q t.rules all = L) :
  Calls Tryz.prog 123 #[.agg cs.toArray, u] w fun e w' => ∃ z S', e = .returned z /\ (rSl rBx).rel w' S' [z] L /\ Below w.heap.size w w' := h ▸ Y5y w hl hm h6
theorem Y9o {S T : Nat -> Prop} {cs : List Value} {t : Tb} {u : Value} {all : Bx} (w : World) (hl : rTb.rel w S cs t) (hm : rBx.rel w T [u] all) :
  Calls Tryz.prog 98 #[.agg cs.toArray, u] w fun e w' => ∃ z S', e = .returned (.tuple #[z, .bool (decide (0 < (gapB t all).length))]) /\ (rSl rInt).rel w' (New w S') [z] (Z10 (gapB t all)) /\ Below w.heap.size w w' := by
 have hl' := hl
 obtain ⟨vi, vr, rfl, hnm, hp, hi, hr⟩ := hl
 obtain ⟨A, c, rfl, _⟩ := rSl.elems hi
 obtain ⟨B, d, rfl, _⟩ := rSl.elems hr
 obtain ⟨C, g, rfl, _⟩ := rSl.elems hm
 obtain ⟨W0, e0, hb0, c0, c1, c2, c3, c4, hs0, HT, HA⟩ : ∃ W0, w.alloc (.cells #[.string ⟨t.name.toArray⟩, .int .i64 t.pol, .bool t.comp, .slice A t.ins.length c, .slice B t.rules.length d] 66) = W0 /\ Below w.heap.size w W0 /\
   W0.cell? ⟨w.heap.size, 0, none⟩ = some (.string ⟨t.name.toArray⟩) /\ W0.cell? ⟨w.heap.size, 1, none⟩ = some (.int .i64 t.pol) /\ W0.cell? ⟨w.heap.size, 2, none⟩ = some (.bool t.comp) /\ W0.cell? ⟨w.heap.size, 3, none⟩ = some (.slice A t.ins.length c) /\ W0.cell? ⟨w.heap.size, 4, none⟩ = some (.slice B t.rules.length d) /\ w.heap.size < W0.heap.size /\
   Hid (rTb.rel W0 S [.string ⟨t.name.toArray⟩, .int .i64 t.pol, .bool t.comp, .slice A t.ins.length c, .slice B t.rules.length d] t) /\ Hid (rBx.rel W0 T [.slice C all.length g] all) :=
  ⟨_, rfl, (jA _ _).alloc (nR _) _, cN _ _ _ _, cN _ _ _ _, cN _ _ _ _, cN _ _ _ _, cN _ _ _ _, by simp, hI (Rd.alloc hl' _), hI (Rd.alloc hm _)⟩
 have HBW := hI hb0
 have HSZ := hI hs0
 clear hl' hi hr hm hb0 hs0 hnm hp
 cases hgt : Z0r t
 ·have qg := hI hgt
  have HF : Hid (gapB t all = []) := hI (by unfold gapB; rw [hgt]; rfl)
  clear hgt
  go_enter Tryz.func98, Tryz.ntmps98
  go_wp2_with (go_at_call 79; (with_reducible refine (Z35 _ HT.out qg.out).mono ?_); rintro e w1 ⟨rfl, hb1⟩; replace c0 := (hb1.ce 0 HSZ.out).trans c0; replace c1 := (hb1.ce 1 HSZ.out).trans c1; replace c2 := (hb1.ce 2 HSZ.out).trans c2; replace c3 := (hb1.ce 3 HSZ.out).trans c3; replace c4 := (hb1.ce 4 HSZ.out).trans c4; (try replace HT := hI (jJ HT.out hb1)); (try replace HA := hI (jJ HA.out hb1)); (try replace HL := hI (jJ HL.out hb1)); (try replace HG := hI (jJ HG.out hb1)); (try replace HP := hI (jJ HP.out hb1)); replace HBW := hI (HBW.out.trans (hb1.mono HBW.out.size)); replace HSZ := hI (nL HSZ.out hb1.size); clear hb1)
  go_ret2
  exact ⟨_, fun _ => True, by rw [HF.out]; rfl, by rw [HF.out]; exact Z01 _ _, HBW.out⟩
 have qg := hI hgt
 have hr6 := (Z06 hgt).2.2.2.2.2
 cases hgb : Z00 all (t.ins.length : Int)
 ·have qb := hI hgb
  have HF : Hid (gapB t all = []) := hI (by unfold gapB; rw [hgb, jB]; rfl)
  clear hgt hgb
  go_enter Tryz.func98, Tryz.ntmps98
  go_wp2_with (first | (go_at_call 79; (with_reducible refine (Z35 _ HT.out qg.out).mono ?_); rintro e w1 ⟨rfl, hb1⟩; replace c0 := (hb1.ce 0 HSZ.out).trans c0; replace c1 := (hb1.ce 1 HSZ.out).trans c1; replace c2 := (hb1.ce 2 HSZ.out).trans c2; replace c3 := (hb1.ce 3 HSZ.out).trans c3; replace c4 := (hb1.ce 4 HSZ.out).trans c4; (try replace HT := hI (jJ HT.out hb1)); (try replace HA := hI (jJ HA.out hb1)); (try replace HL := hI (jJ HL.out hb1)); (try replace HG := hI (jJ HG.out hb1)); (try replace HP := hI (jJ HP.out hb1)); replace HBW := hI (HBW.out.trans (hb1.mono HBW.out.size)); replace HSZ := hI (nL HSZ.out hb1.size); clear hb1) | (go_at_call 118; (with_reducible refine (Z4n _ HA.out qb.out).mono ?_); rintro e w1 ⟨rfl, hb1⟩; replace c0 := (hb1.ce 0 HSZ.out).trans c0; replace c1 := (hb1.ce 1 HSZ.out).trans c1; replace c2 := (hb1.ce 2 HSZ.out).trans c2; replace c3 := (hb1.ce 3 HSZ.out).trans c3; replace c4 := (hb1.ce 4 HSZ.out).trans c4; (try replace HT := hI (jJ HT.out hb1)); (try replace HA := hI (jJ HA.out hb1)); (try replace HL := hI (jJ HL.out hb1)); (try replace HG := hI (jJ HG.out hb1)); (try replace HP := hI (jJ HP.out hb1)); replace HBW := hI (HBW.out.trans (hb1.mono HBW.out.size)); replace HSZ := hI (nL HSZ.out hb1.size); clear hb1))
  go_ret2
  exact ⟨_, fun _ => True, by rw [HF.out]; rfl, by rw [HF.out]; exact Z01 _ _, HBW.out⟩
 have qb := hI hgb
 by_cases hp7 : t.pol = 7
 ·have HF : Hid (gapB t all = []) := hI (by unfold gapB; rw [decide_eq_true hp7, Bool.not_true, jB]; rfl)
  have hq7 : (t.pol == 7) = true := by rw [beq_iff_eq]; exact hp7
  clear hgt hgb hp7
  go_enter Tryz.func98, Tryz.ntmps98
  go_wp2_with (first | (go_at_call 79; (with_reducible refine (Z35 _ HT.out qg.out).mono ?_); rintro e w1 ⟨rfl, hb1⟩; replace c0 := (hb1.ce 0 HSZ.out).trans c0; replace c1 := (hb1.ce 1 HSZ.out).trans c1; replace c2 := (hb1.ce 2 HSZ.out).trans c2; replace c3 := (hb1.ce 3 HSZ.out).trans c3; replace c4 := (hb1.ce 4 HSZ.out).trans c4; (try replace HT := hI (jJ HT.out hb1)); (try replace HA := hI (jJ HA.out hb1)); (try replace HL := hI (jJ HL.out hb1)); (try replace HG := hI (jJ HG.out hb1)); (try replace HP := hI (jJ HP.out hb1)); replace HBW := hI (HBW.out.trans (hb1.mono HBW.out.size)); replace HSZ := hI (nL HSZ.out hb1.size); clear hb1) | (go_at_call 118; (with_reducible refine (Z4n _ HA.out qb.out).mono ?_); rintro e w1 ⟨rfl, hb1⟩; replace c0 := (hb1.ce 0 HSZ.out).trans c0; replace c1 := (hb1.ce 1 HSZ.out).trans c1; replace c2 := (hb1.ce 2 HSZ.out).trans c2; replace c3 := (hb1.ce 3 HSZ.out).trans c3; replace c4 := (hb1.ce 4 HSZ.out).trans c4; (try replace HT := hI (jJ HT.out hb1)); (try replace HA := hI (jJ HA.out hb1)); (try replace HL := hI (jJ HL.out hb1)); (try replace HG := hI (jJ HG.out hb1)); (try replace HP := hI (jJ HP.out hb1)); replace HBW := hI (HBW.out.trans (hb1.mono HBW.out.size)); replace HSZ := hI (nL HSZ.out hb1.size); clear hb1))
  go_ret2
  exact ⟨_, fun _ => True, by rw [HF.out]; rfl, by rw [HF.out]; exact Z01 _ _, HBW.out⟩
 have hq7 : (t.pol == 7) = false := by rw [beq_eq_false_iff_ne]; exact hp7
 obtain ⟨L, hL⟩ : ∃ L, Z1q t.rules all = L := ⟨_, rfl⟩
 have hL6 : L.length <= 6 := by rw [<- hL]; exact nT (Z7v all t.rules) hr6
 obtain ⟨G, hG⟩ : ∃ G, Y0t all L = G := ⟨_, rfl⟩
 have HF : Hid (gapB t all = G) := hI (by unfold gapB; rw [hgt, hgb, decide_eq_false hp7, hL, hG]; rfl)
 have qL := hI hL
 have qG := hI hG
 clear hgt hgb hp7 hL hG
 go_enter Tryz.func98, Tryz.ntmps98
 go_wp2_with (first | (go_at_call 79; (with_reducible refine (Z35 _ HT.out qg.out).mono ?_); rintro e w1 ⟨rfl, hb1⟩; replace c0 := (hb1.ce 0 HSZ.out).trans c0; replace c1 := (hb1.ce 1 HSZ.out).trans c1; replace c2 := (hb1.ce 2 HSZ.out).trans c2; replace c3 := (hb1.ce 3 HSZ.out).trans c3; replace c4 := (hb1.ce 4 HSZ.out).trans c4; (try replace HT := hI (jJ HT.out hb1)); (try replace HA := hI (jJ HA.out hb1)); (try replace HL := hI (jJ HL.out hb1)); (try replace HG := hI (jJ HG.out hb1)); (try replace HP := hI (jJ HP.out hb1)); replace HBW := hI (HBW.out.trans (hb1.mono HBW.out.size)); replace HSZ := hI (nL HSZ.out hb1.size); clear hb1) | (go_at_call 118; (with_reducible refine (Z4n _ HA.out qb.out).mono ?_); rintro e w1 ⟨rfl, hb1⟩; replace c0 := (hb1.ce 0 HSZ.out).trans c0; replace c1 := (hb1.ce 1 HSZ.out).trans c1; replace c2 := (hb1.ce 2 HSZ.out).trans c2; replace c3 := (hb1.ce 3 HSZ.out).trans c3; replace c4 := (hb1.ce 4 HSZ.out).trans c4; (try replace HT := hI (jJ HT.out hb1)); (try replace HA := hI (jJ HA.out hb1)); (try replace HL := hI (jJ HL.out hb1)); (try replace HG := hI (jJ HG.out hb1)); (try replace HP := hI (jJ HP.out hb1)); replace HBW := hI (HBW.out.trans (hb1.mono HBW.out.size)); replace HSZ := hI (nL HSZ.out hb1.size); clear hb1) | (go_at_call 123; (with_reducible refine (Y7t _ HT.out HA.out hr6 qL.out).mono ?_); rintro e w1 ⟨zp, SP, rfl, hzp, hb1⟩; obtain ⟨AAHL, llHL, rfl, _⟩ := rSl.elems hzp; have HL := hI hzp; clear hzp; replace c0 := (hb1.ce 0 HSZ.out).trans c0; replace c1 := (hb1.ce 1 HSZ.out).trans c1; replace c2 := (hb1.ce 2 HSZ.out).trans c2; replace c3 := (hb1.ce 3 HSZ.out).trans c3; replace c4 := (hb1.ce 4 HSZ.out).trans c4; (try replace HT := hI (jJ HT.out hb1)); (try replace HA := hI (jJ HA.out hb1)); (try replace HG := hI (jJ HG.out hb1)); (try replace HP := hI (jJ HP.out hb1)); replace HBW := hI (HBW.out.trans (hb1.mono HBW.out.size)); replace HSZ := hI (nL HSZ.out hb1.size); clear hb1) | (go_at_call 122; (with_reducible refine (Y9t _ HA.out HL.out hL6 qG.out).mono ?_); rintro e w1 ⟨zp, SP, rfl, hzp, hb1⟩; obtain ⟨AAHG, llHG, rfl, _⟩ := rSl.elems hzp; have HG := hI hzp; clear hzp; replace c0 := (hb1.ce 0 HSZ.out).trans c0; replace c1 := (hb1.ce 1 HSZ.out).trans c1; replace c2 := (hb1.ce 2 HSZ.out).trans c2; replace c3 := (hb1.ce 3 HSZ.out).trans c3; replace c4 := (hb1.ce 4 HSZ.out).trans c4; (try replace HT := hI (jJ HT.out hb1)); (try replace HA := hI (jJ HA.out hb1)); (try replace HL := hI (jJ HL.out hb1)); (try replace HP := hI (jJ HP.out hb1)); replace HBW := hI (HBW.out.trans (hb1.mono HBW.out.size)); replace HSZ := hI (nL HSZ.out hb1.size); clear hb1) | (go_at_call 121; (with_reducible refine (Y13 _ HG.out).mono ?_); rintro e w1 ⟨zp, SP, rfl, hzp, hb1⟩; replace hzp := Y3y hzp HBW.out.size; obtain ⟨AAHP, llHP, rfl, _⟩ := rSl.elems hzp; have HP := hI hzp; clear hzp; replace c0 := (hb1.ce 0 HSZ.out).trans c0; replace c1 := (hb1.ce 1 HSZ.out).trans c1; replace c2 := (hb1.ce 2 HSZ.out).trans c2; replace c3 := (hb1.ce 3 HSZ.out).trans c3; replace c4 := (hb1.ce 4 HSZ.out).trans c4; (try replace HT := hI (jJ HT.out hb1)); (try replace HA := hI (jJ HA.out hb1)); (try replace HL := hI (jJ HL.out hb1)); (try replace HG := hI (jJ HG.out hb1)); replace HBW := hI (HBW.out.trans (hb1.mono HBW.out.size)); replace HSZ := hI (nL HSZ.out hb1.size); clear hb1))
 go_ret2
 exact ⟨_, _, by rw [HF.out]; rfl, by rw [HF.out]; exact HP.out, HBW.out⟩
end Go.Proofs.YtlopccnehgolnacGreatDoor
namespace Go.Proofs.YtlopccnehgolnacGreatDoor
open Go.RowKit Rb
section
variable {t : Tb} {all : Bx} (hg : Z0r t = true) (hb : Z00 all (t.ins.length : Int) = true)
include hg hb
end
end Go.Proofs.YtlopccnehgolnacGreatDoor
