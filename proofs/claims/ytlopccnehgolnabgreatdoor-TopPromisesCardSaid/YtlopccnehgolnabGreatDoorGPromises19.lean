import Derived.Test.YtlopccnehgolnabGreatDoorGPromises11
import Derived.Handy
namespace Go.Proofs.YtlopccnehgolnabGreatDoor
open Go.RowKit Rb
open Go.Lib renaming hid -> hI
open Go.World renaming cell?_alloc_new -> cN, cell?_setCell_other -> cO, cell?_setCell_same -> cS, cell?_alloc_lt -> cL, block_lt_of_cell? -> jW, frozen?_of_block -> jX, frozen?_setCell -> jY, setCell -> jZ
open Nat renaming le_refl -> nR, le_of_lt -> jS, zero_le -> jT
open Go.RowKit.Below renaming refl -> jA
open Bool renaming not_eq_true' -> jB
open List renaming any_eq_false -> jC, drop_eq_nil_of_le -> jD, findIdx?_eq_none_iff -> jE, getElem?_eq_getElem -> jF, getElem?_eq_some_iff -> jG, getElem_of_mem -> jH, length_append -> jI, length_cons -> jJ, length_nil -> jK, mem_erase_of_ne -> jL, mem_map -> jM, mem_of_find?_eq_some -> jN, mem_take_iff_getElem -> jO, nodup_cons -> jP, pairwise_iff_getElem -> jQ, take_append_of_le_length -> jR
open Rd renaming alloc -> jU, below -> jV
set_option maxRecDepth 100000
set_option maxHeartbeats 800000
def Z0v (pol : Int) (i : Nat) (r : Int × Int) (o : Int) : Int × Int :=
 if pol = 6 then (if o < 0 then (r.1 + max o (-1000000), r.2) else (r.1, r.2 + min o 1000000))
 else if i = 0 then (o, o) else (min r.1 o, max r.2 o)
def Z1c (pol : Int) : Nat -> List Rl -> Int × Int -> Int × Int
 | _, [], r => r
 | i, x :: l, r => Z1c pol (i + 1) l (Z0v pol i r x.out)
def Z3p (t : Tb) : Int × Int := if t.pol = 7 then (0, t.rules.length) else Z1c t.pol 0 t.rules (0, 0)
theorem Y9l {pol : Int} {rs : List Rl} {k : Nat} {x : Rl} {r : Int × Int} (h : rs[k]? = some x) : Z1c pol k (rs.drop k) r = Z1c pol (k + 1) (rs.drop (k + 1)) (Z0v pol k r x.out) := by
 rw [Z0p h]; rfl
theorem X0b {S : Nat -> Prop} {cs : List Value} {t : Tb} (w : World) (hl : rTb.rel w S cs t) (hr6 : t.rules.length <= 6) (hout : ∀ r ∈ t.rules, -1000000 <= r.out /\ r.out <= 1000000) :
  Calls Tryz.prog 159 #[.agg cs.toArray] w fun e w' => e = .returned (.agg #[.int .i64 (Z3p t).1, .int .i64 (Z3p t).2]) /\ Below w.heap.size w w' := by
 have HOUT := hI hout
 obtain ⟨vi, vr, rfl, hnm, hp, hi, hr⟩ := hl
 obtain ⟨A, c, rfl, _⟩ := rSl.elems hi
 obtain ⟨B, d, rfl, hr1, hr2, hr3, hF⟩ := rSl.elems hr
 obtain ⟨W0, e0, hb0, c1, c4, hs0⟩ : ∃ W0, w.alloc (.cells #[.string ⟨t.name.toArray⟩, .int .i64 t.pol, .bool t.comp, .slice A t.ins.length c, .slice B t.rules.length d] 42) = W0 /\ Below w.heap.size w W0 /\
   W0.cell? ⟨w.heap.size, 1, none⟩ = some (.int .i64 t.pol) /\ W0.cell? ⟨w.heap.size, 4, none⟩ = some (.slice B t.rules.length d) /\ w.heap.size < W0.heap.size :=
  ⟨_, rfl, (jA _ _).alloc (nR _) _, cN _ _ _ _, cN _ _ _ _, by simp⟩
 obtain ⟨W1, e1, hb1, k1, k4, f0, f1, z0, z1, hs1⟩ : ∃ W1, W0.alloc (.cells #[.int .i64 0, .int .i64 0] 123) = W1 /\ Below W0.heap.size W0 W1 /\ W1.cell? ⟨w.heap.size, 1, none⟩ = some (.int .i64 t.pol) /\ W1.cell? ⟨w.heap.size, 4, none⟩ = some (.slice B t.rules.length d) /\
   W1.cell? ⟨W0.heap.size, 0, none⟩ = some (.int .i64 0) /\ W1.cell? ⟨W0.heap.size, 1, none⟩ = some (.int .i64 0) /\ W1.frozen? ⟨W0.heap.size, 0, none⟩ = false /\ W1.frozen? ⟨W0.heap.size, 1, none⟩ = false /\ W1.heap.size = W0.heap.size + 1 :=
  ⟨_, rfl, (jA _ _).alloc (nR _) _, (cL _ _ _ hs0).trans c1, (cL _ _ _ hs0).trans c4, cN _ _ _ _, cN _ _ _ _, by simp, by simp, by simp⟩
 clear hi hr hr3 hnm hp hout
 by_cases h7 : t.pol = 7
 ·have hq7 : (t.pol == 7) = true := by rw [beq_iff_eq]; exact h7
  have HS : Hid (Z3p t = (0, (t.rules.length : Int))) := hI (by unfold Z3p; rw [if_pos h7])
  clear h7
  obtain ⟨W2, e2, hb2, g0, g1⟩ : ∃ W2, (W1.setCell ⟨W0.heap.size, 0, none⟩ (.int .i64 0)).setCell ⟨W0.heap.size, 1, none⟩ (.int .i64 t.rules.length) = W2 /\ Below W0.heap.size W0 W2 /\ W2.cell? ⟨W0.heap.size, 0, none⟩ = some (.int .i64 0) /\ W2.cell? ⟨W0.heap.size, 1, none⟩ = some (.int .i64 t.rules.length) :=
   ⟨_, rfl, (hb1.setCell (nR _) _).setCell (nR _) _, (cO _ _ _ _ (by simp)).trans (cS _ _ _ f0), cS _ _ _ ((cO _ _ _ _ (by simp)).trans f1)⟩
  go_enter Tryz.func159, Tryz.ntmps159
  go_wp2
  refine bodyPost_ret (by simp [results, Tryz.results159, go_sem, g0, g1]; rfl) rfl ?_
  exact ⟨by rw [HS.out], hb0.trans (hb2.mono hb0.size)⟩
 have hq7 : (t.pol == 7) = false := by rw [beq_eq_false_iff_ne]; exact h7
 have HS0 : Hid (Z3p t = Z1c t.pol 0 (t.rules.drop 0) (0, 0)) := hI (by unfold Z3p; rw [if_neg h7]; rfl)
 clear h7
 obtain ⟨W2, e2, hb2, m1, m4, g0, g1, y0, y1, hs2⟩ : ∃ W2, W1.alloc (.cells #[.int .i64 0, .int .i64 0] 123) = W2 /\ Below W1.heap.size W1 W2 /\ W2.cell? ⟨w.heap.size, 1, none⟩ = some (.int .i64 t.pol) /\ W2.cell? ⟨w.heap.size, 4, none⟩ = some (.slice B t.rules.length d) /\
   W2.cell? ⟨W1.heap.size, 0, none⟩ = some (.int .i64 0) /\ W2.cell? ⟨W1.heap.size, 1, none⟩ = some (.int .i64 0) /\ W2.frozen? ⟨W1.heap.size, 0, none⟩ = false /\ W2.frozen? ⟨W1.heap.size, 1, none⟩ = false /\ W1.heap.size < W2.heap.size :=
  ⟨_, rfl, (jA _ _).alloc (nR _) _, (cL _ _ _ (by show w.heap.size < _; omega)).trans k1, (cL _ _ _ (by show w.heap.size < _; omega)).trans k4, cN _ _ _ _, cN _ _ _ _, by simp, by simp, by simp⟩
 have hw1 : w.heap.size < W1.heap.size := by omega
 have hq2 : W0.heap.size < W1.heap.size := by omega
 clear hs1
 go_enter Tryz.func159, Tryz.ntmps159
 go_wp2
 clear e0 e1 e2 m1 m4
 have hbw1 := hb0.trans (hb1.mono hb0.size)
 generalize hq3 : W1.heap.size = q3 at *
 clear hq3
 go_loopw [16] (fun i wr => ∃ (k : Nat) (r0 r1 : Int), k <= t.rules.length /\ i = .int .i64 k /\ wr.cell? ⟨q3, 0, none⟩ = some (.int .i64 r0) /\ wr.cell? ⟨q3, 1, none⟩ = some (.int .i64 r1) /\ wr.frozen? ⟨q3, 0, none⟩ = false /\ wr.frozen? ⟨q3, 1, none⟩ = false /\ q3 < wr.heap.size /\
   Hid (Z3p t = Z1c t.pol k (t.rules.drop k) (r0, r1)) /\ (-(1000000 * (k : Int)) <= r0 /\ r0 <= 1000000 * (k : Int)) /\ (-(1000000 * (k : Int)) <= r1 /\ r1 <= 1000000 * (k : Int)) /\ Hid (Below q3 W1 wr)) (fun i _ => t.rules.length - (intOf i).toNat)
 case atStart => exact ⟨0, 0, 0, jT _, rfl, g0, g1, y0, y1, hs2, HS0, by omega, by omega, hI hb2⟩
 case round =>
  clear g0 g1 y0 y1 hs2 HS0 hb2
  obtain ⟨k, r0, r1, hk, rfl, d0, d1, z2, z3, hs2, HI, hr0, hr1, HB⟩ := hrel
  have n1 := (HB.out.ce 1 hw1).trans k1
  have hbwr := hbw1.trans (HB.out.mono (jS hw1))
  by_cases hlt : k < t.rules.length
  ·obtain ⟨bA, off, x, q, rfl, _, hbA, hx, hri, hq, h1, h2⟩ := hF.rl hlt
   rw [<- hbwr.ce _ hbA] at h1 h2
   have hik : (k : Int) < (t.rules.length : Int) := by omega
   have HT := hI (HI.out.trans (Y9l hx))
   have hxo := HOUT.out x (List.mem_of_getElem? hx)
   obtain ⟨A2, l2, rfl, _⟩ := rSl.elems hq
   obtain ⟨W3, e3, HB3, c30, c31, d30, d31, p0, p1, n31, hs3⟩ : ∃ W3, wr.alloc (.cells #[.slice A2 x.cells.length l2, .int .i64 x.out] 93) = W3 /\ Hid (Below q3 W1 W3) /\ W3.cell? ⟨wr.heap.size, 0, none⟩ = some (.slice A2 x.cells.length l2) /\ W3.cell? ⟨wr.heap.size, 1, none⟩ = some (.int .i64 x.out) /\
     W3.cell? ⟨q3, 0, none⟩ = some (.int .i64 r0) /\ W3.cell? ⟨q3, 1, none⟩ = some (.int .i64 r1) /\ W3.frozen? ⟨q3, 0, none⟩ = false /\ W3.frozen? ⟨q3, 1, none⟩ = false /\ W3.cell? ⟨w.heap.size, 1, none⟩ = some (.int .i64 t.pol) /\ q3 < W3.heap.size :=
    ⟨_, rfl, hI (HB.out.alloc (by omega) _), cN _ _ _ _, cN _ _ _ _, (cL _ _ _ hs2).trans d0, (cL _ _ _ hs2).trans d1, (jX (w := wr) (Below.heap_alloc wr _ _ hs2)).trans z2, (jX (w := wr) (Below.heap_alloc wr _ _ hs2)).trans z3, (cL _ _ _ (by show w.heap.size < _; omega)).trans n1, by simp; omega⟩
   clear hx hq d0 d1 z2 z3 n1 HB hbwr
   have hne : q3 ≠ wr.heap.size := by omega
   have HWS : Hid (∀ (o : Nat) (v : Value), Below q3 W1 (W3.setCell ⟨q3, o, none⟩ v)) := hI fun o v => HB3.out.setCell (nR _) _
   have HWS2 : Hid (∀ (o o' : Nat) (v v' : Value), Below q3 W1 ((W3.setCell ⟨q3, o, none⟩ v).setCell ⟨q3, o', none⟩ v')) := hI fun o o' v v' => (HWS.out o v).setCell (nR _) _
   have hk6 : (k : Int) <= 6 := by omega
   by_cases h6 : t.pol = 6
   ·have hq6 : (t.pol == 6) = true := by rw [beq_iff_eq]; exact h6
    have HST : Hid (Z0v t.pol k (r0, r1) x.out = if x.out < 0 then (r0 + max x.out (-1000000), r1) else (r0, r1 + min x.out 1000000)) := hI (by unfold Z0v; rw [if_pos h6])
    clear h6
    by_cases hx0 : x.out < 0
    ·have HN : Hid (Z3p t = Z1c t.pol (k + 1) (t.rules.drop (k + 1)) (r0 + max x.out (-1000000), r1)) := hI (by rw [HT.out, HST.out, if_pos hx0])
     have hmm : max x.out (-1000000) = x.out := by omega
     have hwr : IntKind.i64.wrap (r0 + x.out) = r0 + x.out := IntWalk.i64_in _ (by omega)
     rw [hmm] at HN
     clear hmm
     obtain ⟨W4, e4, HB4, g0, g1, y0, y1, hs4⟩ : ∃ W4, W3.setCell ⟨q3, 0, none⟩ (.int .i64 (r0 + x.out)) = W4 /\ Hid (Below q3 W1 W4) /\ W4.cell? ⟨q3, 0, none⟩ = some (.int .i64 (r0 + x.out)) /\ W4.cell? ⟨q3, 1, none⟩ = some (.int .i64 r1) /\ W4.frozen? ⟨q3, 0, none⟩ = false /\ W4.frozen? ⟨q3, 1, none⟩ = false /\ q3 < W4.heap.size :=
      ⟨_, rfl, hI (HWS.out _ _), cS _ _ _ d30, (cO _ _ _ _ (by simp)).trans d31, (jY _ _ _ _).trans p0, (jY _ _ _ _).trans p1, by simpa [jZ] using hs3⟩
     go_wp2
     go_roundw
     case rel => exact ⟨k + 1, r0 + x.out, r1, by omega, by go_num, g0, g1, y0, y1, hs4, HN, by omega, by omega, HB4⟩
     case measure => simp [intOf]; omega
    ·have HN : Hid (Z3p t = Z1c t.pol (k + 1) (t.rules.drop (k + 1)) (r0, r1 + min x.out 1000000)) := hI (by rw [HT.out, HST.out, if_neg hx0])
     have hmm : min x.out 1000000 = x.out := by omega
     have hwr : IntKind.i64.wrap (r1 + x.out) = r1 + x.out := IntWalk.i64_in _ (by omega)
     rw [hmm] at HN
     clear hmm
     obtain ⟨W4, e4, HB4, g0, g1, y0, y1, hs4⟩ : ∃ W4, W3.setCell ⟨q3, 1, none⟩ (.int .i64 (r1 + x.out)) = W4 /\ Hid (Below q3 W1 W4) /\ W4.cell? ⟨q3, 0, none⟩ = some (.int .i64 r0) /\ W4.cell? ⟨q3, 1, none⟩ = some (.int .i64 (r1 + x.out)) /\ W4.frozen? ⟨q3, 0, none⟩ = false /\ W4.frozen? ⟨q3, 1, none⟩ = false /\ q3 < W4.heap.size :=
      ⟨_, rfl, hI (HWS.out _ _), (cO _ _ _ _ (by simp)).trans d30, cS _ _ _ d31, (jY _ _ _ _).trans p0, (jY _ _ _ _).trans p1, by simpa [jZ] using hs3⟩
     go_wp2
     go_roundw
     case rel => exact ⟨k + 1, r0, r1 + x.out, by omega, by go_num, g0, g1, y0, y1, hs4, HN, by omega, by omega, HB4⟩
     case measure => simp [intOf]; omega
   ·have hq6 : (t.pol == 6) = false := by rw [beq_eq_false_iff_ne]; exact h6
    have HST : Hid (Z0v t.pol k (r0, r1) x.out = if k = 0 then (x.out, x.out) else (min r0 x.out, max r1 x.out)) := hI (by unfold Z0v; rw [if_neg h6])
    clear h6
    rcases Nat.eq_zero_or_pos k with hk0 | hk0
    ·have HN : Hid (Z3p t = Z1c t.pol (k + 1) (t.rules.drop (k + 1)) (x.out, x.out)) := hI (by rw [HT.out, HST.out, if_pos hk0])
     have hqk : ((k : Int) == 0) = true := by rw [beq_iff_eq]; omega
     have hb01 : -(1000000 * ((k + 1 : Nat) : Int)) <= x.out /\ x.out <= 1000000 * ((k + 1 : Nat) : Int) := by omega
     clear hk0
     obtain ⟨W4, e4, HB4, g0, g1, y0, y1, hs4⟩ : ∃ W4, (W3.setCell ⟨q3, 0, none⟩ (.int .i64 x.out)).setCell ⟨q3, 1, none⟩ (.int .i64 x.out) = W4 /\ Hid (Below q3 W1 W4) /\ W4.cell? ⟨q3, 0, none⟩ = some (.int .i64 x.out) /\ W4.cell? ⟨q3, 1, none⟩ = some (.int .i64 x.out) /\ W4.frozen? ⟨q3, 0, none⟩ = false /\ W4.frozen? ⟨q3, 1, none⟩ = false /\ q3 < W4.heap.size :=
      ⟨_, rfl, hI (HWS2.out _ _ _ _), (cO _ _ _ _ (by simp)).trans (cS _ _ _ d30), cS _ _ _ ((cO _ _ _ _ (by simp)).trans d31), (jY _ _ _ _).trans ((jY _ _ _ _).trans p0), (jY _ _ _ _).trans ((jY _ _ _ _).trans p1), by simpa [jZ] using hs3⟩
     go_wp2
     go_roundw
     case rel => exact ⟨k + 1, x.out, x.out, by omega, by go_num, g0, g1, y0, y1, hs4, HN, hb01, hb01, HB4⟩
     case measure => simp [intOf]; omega
    ·have HN : Hid (Z3p t = Z1c t.pol (k + 1) (t.rules.drop (k + 1)) (min r0 x.out, max r1 x.out)) := hI (by rw [HT.out, HST.out, if_neg (by omega)])
     have hqk : ((k : Int) == 0) = false := by rw [beq_eq_false_iff_ne]; omega
     have hmm : min r0 x.out = (if x.out < r0 then x.out else r0) := by split <;> omega
     have hmx : max r1 x.out = (if r1 < x.out then x.out else r1) := by split <;> omega
     have hmb : -(1000000 * ((k + 1 : Nat) : Int)) <= (if x.out < r0 then x.out else r0) /\ (if x.out < r0 then x.out else r0) <= 1000000 * ((k + 1 : Nat) : Int) := by split <;> omega
     have hmb2 : -(1000000 * ((k + 1 : Nat) : Int)) <= (if r1 < x.out then x.out else r1) /\ (if r1 < x.out then x.out else r1) <= 1000000 * ((k + 1 : Nat) : Int) := by split <;> omega
     rw [hmm, hmx] at HN
     clear hk0 hmm hmx
     obtain ⟨W4, e4, HB4, g0, g1, y0, y1, hs4⟩ : ∃ W4, (W3.setCell ⟨q3, 0, none⟩ (.int .i64 (if x.out < r0 then x.out else r0))).setCell ⟨q3, 1, none⟩ (.int .i64 (if r1 < x.out then x.out else r1)) = W4 /\ Hid (Below q3 W1 W4) /\ W4.cell? ⟨q3, 0, none⟩ = some (.int .i64 (if x.out < r0 then x.out else r0)) /\ W4.cell? ⟨q3, 1, none⟩ = some (.int .i64 (if r1 < x.out then x.out else r1)) /\ W4.frozen? ⟨q3, 0, none⟩ = false /\ W4.frozen? ⟨q3, 1, none⟩ = false /\ q3 < W4.heap.size :=
      ⟨_, rfl, hI (HWS2.out _ _ _ _), (cO _ _ _ _ (by simp)).trans (cS _ _ _ d30), cS _ _ _ ((cO _ _ _ _ (by simp)).trans d31), (jY _ _ _ _).trans ((jY _ _ _ _).trans p0), (jY _ _ _ _).trans ((jY _ _ _ _).trans p1), by simpa [jZ] using hs3⟩
     go_wp2
     go_roundw
     case rel => exact ⟨k + 1, _, _, by omega, by go_num, g0, g1, y0, y1, hs4, HN, hmb, hmb2, HB4⟩
     case measure => simp [intOf]; omega
  ·have HQ : Hid (Z3p t = (r0, r1)) := hI (by rw [HI.out, jD (by omega)]; rfl)
   have b0 := (HB.out.ce 0 hq2).trans f0
   have b1 := (HB.out.ce 1 hq2).trans f1
   have y0 : wr.frozen? ⟨W0.heap.size, 0, none⟩ = false := (HB.out.fr 0 hq2).trans z0
   have y1 : wr.frozen? ⟨W0.heap.size, 1, none⟩ = false := (HB.out.fr 1 hq2).trans z1
   obtain ⟨W4, e4, hb4, g0, g1⟩ : ∃ W4, (wr.setCell ⟨W0.heap.size, 0, none⟩ (.int .i64 r0)).setCell ⟨W0.heap.size, 1, none⟩ (.int .i64 r1) = W4 /\ Below w.heap.size w W4 /\ W4.cell? ⟨W0.heap.size, 0, none⟩ = some (.int .i64 r0) /\ W4.cell? ⟨W0.heap.size, 1, none⟩ = some (.int .i64 r1) :=
    ⟨_, rfl, (hbwr.setCell hb0.size _).setCell hb0.size _, (cO _ _ _ _ (by simp)).trans (cS _ _ _ b0), cS _ _ _ ((cO _ _ _ _ (by simp)).trans b1)⟩
   go_wp2
   refine bodyPost_ret (by simp [results, Tryz.results159, go_sem, g0, g1]; rfl) rfl ?_
   exact ⟨by rw [HQ.out], hb4⟩
def SmallT (t : Tb) : Prop := t.rules.length <= 6 /\ ∀ r ∈ t.rules, -1000000 <= r.out /\ r.out <= 1000000
def SmallB (b : Bk) : Prop := ∀ t ∈ b.tabs, SmallT t
theorem SmallT.tb0 : SmallT tb0 := ⟨by decide, fun r h => by cases h⟩
theorem SmallB.found {b : Bk} (h : SmallB b) (s : Txt) : SmallT (tbOf (findT b.tabs s)) := by
 cases hf : findT b.tabs s with
 | none => exact SmallT.tb0
 | some t => exact h t (jN hf)
def allR (b : Bk) (s : Txt) : Int × Int := if (findD b.doms s).isSome then ((dmOf (findD b.doms s)).lo, (dmOf (findD b.doms s)).hi) else Z3p (tbOf (findT b.tabs s))
def Y4a (b : Bk) (s : Txt) : Bool := (findD b.doms s).isSome || (findT b.tabs s).isSome
theorem X13 {w : World} {q : Nat} {u0 u1 : Value} (v0 v1 : Value) (h0 : w.cell? ⟨q, 0, none⟩ = some u0) (h1 : w.cell? ⟨q, 1, none⟩ = some u1) :
  ∃ W, (w.setCell ⟨q, 0, none⟩ v0).setCell ⟨q, 1, none⟩ v1 = W /\ (∀ B, B <= q -> ∀ w0, Below B w0 w -> Below B w0 W) /\ W.cell? ⟨q, 0, none⟩ = some v0 /\ W.cell? ⟨q, 1, none⟩ = some v1 :=
 ⟨_, rfl, fun _ hB _ hb => (hb.setCell hB _).setCell hB _, (cO _ _ _ _ (by simp)).trans (cS _ _ _ h0), cS _ _ _ ((cO _ _ _ _ (by simp)).trans h1)⟩
theorem Z06 {S : Nat -> Prop} {cs : List Value} {b : Bk} {s : Txt} {d : Dm} {f : Bool} (w : World) (hl : rBk.rel w S cs b) (hs : s.length <= 140737488355328) (hd : dmOf (findD b.doms s) = d) (hf : (findD b.doms s).isSome = f) :
  Calls Tryz.prog 69 #[.agg cs.toArray, .string ⟨s.toArray⟩] w fun e w' => e = .returned (.tuple #[.agg #[.string ⟨d.name.toArray⟩, .int .i64 d.lo, .int .i64 d.hi], .bool f]) /\ Below w.heap.size w w' := hd ▸ hf ▸ Z95 s w hl hs
theorem Z23 {S : Nat -> Prop} {cs : List Value} {b : Bk} {s : Txt} {t : Tb} {f : Bool} (w : World) (hl : rBk.rel w S cs b) (hs : s.length <= 140737488355328) (ht : tbOf (findT b.tabs s) = t) (hf : (findT b.tabs s).isSome = f) :
  Calls Tryz.prog 40 #[.agg cs.toArray, .string ⟨s.toArray⟩] w fun e w' => ∃ A c B d S', e = .returned (.tuple #[.agg #[.string ⟨t.name.toArray⟩, .int .i64 t.pol, .bool t.comp, .slice A t.ins.length c, .slice B t.rules.length d], .bool f]) /\
   rTb.rel w' S' [.string ⟨t.name.toArray⟩, .int .i64 t.pol, .bool t.comp, .slice A t.ins.length c, .slice B t.rules.length d] t /\ Below w.heap.size w w' := by
 subst ht; subst hf
 refine (Y1g s w hl hs).mono ?_
 rintro e w' ⟨cs', S', h1, h2, h3⟩
 have h2' := h2
 obtain ⟨v, u, rfl, _, _, g1, g2⟩ := h2
 obtain ⟨A, c, rfl, _⟩ := rSl.elems g1
 obtain ⟨B, d, rfl, _⟩ := rSl.elems g2
 exact ⟨A, c, B, d, S', h1, h2', h3⟩
theorem X0a {S : Nat -> Prop} {cs : List Value} {t : Tb} {lo hi : Int} (w : World) (hl : rTb.rel w S cs t) (hs : SmallT t) (h : Z3p t = (lo, hi)) :
  Calls Tryz.prog 159 #[.agg cs.toArray] w fun e w' => e = .returned (.agg #[.int .i64 lo, .int .i64 hi]) /\ Below w.heap.size w w' := by
 have := X0b w hl hs.1 hs.2
 rwa [h] at this
theorem X17 {S : Nat -> Prop} {cs : List Value} {b : Bk} (s : Txt) (w : World) (hl : rBk.rel w S cs b) (hs : s.length <= 140737488355328) (hb : SmallB b) :
  Calls Tryz.prog 128 #[.agg cs.toArray, .string ⟨s.toArray⟩] w fun e w' => e = .returned (.tuple #[.agg #[.int .i64 (allR b s).1, .int .i64 (allR b s).2], .bool (Y4a b s)]) /\ Below w.heap.size w w' := by
 have hl' := hl
 obtain ⟨v, u, rfl, hd, ht⟩ := hl
 obtain ⟨A, c, rfl, _⟩ := rSl.elems hd
 obtain ⟨B, d, rfl, _⟩ := rSl.elems ht
 obtain ⟨W1, e1, HB1, k0, k1, f0, f1, z0, z1, hs1, HS1⟩ : ∃ W1, (w.alloc (.cells #[.slice A b.doms.length c, .slice B b.tabs.length d] 33)).alloc (.cells #[.int .i64 0, .int .i64 0] 123) = W1 /\ Hid (Below w.heap.size w W1) /\
   W1.cell? ⟨w.heap.size, 0, none⟩ = some (.slice A b.doms.length c) /\ W1.cell? ⟨w.heap.size, 1, none⟩ = some (.slice B b.tabs.length d) /\ W1.cell? ⟨w.heap.size + 1, 0, none⟩ = some (.int .i64 0) /\ W1.cell? ⟨w.heap.size + 1, 1, none⟩ = some (.int .i64 0) /\
   W1.frozen? ⟨w.heap.size + 1, 0, none⟩ = false /\ W1.frozen? ⟨w.heap.size + 1, 1, none⟩ = false /\ w.heap.size + 1 < W1.heap.size /\ Hid (w.heap.size < W1.heap.size) := by
  have e : (w.alloc (.cells #[.slice A b.doms.length c, .slice B b.tabs.length d] 33)).heap.size = w.heap.size + 1 := by simp
  refine ⟨_, rfl, hI (bA.alloc (by simp) _), (cL _ _ _ (by simp)).trans (cN _ _ _ _), (cL _ _ _ (by simp)).trans (cN _ _ _ _), ?_, ?_, ?_, ?_, by simp, hI (by simp; omega)⟩ <;> rw [<- e] <;> first | exact cN _ _ _ _ | simp
 obtain ⟨dm, hdm⟩ : ∃ x, dmOf (findD b.doms s) = x := ⟨_, rfl⟩
 obtain ⟨fd, hfd⟩ : ∃ x, (findD b.doms s).isSome = x := ⟨_, rfl⟩
 obtain ⟨tb, htb⟩ : ∃ x, tbOf (findT b.tabs s) = x := ⟨_, rfl⟩
 obtain ⟨ft, hft⟩ : ∃ x, (findT b.tabs s).isSome = x := ⟨_, rfl⟩
 obtain ⟨⟨lo, hi⟩, hsp⟩ : ∃ x, Z3p tb = x := ⟨_, rfl⟩
 have HR : Hid (allR b s = if fd then (dm.lo, dm.hi) else (lo, hi)) := hI (by unfold allR; rw [hdm, hfd, htb, hsp])
 have HO : Hid (Y4a b s = (fd || ft)) := hI (by unfold Y4a; rw [hfd, hft])
 have hsm := hI (show SmallT tb from htb ▸ hb.found s)
 have q1 := hI hdm
 have q2 := hI hfd
 have q3 := hI htb
 have q4 := hI hft
 have q5 := hI hsp
 have HK := hI (jV hl' HB1.out)
 clear hl' hd ht hb hdm hfd htb hft hsp
 cases fd
 ·go_enter Tryz.func128, Tryz.ntmps128
  go_wp2_with (first | (go_at_call 69; (with_reducible refine (Z06 W1 HK.out hs q1.out q2.out).mono ?_); rintro e w2 ⟨rfl, hb2⟩; obtain ⟨W3, e3, HB3⟩ : ∃ W3, w2.alloc (.cells #[.string ⟨dm.name.toArray⟩, .int .i64 dm.lo, .int .i64 dm.hi] 44) = W3 /\ Hid (Below W1.heap.size W1 W3) := ⟨_, rfl, hI (hb2.alloc hb2.size _)⟩; have j1 := ac1 e3; have j2 := ac2 e3; have g0 := (HB3.out.ce 0 HS1.out).trans k0; have g1 := (HB3.out.ce 1 HS1.out).trans k1; have HK3 := hI (jV HK.out HB3.out)) | (go_at_call 40; (with_reducible refine (Z23 W3 HK3.out hs q3.out q4.out).mono ?_); rintro e w4 ⟨A5, c5, B5, d5, S5, rfl, hr5, hb4⟩; obtain ⟨W5, e5, HB5, HR5⟩ : ∃ W5, w4.alloc (.cells #[.string ⟨tb.name.toArray⟩, .int .i64 tb.pol, .bool tb.comp, .slice A5 tb.ins.length c5, .slice B5 tb.rules.length d5] 42) = W5 /\ Hid (Below W1.heap.size W1 W5) /\ Hid (rTb.rel W5 S5 [.string ⟨tb.name.toArray⟩, .int .i64 tb.pol, .bool tb.comp, .slice A5 tb.ins.length c5, .slice B5 tb.rules.length d5] tb) := ⟨_, rfl, hI ((HB3.out.trans (hb4.mono HB3.out.size)).alloc (Nat.le_trans HB3.out.size hb4.size) _), hI (jU hr5 _)⟩; have j50 := ac0 e5; have j51 := ac1 e5; have j52 := ac2 e5; have j53 := ac3 e5; have j54 := ac4 e5; clear hr5) | (go_at_call 159; (with_reducible refine (X0a W5 HR5.out hsm.out q5.out).mono ?_); rintro e w6 ⟨rfl, hb6⟩; have HB6 := hI (HB5.out.trans (hb6.mono HB5.out.size)); have p0 := (HB6.out.ce 0 hs1).trans f0; have p1 := (HB6.out.ce 1 hs1).trans f1; have y0 : w6.frozen? ⟨w.heap.size + 1, 0, none⟩ = false := (HB6.out.fr 0 hs1).trans z0; have y1 : w6.frozen? ⟨w.heap.size + 1, 1, none⟩ = false := (HB6.out.fr 1 hs1).trans z1; obtain ⟨W4, e4, hB4, n0, n1⟩ := X13 (.int .i64 lo) (.int .i64 hi) p0 p1; have HB4 := hI (hB4 w.heap.size (Nat.le_succ _) w (HB1.out.trans (HB6.out.mono HB1.out.size))); clear hB4))
  refine bodyPost_ret (by simp [results, Tryz.results128, go_sem, n0, n1]; rfl) rfl ?_
  exact ⟨by rw [HR.out, HO.out]; rfl, HB4.out⟩
 ·go_enter Tryz.func128, Tryz.ntmps128
  go_wp2_with (go_at_call 69; (with_reducible refine (Z06 W1 HK.out hs q1.out q2.out).mono ?_); rintro e w2 ⟨rfl, hb2⟩; obtain ⟨W3, e3, HB3⟩ : ∃ W3, w2.alloc (.cells #[.string ⟨dm.name.toArray⟩, .int .i64 dm.lo, .int .i64 dm.hi] 44) = W3 /\ Hid (Below W1.heap.size W1 W3) := ⟨_, rfl, hI (hb2.alloc hb2.size _)⟩; have j1 := ac1 e3; have j2 := ac2 e3; have p0 := (HB3.out.ce 0 hs1).trans f0; have p1 := (HB3.out.ce 1 hs1).trans f1; have y0 : W3.frozen? ⟨w.heap.size + 1, 0, none⟩ = false := (HB3.out.fr 0 hs1).trans z0; have y1 : W3.frozen? ⟨w.heap.size + 1, 1, none⟩ = false := (HB3.out.fr 1 hs1).trans z1; obtain ⟨W4, e4, hB4, n0, n1⟩ := X13 (.int .i64 dm.lo) (.int .i64 dm.hi) p0 p1; have HB4 := hI (hB4 w.heap.size (Nat.le_succ _) w (HB1.out.trans (HB3.out.mono HB1.out.size))); clear hB4)
  refine bodyPost_ret (by simp [results, Tryz.results128, go_sem, n0, n1]; rfl) rfl ?_
  exact ⟨by rw [HR.out, HO.out]; rfl, HB4.out⟩
def Z7o (b : Bk) (placed : List Txt) (s : Txt) : Bool := (findT b.tabs s).isSome && !placed.contains s
def Y3g (b : Bk) (t : Tb) (placed : List Txt) : Bool := !t.ins.any (Z7o b placed)
def idxP {α : Type} (p : α -> Bool) (l : List α) : Int := match l.findIdx? p with | some i => i | none => -1
theorem X0u {α : Type} {p : α -> Bool} {l : List α} {k : Nat} {x : α} (hk : l[k]? = some x) (h0 : (l.take k).any p = false) (h : p x = true) : idxP p l = k := by
 obtain ⟨hlt, rfl⟩ := jG.1 hk
 have hf : l.findIdx? p = some k := by
  rw [List.findIdx?_eq_some_iff_getElem]
  refine ⟨hlt, h, fun j hj => ?_⟩
  have hj' : l[j]'(by omega) ∈ l.take k := by
   rw [jO]
   exact ⟨j, by omega, rfl⟩
  have := jC.1 h0 _ hj'
  simpa using this
 unfold idxP; rw [hf]
theorem Y3l {α : Type} {p : α -> Bool} {l : List α} (h : l.any p = false) : idxP p l = -1 := by
 have hf : l.findIdx? p = none := by
  rw [jE]
  intro x hx
  have := jC.1 h x hx
  simpa using this
 unfold idxP; rw [hf]
theorem Y6l {α : Type} (p : α -> Bool) (l : List α) : decide (0 <= idxP p l) = l.any p := by
 cases hh : l.any p
 ·rw [Y3l hh]; rfl
 ·unfold idxP
  cases hq : l.findIdx? p with
  | some i => simp
  | none =>
   rw [jE] at hq
   rw [List.any_eq_true] at hh
   obtain ⟨x, hx, hm⟩ := hh
   rw [hq x hx] at hm; cases hm
theorem X0c {α : Type} {p : α -> Bool} {l : List α} {k : Nat} {x : α} (h : l[k]? = some x) : (l.take (k + 1)).any p = ((l.take k).any p || p x) := by
 rw [Z0b h, List.any_append]; simp
structure Held (w : World) (S T : Nat -> Prop) (pb pp : Nat) (b : Bk) (placed : List Txt) (A B P : Option Addr) (c d e : Nat) : Prop where
 c0 : w.cell? ⟨pb, 0, none⟩ = some (.slice A b.doms.length c)
 c1 : w.cell? ⟨pb, 1, none⟩ = some (.slice B b.tabs.length d)
 c2 : w.cell? ⟨pp, 0, none⟩ = some (.slice P placed.length e)
 rb : rBk.rel w S [.slice A b.doms.length c, .slice B b.tabs.length d] b
 rp : (rSl rStr).rel w T [.slice P placed.length e] placed
theorem Held.below {w w' : World} {S T : Nat -> Prop} {pb pp : Nat} {b : Bk} {placed : List Txt} {A B P : Option Addr} {c d e : Nat} (h : Held w S T pb pp b placed A B P c d e) (hb : Below w.heap.size w w') : Held w' S T pb pp b placed A B P c d e where
 c0 := (hb.ce 0 (jW _ _ h.c0)).trans h.c0
 c1 := (hb.ce 1 (jW _ _ h.c1)).trans h.c1
 c2 := (hb.ce 0 (jW _ _ h.c2)).trans h.c2
 rb := jV h.rb hb
 rp := jV h.rp hb
theorem Z5r {S : Nat -> Prop} {v : Value} {l : List Txt} {s : Txt} {r : Bool} (w : World) (hl : (rSl rStr).rel w S [v] l) (h : l.contains s = r) :
  Calls Tryz.prog 75 #[v, .string ⟨s.toArray⟩] w fun e w' => e = .returned (.bool r) /\ w = w' := h ▸ Z22 s w hl
theorem Y55 {w : World} {S T : Nat -> Prop} {pb pp : Nat} {b : Bk} {placed : List Txt} {A B P : Option Addr} {c d e : Nat} (H : Held w S T pb pp b placed A B P c d e) (s : Txt) (hs : s.length <= 140737488355328) :
  Calls Tryz.prog 132 #[.string ⟨s.toArray⟩, .pointer (some ⟨pb, 0, none⟩), .pointer (some ⟨pp, 0, none⟩)] w fun e w' => e = .returned (.bool (Z7o b placed s)) /\ Below w.heap.size w w' := by
 have c0 := H.c0
 have c1 := H.c1
 have HH := hI H
 obtain ⟨tb, htb⟩ : ∃ x, tbOf (findT b.tabs s) = x := ⟨_, rfl⟩
 obtain ⟨ft, hft⟩ : ∃ x, (findT b.tabs s).isSome = x := ⟨_, rfl⟩
 obtain ⟨fc, hfc⟩ : ∃ x, placed.contains s = x := ⟨_, rfl⟩
 have HR : Hid (Z7o b placed s = (ft && !fc)) := hI (by unfold Z7o; rw [hft, hfc])
 have q3 := hI htb
 have q4 := hI hft
 have q5 := hI hfc
 clear htb hft hfc H
 cases ft
 all_goals
  go_enter Tryz.func132, Tryz.ntmps132
  go_wp2_with (first | (go_at_call 40; (with_reducible refine (Z23 w HH.out.rb hs q3.out q4.out).mono ?_); rintro e w4 ⟨A5, c5, B5, d5, S5, rfl, hr5, hb4⟩; obtain ⟨W5, e5, HH5, c2, HB5⟩ : ∃ W5, w4.alloc (.cells #[.string ⟨tb.name.toArray⟩, .int .i64 tb.pol, .bool tb.comp, .slice A5 tb.ins.length c5, .slice B5 tb.rules.length d5] 42) = W5 /\ Hid (Held W5 S T pb pp b placed A B P c d e) /\ W5.cell? ⟨pp, 0, none⟩ = some (.slice P placed.length e) /\ Hid (Below w.heap.size w W5) := ⟨_, rfl, hI (HH.out.below (hb4.alloc hb4.size _)), (HH.out.below (hb4.alloc hb4.size _)).c2, hI (hb4.alloc hb4.size _)⟩; clear hr5) | (go_at_call 75; (with_reducible refine (Z5r W5 HH5.out.rp q5.out).mono ?_); rintro e w6 ⟨rfl, rfl⟩))
  go_ret
  exact ⟨by rw [HR.out]; rfl, HB5.out⟩
theorem Y48 {w : World} {S T : Nat -> Prop} {pb pp : Nat} {b : Bk} {placed : List Txt} {A B P : Option Addr} {c d e : Nat} {s : Txt} {r : Bool} (H : Held w S T pb pp b placed A B P c d e) (hs : s.length <= 140737488355328) (h : Z7o b placed s = r) :
  Calls Tryz.prog 132 #[.string ⟨s.toArray⟩, .pointer (some ⟨pb, 0, none⟩), .pointer (some ⟨pp, 0, none⟩)] w fun e w' => e = .returned (.bool r) /\ Below w.heap.size w w' := h ▸ Y55 H s hs
theorem Y1h {w : World} {S T U : Nat -> Prop} {pb pp : Nat} {b : Bk} {placed ins : List Txt} {A B P : Option Addr} {c d e : Nat} {v : Value} (H : Held w S T pb pp b placed A B P c d e) (hl : (rSl rStr).rel w U [v] ins) :
  Calls Tryz.prog 160 #[v, .func (.func 132) #[] #[.pointer (some ⟨pb, 0, none⟩), .pointer (some ⟨pp, 0, none⟩)]] w fun e w' => e = .returned (.int .i64 (idxP (Z7o b placed) ins)) /\ Below w.heap.size w w' := by
 have hal := rSl.lenle hl (by decide)
 obtain ⟨C, g, rfl, _, _, _, hE⟩ := rSl.elems hl
 have HH := hI H
 clear hl H
 go_enter Tryz.func160, Tryz.ntmps160
 go_wp2
 go_loopw [5, 8] (fun _ i wr => ∃ k : Nat, k <= ins.length /\ i = .int .i64 k /\ Hid ((ins.take k).any (Z7o b placed) = false) /\ Below w.heap.size w wr) (fun _ i _ => ins.length - (intOf i).toNat)
 case atStart => exact ⟨0, jT _, rfl, hI (by simp), jA _ _⟩
 case round =>
  obtain ⟨k, hk, rfl, HS, hbl⟩ := hrel
  by_cases hlt : k < ins.length
  ·obtain ⟨q, off, x, rfl, _, hq, hx, hxl, h1⟩ := hE.str hlt
   rw [<- hbl.ce _ hq] at h1
   have HX := hI hx
   have HW := hI (HH.out.below hbl)
   have hi : (k : Int) < (ins.length : Int) := by omega
   clear hx hE
   cases hh : Z7o b placed x
   ·have HC := hI hh
    have HS' : Hid ((ins.take (k + 1)).any (Z7o b placed) = false) := hI (by rw [X0c HX.out, HS.out, hh]; rfl)
    clear hh
    go_wp2_with (go_at_call 132; (with_reducible refine (Y48 HW.out hxl HC.out).mono ?_); rintro e w' ⟨rfl, hw⟩)
    go_roundw
    case rel => exact ⟨k + 1, by omega, by go_num, HS', hbl.trans (hw.mono hbl.size)⟩
    case measure => simp [intOf]; omega
   ·have HC := hI hh
    have HF : Hid (idxP (Z7o b placed) ins = k) := hI (X0u HX.out HS.out hh)
    clear hh
    go_wp2_with (go_at_call 132; (with_reducible refine (Y48 HW.out hxl HC.out).mono ?_); rintro e w' ⟨rfl, hw⟩)
    go_ret
    exact ⟨Z7v HF.out.symm, hbl.trans (hw.mono hbl.size)⟩
  ·go_wp2
   go_ret
   exact ⟨Z7v (Y3l (by have := HS.out; rwa [List.take_of_length_le (by omega)] at this)).symm, hbl⟩
theorem Z8e {w : World} {S T U : Nat -> Prop} {pb pp : Nat} {b : Bk} {placed ins : List Txt} {A B P : Option Addr} {c d e : Nat} {v : Value} (H : Held w S T pb pp b placed A B P c d e) (hl : (rSl rStr).rel w U [v] ins) :
  Calls Tryz.prog 131 #[v, .func (.func 132) #[] #[.pointer (some ⟨pb, 0, none⟩), .pointer (some ⟨pp, 0, none⟩)]] w fun e w' => e = .returned (.bool (ins.any (Z7o b placed))) /\ Below w.heap.size w w' := by
 have HI := hI (Y1h H hl)
 have HD := hI (Y6l (Z7o b placed) ins)
 clear hl H
 go_enter Tryz.func131, Tryz.ntmps131
 go_wp2_with (go_at_call 160; refine HI.out.mono ?_; rintro e w' ⟨rfl, hw⟩)
 go_ret
 exact ⟨Z0m HD.out, hw⟩
theorem X0p {S T U : Nat -> Prop} {bs cs : List Value} {b : Bk} {t : Tb} {v : Value} {placed : List Txt} (w : World) (hb : rBk.rel w S bs b) (ht : rTb.rel w T cs t) (hp : (rSl rStr).rel w U [v] placed) :
  Calls Tryz.prog 76 #[.agg bs.toArray, .agg cs.toArray, v] w fun e w' => e = .returned (.bool (Y3g b t placed)) /\ Below w.heap.size w w' := by
 have hb' := hb
 obtain ⟨v0, u0, rfl, hd, htb⟩ := hb
 obtain ⟨A, c, rfl, _⟩ := rSl.elems hd
 obtain ⟨B, d, rfl, _⟩ := rSl.elems htb
 obtain ⟨vi, vr, rfl, _, _, hi, hr⟩ := ht
 obtain ⟨I, ic, rfl, _⟩ := rSl.elems hi
 obtain ⟨R, rc, rfl, _⟩ := rSl.elems hr
 obtain ⟨P, e, rfl, _⟩ := rSl.elems hp
 obtain ⟨W, eW, HB, k3, HH, HI⟩ : ∃ W, ((w.alloc (.cells #[.slice A b.doms.length c, .slice B b.tabs.length d] 33)).alloc (.cells #[.string ⟨t.name.toArray⟩, .int .i64 t.pol, .bool t.comp, .slice I t.ins.length ic, .slice R t.rules.length rc] 42)).alloc (.cells #[.slice P placed.length e] 39) = W /\ Hid (Below w.heap.size w W) /\
   W.cell? ⟨w.heap.size + 1, 3, none⟩ = some (.slice I t.ins.length ic) /\ Hid (Held W S U w.heap.size (w.heap.size + 1 + 1) b placed A B P c d e) /\ Hid ((rSl rStr).rel W T [.slice I t.ins.length ic] t.ins) := by
  have s1 : (w.alloc (.cells #[.slice A b.doms.length c, .slice B b.tabs.length d] 33)).heap.size = w.heap.size + 1 := by simp
  have s2 : ((w.alloc (.cells #[.slice A b.doms.length c, .slice B b.tabs.length d] 33)).alloc (.cells #[.string ⟨t.name.toArray⟩, .int .i64 t.pol, .bool t.comp, .slice I t.ins.length ic, .slice R t.rules.length rc] 42)).heap.size = w.heap.size + 1 + 1 := by simp
  refine ⟨_, rfl, hI ((bA.alloc (by simp) _).alloc (by simp; omega) _), ?_, hI ⟨?_, ?_, ?_, jU (jU (jU hb' _) _) _, jU (jU (jU hp _) _) _⟩, hI (jU (jU (jU hi _) _) _)⟩
  ·rw [cL _ _ _ (by rw [s2]; show w.heap.size + 1 < _; omega), <- s1]; exact cN _ _ _ _
  ·rw [cL _ _ _ (by rw [s2]; show w.heap.size < _; omega), cL _ _ _ (by rw [s1]; show w.heap.size < _; omega)]; exact cN _ _ _ _
  ·rw [cL _ _ _ (by rw [s2]; show w.heap.size < _; omega), cL _ _ _ (by rw [s1]; show w.heap.size < _; omega)]; exact cN _ _ _ _
  ·rw [<- s2]; exact cN _ _ _ _
 have HC := hI (Z8e HH.out HI.out)
 clear hb' hd htb hi hr hp
 go_enter Tryz.func76, Tryz.ntmps76
 go_wp2_with (go_at_call 131; (with_reducible refine HC.out.mono ?_); rintro e w' ⟨rfl, hw⟩)
 go_ret
 exact ⟨rfl, HB.out.trans (hw.mono HB.out.size)⟩
def Y6r (b : Bk) (out : List Txt) : Option Tb := b.tabs.find? fun t => !out.contains t.name && Y3g b t out
def Z4z (b : Bk) : Nat -> List Txt -> Option (List Txt)
 | 0, out => some out
 | n + 1, out => match Y6r b out with | some t => Z4z b n (out ++ [t.name]) | none => none
def Z2j (b : Bk) : Option (List Txt) := Z4z b b.tabs.length []
def lenV (v : Value) : Nat := match v with | .slice _ n _ => n | _ => 0
theorem X3y : ElemOf Tryz.prog rStr 39 9 := .mk' Tryz.underlying39 (z := .string ⟨#[]⟩) (k := 1) (b := 16) (by kernel_rfl) rfl rfl rfl (by decide) (by decide)
theorem Y8n {S T U : Nat -> Prop} {bs cs : List Value} {b : Bk} {t : Tb} {v : Value} {placed : List Txt} {r : Bool} (w : World) (hb : rBk.rel w S bs b) (ht : rTb.rel w T cs t) (hp : (rSl rStr).rel w U [v] placed) (h : Y3g b t placed = r) :
  Calls Tryz.prog 76 #[.agg bs.toArray, .agg cs.toArray, v] w fun e w' => e = .returned (.bool r) /\ Below w.heap.size w w' := h ▸ X0p w hb ht hp
theorem Y7q {S : Nat -> Prop} {bs : List Value} {b : Bk} (w : World) (hl : rBk.rel w S bs b) :
  Calls Tryz.prog 34 #[.agg bs.toArray] w fun e w' => ∃ z, e = .returned (.tuple #[z, .bool (Z2j b).isSome]) /\ (rSl rStr).rel w' (Up (fun _ => False) w.heap.size) [z] ((Z2j b).getD []) /\ Below w.heap.size w w' := by
 have hl' := hl
 obtain ⟨v0, u0, rfl, hd, htb⟩ := hl
 obtain ⟨A, c, rfl, _⟩ := rSl.elems hd
 obtain ⟨B, d, rfl, _, _, hbt, hF⟩ := rSl.elems htb
 have hlt5 : b.tabs.length <= 1759218604441 := by simp only [rTb] at hbt; omega
 obtain ⟨W0, e0, hb0, hs0, HBK⟩ : ∃ W0, w.alloc (.cells #[.slice A b.doms.length c, .slice B b.tabs.length d] 33) = W0 /\ Below w.heap.size w W0 /\ w.heap.size < W0.heap.size /\ Hid (rBk.rel W0 S [.slice A b.doms.length c, .slice B b.tabs.length d] b) := ⟨_, rfl, (jA _ _).alloc (nR _) _, by simp, hI (jU hl' _)⟩; have c0 := ac0 e0; have c1 := ac1 e0
 clear hl' hd htb hbt
 go_enter Tryz.func34, Tryz.ntmps34
 go_wp2
 clear e0
 go_loopw [4] (fun o wr => ∃ (out : List Txt) (n : Nat), Own rStr 9 wr W0.heap.size (fun _ => False) o out /\ Hid (out.length + n = b.tabs.length) /\ Hid (Z2j b = Z4z b n out) /\ Below W0.heap.size W0 wr) (fun o _ => b.tabs.length - lenV o)
 case atStart => exact ⟨[], b.tabs.length, Own.nil _ _ _ _ _, hI (by simp), hI rfl, jA _ _⟩
 case round =>
  obtain ⟨out, n, hown, HN, HI, hb⟩ := hrel
  obtain ⟨Ao, co, rfl⟩ := hown.value
  have k1 := (hb.ce 1 hs0).trans c1
  have hol : out.length <= b.tabs.length := by have := HN.out; omega
  by_cases hlt : out.length < b.tabs.length
  ·have hil : (out.length : Int) < (b.tabs.length : Int) := by omega
   obtain ⟨m, hm⟩ : ∃ m, n = m + 1 := ⟨n - 1, by have := HN.out; omega⟩
   subst hm
   go_wp2
   obtain ⟨wq, hwq⟩ : ∃ x, x = wr := ⟨_, rfl⟩
   subst hwq
   go_loopw [4, 19] (fun o i wi => ∃ k : Nat, k <= b.tabs.length /\ i = .int .i64 k /\ o = .slice Ao out.length co /\ Hid (Y6r b out = (b.tabs.drop k).find? fun t => !out.contains t.name && Y3g b t out) /\ Hid (Below wq.heap.size wq wi)) (fun _ i _ => b.tabs.length - (intOf i).toNat)
   case atStart => exact ⟨0, jT _, rfl, rfl, hI rfl, hI (jA _ _)⟩
   case round =>
    clear k1
    obtain ⟨k, hk, rfl, rfl, HK, HB⟩ := hrel
    have HBW := hI (hb.trans (HB.out.mono hb.size))
    by_cases hltk : k < b.tabs.length
    ·obtain ⟨bB, off, x, A1, c1', A2, c2', rfl, hbB, hx, hr, g0, g1, g2, g3, g4⟩ := hF.tb hltk
     have hbw := hb0.trans (HBW.out.mono (jS hs0))
     rw [<- hbw.ce _ hbB] at g0 g1 g2 g3 g4
     have hik : (k : Int) < (b.tabs.length : Int) := by omega
     have HAT := hI (Y1z (p := fun t : Tb => !out.contains t.name && Y3g b t out) hx)
     have hxl : x.name.length <= 140737488355328 := by obtain ⟨_, _, _, h, _⟩ := hr; exact h
     obtain ⟨W3, e3, HB3, j0, j1, j2, j3, j4, q0, q1, HR3, HO3, hw3s⟩ : ∃ W3, wr.alloc (.cells #[.string ⟨x.name.toArray⟩, .int .i64 x.pol, .bool x.comp, .slice A1 x.ins.length c1', .slice A2 x.rules.length c2'] 42) = W3 /\ Hid (Below W0.heap.size W0 W3) /\ W3.cell? ⟨wr.heap.size, 0, none⟩ = some (.string ⟨x.name.toArray⟩) /\ W3.cell? ⟨wr.heap.size, 1, none⟩ = some (.int .i64 x.pol) /\ W3.cell? ⟨wr.heap.size, 2, none⟩ = some (.bool x.comp) /\ W3.cell? ⟨wr.heap.size, 3, none⟩ = some (.slice A1 x.ins.length c1') /\ W3.cell? ⟨wr.heap.size, 4, none⟩ = some (.slice A2 x.rules.length c2') /\
       W3.cell? ⟨w.heap.size, 0, none⟩ = some (.slice A b.doms.length c) /\ W3.cell? ⟨w.heap.size, 1, none⟩ = some (.slice (some ⟨bB, off, none⟩) b.tabs.length d) /\ Hid (rTb.rel W3 S [.string ⟨x.name.toArray⟩, .int .i64 x.pol, .bool x.comp, .slice A1 x.ins.length c1', .slice A2 x.rules.length c2'] x) /\ Hid (Own rStr 9 W3 W0.heap.size (fun _ => False) (.slice Ao out.length co) out) /\ wr.heap.size < W3.heap.size :=
      ⟨_, rfl, hI (HBW.out.alloc HBW.out.size _), cN _ _ _ _, cN _ _ _ _, cN _ _ _ _, cN _ _ _ _, cN _ _ _ _,
       ((HBW.out.alloc HBW.out.size _).ce 0 hs0).trans c0, ((HBW.out.alloc HBW.out.size _).ce 1 hs0).trans c1, hI (jV hr (hbw.alloc hbw.size _)), hI ((hown.below HB.out).alloc _), by simp⟩
     have HBK3 := hI (jV HBK.out HB3.out)
     clear hx hr
     obtain ⟨fc, hfc⟩ : ∃ r, out.contains x.name = r := ⟨_, rfl⟩
     obtain ⟨ff, hff⟩ : ∃ r, Y3g b x out = r := ⟨_, rfl⟩
     have HST : Hid (Y6r b out = if !fc && ff then some x else (b.tabs.drop (k + 1)).find? fun t => !out.contains t.name && Y3g b t out) := hI (by rw [HK.out, HAT.out, <- hfc, <- hff])
     have qc := hI hfc
     have qf := hI hff
     clear hfc hff hbw
     have HBQ : Hid (Below wq.heap.size wq W3) := hI (by rw [<- e3]; exact HB.out.alloc HB.out.size _)
     have HBY : Hid ((out.length + 1) * rStr.bytes <= 140737488355328) := hI (by show (_ + 1) * 16 <= _; omega)
     cases fc
     ·cases ff
      ·have HK' := hI (HST.out.trans (if_neg (by simp)))
       go_wp2_with (first | (go_at_call 75; (with_reducible refine (Z5r W3 (HO3.out.rel (by decide)) qc.out).mono ?_); rintro e w6 ⟨rfl, rfl⟩) | (go_at_call 76; (with_reducible refine (Y8n W3 HBK3.out HR3.out (HO3.out.rel (by decide)) qf.out).mono ?_); rintro e w7 ⟨rfl, hb7⟩; have r0 := (hb7.ce 0 hw3s).trans j0; have HO7 := hI (HO3.out.below hb7); have HB7 := hI (HB3.out.trans (hb7.mono HB3.out.size))))
       go_roundw
       case rel => exact ⟨k + 1, by omega, by go_num, rfl, HK', hI (HBQ.out.trans (hb7.mono HBQ.out.size))⟩
       case measure => simp [intOf]; omega
      ·have HNX : Hid (Y6r b out = some x) := hI (HST.out.trans (if_pos rfl))
       have HI' : Hid (Z2j b = Z4z b m (out ++ [x.name])) := hI (by rw [HI.out, Z4z, HNX.out])
       go_wp2_with (first | (go_at_call 75; (with_reducible refine (Z5r W3 (HO3.out.rel (by decide)) qc.out).mono ?_); rintro e w6 ⟨rfl, rfl⟩) | (go_at_call 76; (with_reducible refine (Y8n W3 HBK3.out HR3.out (HO3.out.rel (by decide)) qf.out).mono ?_); rintro e w7 ⟨rfl, hb7⟩; have r0 := (hb7.ce 0 hw3s).trans j0; have HO7 := hI (HO3.out.below hb7); have HB7 := hI (HB3.out.trans (hb7.mono HB3.out.size))) | (at_builtin; refine Z0a (R := rStr) (x := x.name) X3y rfl (.tmp 34) (.tmp 37) rfl rfl HO7.out [.string ⟨x.name.toArray⟩] rfl rfl (fun _ => False) ⟨rfl, hxl⟩ (fun _ h => h.elim) HBY.out HB7.out.size ?_; intro v9 w9 hown9 hb9 _ _; have HB9 := hI (HB7.out.trans hb9); have hown8 := hown9; obtain ⟨A9, c9, rfl⟩ := hown8.value))
       go_roundw
       case rel => exact ⟨out ++ [x.name], m, by simpa using hown9, hI (by have := HN.out; rw [jI]; simp only [jJ, jK]; omega), HI', HB9.out⟩
       case measure => simp [lenV]; omega
     ·have HK' := hI (HST.out.trans (if_neg (by simp)))
      go_wp2_with (go_at_call 75; (with_reducible refine (Z5r W3 (HO3.out.rel (by decide)) qc.out).mono ?_); rintro e w6 ⟨rfl, rfl⟩)
      go_roundw
      case rel => exact ⟨k + 1, by omega, by go_num, rfl, HK', HBQ⟩
      case measure => simp [intOf]; omega
    ·have HNX : Hid (Z2j b = none) := hI (by
      rw [HI.out, Z4z, HK.out, jD (by omega)]; rfl)
     clear hF
     go_wp2
     go_ret2
     exact ⟨_, by rw [HNX.out]; rfl, by rw [HNX.out]; exact ⟨none, 0, rfl, nR _, by decide, by simp, fun i x hx => by simp at hx⟩, hb0.trans (HBW.out.mono (jS hs0))⟩
  ·have HQ : Hid (Z2j b = some out) := hI (by
    have h0 := HN.out
    obtain rfl : n = 0 := by omega
    rw [HI.out]; rfl)
   have hil : ¬ (out.length : Int) < (b.tabs.length : Int) := by omega
   clear hF
   go_wp2
   go_ret2
   have hrel := Rd.upup (hown.rel (by decide)) (jS hs0)
   have hbl := hb0.trans (hb.mono (jS hs0))
   rw [HQ.out]
   exact ⟨_, rfl, hrel, hbl⟩
structure OrdI (b : Bk) (out : List Txt) : Prop where
 nodup : out.Nodup
 each : ∀ (i : Nat) (n : Txt), out[i]? = some n -> ∃ t ∈ b.tabs, t.name = n /\ ∀ s ∈ t.ins, (findT b.tabs s).isSome = true -> s ∈ out.take i
theorem OrdI.nil (b : Bk) : OrdI b [] := ⟨List.nodup_nil, fun i n h => by simp at h⟩
theorem OrdI.step {b : Bk} {out : List Txt} {t : Tb} (I : OrdI b out) (h : Y6r b out = some t) : OrdI b (out ++ [t.name]) := by
 have hm := jN h
 have hp := List.find?_some h
 simp only [Bool.and_eq_true, jB, List.contains_eq_mem, decide_eq_false_iff_not] at hp
 obtain ⟨h1, h2⟩ := hp
 refine ⟨?_, fun i n hi => ?_⟩
 ·rw [List.nodup_append]
  refine ⟨I.nodup, by simp, fun a ha b' hb' => ?_⟩
  rw [List.mem_singleton] at hb'
  rintro rfl
  exact h1 (hb' ▸ ha)
 ·rcases Nat.lt_or_ge i out.length with hlt | hge
  ·rw [List.getElem?_append_left hlt] at hi
   obtain ⟨t', ht', hn, hs⟩ := I.each i n hi
   refine ⟨t', ht', hn, fun s hs' hsm => ?_⟩
   rw [jR (by omega)]
   exact hs s hs' hsm
  ·have hil : i < (out ++ [t.name]).length := (jG.1 hi).1
   rw [jI] at hil
   simp only [jJ, jK] at hil
   have hie : i = out.length := by omega
   subst hie
   simp at hi
   refine ⟨t, hm, hi, fun s hs hsm => ?_⟩
   rw [jR (nR _), List.take_length]
   unfold Y3g at h2
   rw [jB, jC] at h2
   have := h2 s hs
   unfold Z7o at this
   rw [hsm] at this
   simpa using this
theorem Z9n {b : Bk} : ∀ (n : Nat) {out l : List Txt}, OrdI b out -> Z4z b n out = some l -> OrdI b l /\ l.length = out.length + n
 | 0, out, l, I, h => by
  simp only [Z4z, Option.some.injEq] at h
  subst h
  exact ⟨I, rfl⟩
 | n + 1, out, l, I, h => by
  rw [Z4z] at h
  cases hn : Y6r b out with
  | none => rw [hn] at h; cases h
  | some t =>
   rw [hn] at h
   have := Z9n n (I.step hn) h
   refine ⟨this.1, ?_⟩
   rw [this.2, jI]
   simp only [jJ, jK]
   omega
theorem X11 : ∀ {l m : List Txt}, l.Nodup -> (∀ x ∈ l, x ∈ m) -> m.length <= l.length -> ∀ y ∈ m, y ∈ l
 | [], m, _, _, h, y, hy => by
  rw [jK] at h
  rw [List.eq_nil_of_length_eq_zero (show m.length = 0 by omega)] at hy
  exact hy
 | x :: l, m, hn, hs, h, y, hy => by
  rw [jP] at hn
  have hxm := hs x (by simp)
  by_cases hyx : y = x
  ·simp [hyx]
  ·have := X11 (l := l) (m := m.erase x) hn.2 (fun z hz => (jL (show z ≠ x from fun e => hn.1 (by rw [<- e]; exact hz))).2 (hs z (by simp [hz])))
    (by rw [List.length_erase_of_mem hxm]; simp only [jJ] at h; omega) y ((jL hyx).2 hy)
   simp [this]
theorem Y83 {b : Bk} {l : List Txt} (hd : ∀ t ∈ b.tabs, ∀ u ∈ b.tabs, t.name = u.name -> t = u) (h : Z2j b = some l) :
  l.Nodup /\ l.length = b.tabs.length /\ ∀ t ∈ b.tabs, ∃ i : Nat, l[i]? = some t.name /\ ∀ s ∈ t.ins, (findT b.tabs s).isSome = true -> ∃ j : Nat, j < i /\ l[j]? = some s := by
 obtain ⟨I, hl⟩ := Z9n b.tabs.length (OrdI.nil b) h
 rw [jK, Nat.zero_add] at hl
 refine ⟨I.nodup, hl, fun t ht => ?_⟩
 have hin : t.name ∈ l := by
  refine X11 (m := b.tabs.map (·.name)) I.nodup (fun x hx => ?_) (by rw [List.length_map, hl]; exact nR _) _ (jM.2 ⟨t, ht, rfl⟩)
  obtain ⟨i, hi, rfl⟩ := jH hx
  obtain ⟨t', ht', hn, _⟩ := I.each i _ (jF hi)
  exact jM.2 ⟨t', ht', hn⟩
 obtain ⟨i, hi, he⟩ := jH hin
 have hi? : l[i]? = some t.name := by rw [jF hi, he]
 obtain ⟨t', ht', hn, hs⟩ := I.each i _ hi?
 obtain rfl := hd t' ht' t ht hn
 refine ⟨i, hi?, fun s hs' hsm => ?_⟩
 have := hs s hs' hsm
 rw [jO] at this
 obtain ⟨j, hj, rfl⟩ := this
 exact ⟨j, by omega, jF (by omega)⟩
theorem Y80 {l : List Tb} (h : (l.map (·.name)).Nodup) : ∀ t ∈ l, ∀ u ∈ l, t.name = u.name -> t = u := by
 induction l with
 | nil => intro t ht; cases ht
 | cons a l ih =>
  rw [List.map_cons, jP] at h
  intro t ht u hu e
  rcases List.mem_cons.1 ht with h1 | h1 <;> rcases List.mem_cons.1 hu with h2 | h2
  ·rw [h1, h2]
  ·rw [h1] at e
   exact absurd (jM.2 ⟨u, h2, e.symm⟩) h.1
  ·rw [h2] at e
   exact absurd (jM.2 ⟨t, h1, e⟩) h.1
  ·exact ih h.2 t h1 u h2 e
theorem Y5u {l : List Txt} (h : l.Nodup) {i j : Nat} {s : Txt} (hi : l[i]? = some s) (hj : l[j]? = some s) : i = j := by
 rcases Nat.lt_trichotomy i j with hij | hij | hij
 ·obtain ⟨h1, h2⟩ := jG.1 hi
  obtain ⟨h3, h4⟩ := jG.1 hj
  exact absurd (h2.trans h4.symm) (jQ.1 h i j h1 h3 hij)
 ·exact hij
 ·obtain ⟨h1, h2⟩ := jG.1 hi
  obtain ⟨h3, h4⟩ := jG.1 hj
  exact absurd (h4.trans h2.symm) (jQ.1 h j i h3 h1 hij)
