import Derived.Test.YtlopccnehgolnacGreatDoorGK11
import Derived.Handy
namespace Go.Proofs.YtlopccnehgolnacGreatDoor
open Go.RowKit Rb
open Rd renaming alloc -> jA, below -> jB
open Go.World renaming setCell -> jC
set_option maxRecDepth 100000
set_option maxHeartbeats 800000
def Z15 (pol : Int) (i : Nat) (r : Int × Int) (o : Int) : Int × Int :=
 if pol = 6 then (if o < 0 then (r.1 + max o (-1000000), r.2) else (r.1, r.2 + min o 1000000))
 else if i = 0 then (o, o) else (min r.1 o, max r.2 o)
def Z36 (pol : Int) : Nat -> List Rl -> Int × Int -> Int × Int
 | _, [], r => r
 | i, x :: l, r => Z36 pol (i + 1) l (Z15 pol i r x.out)
def Z5h (t : Tb) : Int × Int := if t.pol = 7 then (0, t.rules.length) else Z36 t.pol 0 t.rules (0, 0)
theorem Y9x {pol : Int} {rs : List Rl} {k : Nat} {x : Rl} {r : Int × Int} (h : rs[k]? = some x) : Z36 pol k (rs.drop k) r = Z36 pol (k + 1) (rs.drop (k + 1)) (Z15 pol k r x.out) := by
 rw [Z0p h]; rfl
theorem X0q {S : Nat -> Prop} {cs : List Value} {t : Tb} (w : World) (hl : rTb.rel w S cs t) (hr6 : t.rules.length <= 6) (hout : ∀ r ∈ t.rules, -1000000 <= r.out /\ r.out <= 1000000) :
  Calls Tryz.prog 141 #[.agg cs.toArray] w fun e w' => e = .returned (.agg #[.int .i64 (Z5h t).1, .int .i64 (Z5h t).2]) /\ Bw w w' := by
 have HOUT := L0 hout
 obtain ⟨vi, vr, rfl, hnm, hp, hi, hr⟩ := hl
 obtain ⟨A, c, rfl, _⟩ := rSl.elems hi
 obtain ⟨B, d, rfl, hr1, hr2, hr3, hF⟩ := rSl.elems hr
 obtain ⟨W0, e0, hb0, c1, c4, hs0⟩ : ∃ W0, w.alloc (.cells #[sq t.name, .int .i64 t.pol, .bool t.comp, .slice A t.ins.length c, .slice B t.rules.length d] 66) = W0 /\ Bw w W0 /\
   W0.cell? (zn w.heap.size 1) = some (.int .i64 t.pol) /\ W0.cell? (zn w.heap.size 4) = some (.slice B t.rules.length d) /\ w.heap.size < W0.heap.size :=
  ⟨_, rfl, (L0m _ _).alloc (L0g _) _, L0b _ _ _ _, L0b _ _ _ _, by simp⟩
 obtain ⟨W1, e1, hb1, k1, k4, f0, f1, z0, z1, hs1⟩ : ∃ W1, W0.alloc (.cells #[.int .i64 0, .int .i64 0] 74) = W1 /\ Bw W0 W1 /\ W1.cell? (zn w.heap.size 1) = some (.int .i64 t.pol) /\ W1.cell? (zn w.heap.size 4) = some (.slice B t.rules.length d) /\
   W1.cell? (zn W0.heap.size 0) = some (.int .i64 0) /\ W1.cell? (zn W0.heap.size 1) = some (.int .i64 0) /\ W1.frozen? (zn W0.heap.size 0) = false /\ W1.frozen? (zn W0.heap.size 1) = false /\ W1.heap.size = W0.heap.size + 1 :=
  ⟨_, rfl, (L0m _ _).alloc (L0g _) _, (L0j _ _ _ hs0).trans c1, (L0j _ _ _ hs0).trans c4, L0b _ _ _ _, L0b _ _ _ _, by simp, by simp, by simp⟩
 clear hi hr hr3 hnm hp hout
 by_cases h7 : t.pol = 7
 ·have hq7 : (t.pol == 7) = true := by rw [beq_iff_eq]; exact h7
  have HS : Hid (Z5h t = (0, (t.rules.length : Int))) := L0 (by unfold Z5h; rw [if_pos h7])
  clear h7
  obtain ⟨W2, e2, hb2, g0, g1⟩ : ∃ W2, (W1.setCell (zn W0.heap.size 0) (.int .i64 0)).setCell (zn W0.heap.size 1) (.int .i64 t.rules.length) = W2 /\ Bw W0 W2 /\ W2.cell? (zn W0.heap.size 0) = some (.int .i64 0) /\ W2.cell? (zn W0.heap.size 1) = some (.int .i64 t.rules.length) :=
   ⟨_, rfl, (hb1.setCell (L0g _) _).setCell (L0g _) _, (cso).trans (L0e _ _ _ f0), L0e _ _ _ ((cso).trans f1)⟩
  go_enter Tryz.func141, Tryz.ntmps141
  go_wp2
  refine bodyPost_ret (by simp [results, Tryz.results141, go_sem, g0, g1]; rfl) rfl ?_
  exact ⟨by rw [HS.o], hb0.trans (hb2.mono hb0.size)⟩
 have hq7 : (t.pol == 7) = false := by rw [beq_eq_false_iff_ne]; exact h7
 have HS0 : Hid (Z5h t = Z36 t.pol 0 (t.rules.drop 0) (0, 0)) := L0 (by unfold Z5h; rw [if_neg h7]; rfl)
 clear h7
 obtain ⟨W2, e2, hb2, m1, m4, g0, g1, y0, y1, hs2⟩ : ∃ W2, W1.alloc (.cells #[.int .i64 0, .int .i64 0] 74) = W2 /\ Bw W1 W2 /\ W2.cell? (zn w.heap.size 1) = some (.int .i64 t.pol) /\ W2.cell? (zn w.heap.size 4) = some (.slice B t.rules.length d) /\
   W2.cell? (zn W1.heap.size 0) = some (.int .i64 0) /\ W2.cell? (zn W1.heap.size 1) = some (.int .i64 0) /\ W2.frozen? (zn W1.heap.size 0) = false /\ W2.frozen? (zn W1.heap.size 1) = false /\ W1.heap.size < W2.heap.size :=
  ⟨_, rfl, (L0m _ _).alloc (L0g _) _, (L0j _ _ _ (by show w.heap.size < _; omega)).trans k1, (L0j _ _ _ (by show w.heap.size < _; omega)).trans k4, L0b _ _ _ _, L0b _ _ _ _, by simp, by simp, by simp⟩
 have hw1 : w.heap.size < W1.heap.size := by omega
 have hq2 : W0.heap.size < W1.heap.size := by omega
 clear hs1
 go_enter Tryz.func141, Tryz.ntmps141
 go_wp2
 clear e0 e1 e2 m1 m4
 have hbw1 := hb0.trans (hb1.mono hb0.size)
 try unfold Bw at *
 generalize hq3 : W1.heap.size = q3 at *
 clear hq3
 go_loopw [16] (fun i wr => ∃ (k : Nat) (r0 r1 : Int), k <= t.rules.length /\ i = .int .i64 k /\ wr.cell? (zn q3 0) = some (.int .i64 r0) /\ wr.cell? (zn q3 1) = some (.int .i64 r1) /\ wr.frozen? (zn q3 0) = false /\ wr.frozen? (zn q3 1) = false /\ q3 < wr.heap.size /\
   Hid (Z5h t = Z36 t.pol k (t.rules.drop k) (r0, r1)) /\ (-(1000000 * (k : Int)) <= r0 /\ r0 <= 1000000 * (k : Int)) /\ (-(1000000 * (k : Int)) <= r1 /\ r1 <= 1000000 * (k : Int)) /\ Hid (Below q3 W1 wr)) (fun i _ => t.rules.length - (intOf i).toNat)
 exact ⟨0, 0, 0, L0o _, rfl, g0, g1, y0, y1, hs2, HS0, by omega, by omega, L0 hb2⟩
 clear g0 g1 y0 y1 hs2 HS0 hb2
 obtain ⟨k, r0, r1, hk, rfl, d0, d1, z2, z3, hs2, HI, hr0, hr1, HB⟩ := hrel
 have n1 := (HB.o.ce 1 hw1).trans k1
 have hbwr := hbw1.trans (HB.o.mono (L2b hw1))
 by_cases hlt : k < t.rules.length
 ·obtain ⟨bA, off, x, q, rfl, _, hbA, hx, hri, hq, h1, h2⟩ := hF.rl hlt
  rw [<- hbwr.ce _ hbA] at h1 h2
  have hik : (k : Int) < t.rules.length := by omega
  have HT := L0 (HI.o.trans (Y9x hx))
  have hxo := HOUT.o x (L0z hx)
  obtain ⟨A2, l2, rfl, _⟩ := rSl.elems hq
  obtain ⟨W3, e3, HB3, c30, c31, d30, d31, p0, p1, n31, hs3⟩ : ∃ W3, wr.alloc (.cells #[.slice A2 x.cells.length l2, .int .i64 x.out] 69) = W3 /\ Hid (Below q3 W1 W3) /\ W3.cell? (zn wr.heap.size 0) = some (.slice A2 x.cells.length l2) /\ W3.cell? (zn wr.heap.size 1) = some (.int .i64 x.out) /\
    W3.cell? (zn q3 0) = some (.int .i64 r0) /\ W3.cell? (zn q3 1) = some (.int .i64 r1) /\ W3.frozen? (zn q3 0) = false /\ W3.frozen? (zn q3 1) = false /\ W3.cell? (zn w.heap.size 1) = some (.int .i64 t.pol) /\ q3 < W3.heap.size :=
   ⟨_, rfl, L0 (HB.o.alloc (by omega) _), L0b _ _ _ _, L0b _ _ _ _, (L0j _ _ _ hs2).trans d0, (L0j _ _ _ hs2).trans d1, (L1a (w := wr) (L3z wr _ _ hs2)).trans z2, (L1a (w := wr) (L3z wr _ _ hs2)).trans z3, (L0j _ _ _ (by show w.heap.size < _; omega)).trans n1, by simp; omega⟩
  clear hx hq d0 d1 z2 z3 n1 HB hbwr
  have hne : q3 ≠ wr.heap.size := by omega
  have HWS : Hid (∀ (o : Nat) (v : Value), Below q3 W1 (W3.setCell (zn q3 o) v)) := L0 fun o v => HB3.o.setCell (L0g _) _
  have HWS2 : Hid (∀ (o o' : Nat) (v v' : Value), Below q3 W1 ((W3.setCell (zn q3 o) v).setCell (zn q3 o') v')) := L0 fun o o' v v' => (HWS.o o v).setCell (L0g _) _
  have hk6 : (k : Int) <= 6 := by omega
  by_cases h6 : t.pol = 6
  ·have hq6 : (t.pol == 6) = true := by rw [beq_iff_eq]; exact h6
   have HST : Hid (Z15 t.pol k (r0, r1) x.out = if x.out < 0 then (r0 + max x.out (-1000000), r1) else (r0, r1 + min x.out 1000000)) := L0 (by unfold Z15; rw [if_pos h6])
   clear h6
   by_cases hx0 : x.out < 0
   ·have HN : Hid (Z5h t = Z36 t.pol (k + 1) (t.rules.drop (k + 1)) (r0 + max x.out (-1000000), r1)) := L0 (by rw [HT.o, HST.o, if_pos hx0])
    have hmm : max x.out (-1000000) = x.out := by omega
    have hwr : IntKind.i64.wrap (r0 + x.out) = r0 + x.out := IntWalk.i64_in _ (by omega)
    rw [hmm] at HN
    clear hmm
    obtain ⟨W4, e4, HB4, g0, g1, y0, y1, hs4⟩ : ∃ W4, W3.setCell (zn q3 0) (.int .i64 (r0 + x.out)) = W4 /\ Hid (Below q3 W1 W4) /\ W4.cell? (zn q3 0) = some (.int .i64 (r0 + x.out)) /\ W4.cell? (zn q3 1) = some (.int .i64 r1) /\ W4.frozen? (zn q3 0) = false /\ W4.frozen? (zn q3 1) = false /\ q3 < W4.heap.size :=
     ⟨_, rfl, L0 (HWS.o _ _), L0e _ _ _ d30, (cso).trans d31, (L0k _ _ _ _).trans p0, (L0k _ _ _ _).trans p1, by simpa [jC] using hs3⟩
    go_wp2
    go_roundw
    exact ⟨k + 1, r0 + x.out, r1, by omega, by go_num, g0, g1, y0, y1, hs4, HN, by omega, by omega, HB4⟩
    simp [intOf]; omega
   have HN : Hid (Z5h t = Z36 t.pol (k + 1) (t.rules.drop (k + 1)) (r0, r1 + min x.out 1000000)) := L0 (by rw [HT.o, HST.o, if_neg hx0])
   have hmm : min x.out 1000000 = x.out := by omega
   have hwr : IntKind.i64.wrap (r1 + x.out) = r1 + x.out := IntWalk.i64_in _ (by omega)
   rw [hmm] at HN
   clear hmm
   obtain ⟨W4, e4, HB4, g0, g1, y0, y1, hs4⟩ : ∃ W4, W3.setCell (zn q3 1) (.int .i64 (r1 + x.out)) = W4 /\ Hid (Below q3 W1 W4) /\ W4.cell? (zn q3 0) = some (.int .i64 r0) /\ W4.cell? (zn q3 1) = some (.int .i64 (r1 + x.out)) /\ W4.frozen? (zn q3 0) = false /\ W4.frozen? (zn q3 1) = false /\ q3 < W4.heap.size :=
    ⟨_, rfl, L0 (HWS.o _ _), (cso).trans d30, L0e _ _ _ d31, (L0k _ _ _ _).trans p0, (L0k _ _ _ _).trans p1, by simpa [jC] using hs3⟩
   go_wp2
   go_roundw
   exact ⟨k + 1, r0, r1 + x.out, by omega, by go_num, g0, g1, y0, y1, hs4, HN, by omega, by omega, HB4⟩
   simp [intOf]; omega
  have hq6 : (t.pol == 6) = false := by rw [beq_eq_false_iff_ne]; exact h6
  have HST : Hid (Z15 t.pol k (r0, r1) x.out = if k = 0 then (x.out, x.out) else (min r0 x.out, max r1 x.out)) := L0 (by unfold Z15; rw [if_neg h6])
  clear h6
  rcases L2p k with hk0 | hk0
  ·have HN : Hid (Z5h t = Z36 t.pol (k + 1) (t.rules.drop (k + 1)) (x.out, x.out)) := L0 (by rw [HT.o, HST.o, if_pos hk0])
   have hqk : ((k : Int) == 0) = true := by rw [beq_iff_eq]; omega
   have hb01 : -(1000000 * ((k + 1 : Nat) : Int)) <= x.out /\ x.out <= 1000000 * ((k + 1 : Nat) : Int) := by omega
   clear hk0
   obtain ⟨W4, e4, HB4, g0, g1, y0, y1, hs4⟩ : ∃ W4, (W3.setCell (zn q3 0) (.int .i64 x.out)).setCell (zn q3 1) (.int .i64 x.out) = W4 /\ Hid (Below q3 W1 W4) /\ W4.cell? (zn q3 0) = some (.int .i64 x.out) /\ W4.cell? (zn q3 1) = some (.int .i64 x.out) /\ W4.frozen? (zn q3 0) = false /\ W4.frozen? (zn q3 1) = false /\ q3 < W4.heap.size :=
    ⟨_, rfl, L0 (HWS2.o _ _ _ _), (cso).trans (L0e _ _ _ d30), L0e _ _ _ ((cso).trans d31), (L0k _ _ _ _).trans ((L0k _ _ _ _).trans p0), (L0k _ _ _ _).trans ((L0k _ _ _ _).trans p1), by simpa [jC] using hs3⟩
   go_wp2
   go_roundw
   exact ⟨k + 1, x.out, x.out, by omega, by go_num, g0, g1, y0, y1, hs4, HN, hb01, hb01, HB4⟩
   simp [intOf]; omega
  have HN : Hid (Z5h t = Z36 t.pol (k + 1) (t.rules.drop (k + 1)) (min r0 x.out, max r1 x.out)) := L0 (by rw [HT.o, HST.o, if_neg (by omega)])
  have hqk : ((k : Int) == 0) = false := by rw [beq_eq_false_iff_ne]; omega
  have hmm : min r0 x.out = (if x.out < r0 then x.out else r0) := by split <;> omega
  have hmx : max r1 x.out = (if r1 < x.out then x.out else r1) := by split <;> omega
  have hmb : -(1000000 * ((k + 1 : Nat) : Int)) <= (if x.out < r0 then x.out else r0) /\ (if x.out < r0 then x.out else r0) <= 1000000 * ((k + 1 : Nat) : Int) := by split <;> omega
  have hmb2 : -(1000000 * ((k + 1 : Nat) : Int)) <= (if r1 < x.out then x.out else r1) /\ (if r1 < x.out then x.out else r1) <= 1000000 * ((k + 1 : Nat) : Int) := by split <;> omega
  rw [hmm, hmx] at HN
  clear hk0 hmm hmx
  obtain ⟨W4, e4, HB4, g0, g1, y0, y1, hs4⟩ : ∃ W4, (W3.setCell (zn q3 0) (.int .i64 (if x.out < r0 then x.out else r0))).setCell (zn q3 1) (.int .i64 (if r1 < x.out then x.out else r1)) = W4 /\ Hid (Below q3 W1 W4) /\ W4.cell? (zn q3 0) = some (.int .i64 (if x.out < r0 then x.out else r0)) /\ W4.cell? (zn q3 1) = some (.int .i64 (if r1 < x.out then x.out else r1)) /\ W4.frozen? (zn q3 0) = false /\ W4.frozen? (zn q3 1) = false /\ q3 < W4.heap.size :=
   ⟨_, rfl, L0 (HWS2.o _ _ _ _), (cso).trans (L0e _ _ _ d30), L0e _ _ _ ((cso).trans d31), (L0k _ _ _ _).trans ((L0k _ _ _ _).trans p0), (L0k _ _ _ _).trans ((L0k _ _ _ _).trans p1), by simpa [jC] using hs3⟩
  go_wp2
  go_roundw
  exact ⟨k + 1, _, _, by omega, by go_num, g0, g1, y0, y1, hs4, HN, hmb, hmb2, HB4⟩
  simp [intOf]; omega
 have HQ : Hid (Z5h t = (r0, r1)) := L0 (by rw [HI.o, L0u (by omega)]; rfl)
 have b0 := (HB.o.ce 0 hq2).trans f0
 have b1 := (HB.o.ce 1 hq2).trans f1
 have y0 : wr.frozen? (zn W0.heap.size 0) = false := (HB.o.fr 0 hq2).trans z0
 have y1 : wr.frozen? (zn W0.heap.size 1) = false := (HB.o.fr 1 hq2).trans z1
 obtain ⟨W4, e4, hb4, g0, g1⟩ : ∃ W4, (wr.setCell (zn W0.heap.size 0) (.int .i64 r0)).setCell (zn W0.heap.size 1) (.int .i64 r1) = W4 /\ Bw w W4 /\ W4.cell? (zn W0.heap.size 0) = some (.int .i64 r0) /\ W4.cell? (zn W0.heap.size 1) = some (.int .i64 r1) :=
  ⟨_, rfl, (hbwr.setCell hb0.size _).setCell hb0.size _, (cso).trans (L0e _ _ _ b0), L0e _ _ _ ((cso).trans b1)⟩
 go_wp2
 refine bodyPost_ret (by simp [results, Tryz.results141, go_sem, g0, g1]; rfl) rfl ?_
 exact ⟨by rw [HQ.o], hb4⟩
def SmallT (t : Tb) : Prop := t.rules.length <= 6 /\ ∀ r ∈ t.rules, -1000000 <= r.out /\ r.out <= 1000000
def SmallB (b : Bk) : Prop := ∀ t ∈ b.tabs, SmallT t
theorem SmallT.tb0 : SmallT tb0 := ⟨by decide, fun r h => by cases h⟩
theorem SmallB.found {b : Bk} (h : SmallB b) (s : Txt) : SmallT (tbOf (findT b.tabs s)) := by
 cases hf : findT b.tabs s with
 | none => exact SmallT.tb0
 | some t => exact h t (L1s hf)
def allR (b : Bk) (s : Txt) : Int × Int := if (findD b.doms s).isSome then ((dmOf (findD b.doms s)).lo, (dmOf (findD b.doms s)).hi) else Z5h (tbOf (findT b.tabs s))
def Y6u (b : Bk) (s : Txt) : Bool := (findD b.doms s).isSome || (findT b.tabs s).isSome
theorem X2g {w : World} {q : Nat} {u0 u1 : Value} (v0 v1 : Value) (h0 : w.cell? (zn q 0) = some u0) (h1 : w.cell? (zn q 1) = some u1) :
  ∃ W, (w.setCell (zn q 0) v0).setCell (zn q 1) v1 = W /\ (∀ B, B <= q -> ∀ w0, Below B w0 w -> Below B w0 W) /\ W.cell? (zn q 0) = some v0 /\ W.cell? (zn q 1) = some v1 :=
 ⟨_, rfl, fun _ hB _ hb => (hb.setCell hB _).setCell hB _, (cso).trans (L0e _ _ _ h0), L0e _ _ _ ((cso).trans h1)⟩
theorem Z2h {S : Nat -> Prop} {cs : List Value} {b : Bk} {s : Txt} {d : Dm} {f : Bool} (w : World) (hl : rBk.rel w S cs b) (hs : s.length <= 140737488355328) (hd : dmOf (findD b.doms s) = d) (hf : (findD b.doms s).isSome = f) :
  Calls Tryz.prog 48 #[.agg cs.toArray, sq s] w fun e w' => e = .returned (.tuple #[.agg #[sq d.name, .int .i64 d.lo, .int .i64 d.hi], .bool f]) /\ Bw w w' := hd ▸ hf ▸ Y0g s w hl hs
theorem Z23 {S : Nat -> Prop} {cs : List Value} {b : Bk} {s : Txt} {t : Tb} {f : Bool} (w : World) (hl : rBk.rel w S cs b) (hs : s.length <= 140737488355328) (ht : tbOf (findT b.tabs s) = t) (hf : (findT b.tabs s).isSome = f) :
  Calls Tryz.prog 50 #[.agg cs.toArray, sq s] w fun e w' => ∃ A c B d S', e = .returned (.tuple #[.agg #[sq t.name, .int .i64 t.pol, .bool t.comp, .slice A t.ins.length c, .slice B t.rules.length d], .bool f]) /\
   rTb.rel w' S' [sq t.name, .int .i64 t.pol, .bool t.comp, .slice A t.ins.length c, .slice B t.rules.length d] t /\ Bw w w' := by
 subst ht; subst hf
 refine (Y1l s w hl hs).mono ?_
 rintro e w' ⟨cs', S', h1, h2, h3⟩
 have h2' := h2
 obtain ⟨v, u, rfl, _, _, g1, g2⟩ := h2
 obtain ⟨A, c, rfl, _⟩ := rSl.elems g1
 obtain ⟨B, d, rfl, _⟩ := rSl.elems g2
 exact ⟨A, c, B, d, S', h1, h2', h3⟩
theorem X0p {S : Nat -> Prop} {cs : List Value} {t : Tb} {lo hi : Int} (w : World) (hl : rTb.rel w S cs t) (hs : SmallT t) (h : Z5h t = (lo, hi)) :
  Calls Tryz.prog 141 #[.agg cs.toArray] w fun e w' => e = .returned (.agg #[.int .i64 lo, .int .i64 hi]) /\ Bw w w' := by
 have := X0q w hl hs.1 hs.2
 rwa [h] at this
theorem X2i {S : Nat -> Prop} {cs : List Value} {b : Bk} (s : Txt) (w : World) (hl : rBk.rel w S cs b) (hs : s.length <= 140737488355328) (hb : SmallB b) :
  Calls Tryz.prog 117 #[.agg cs.toArray, sq s] w fun e w' => e = .returned (.tuple #[.agg #[.int .i64 (allR b s).1, .int .i64 (allR b s).2], .bool (Y6u b s)]) /\ Bw w w' := by
 have hl' := hl
 obtain ⟨v, u, rfl, hd, ht⟩ := hl
 obtain ⟨A, c, rfl, _⟩ := rSl.elems hd
 obtain ⟨B, d, rfl, _⟩ := rSl.elems ht
 obtain ⟨W1, e1, HB1, k0, k1, f0, f1, z0, z1, hs1, HS1⟩ : ∃ W1, (w.alloc (.cells #[.slice A b.doms.length c, .slice B b.tabs.length d] 38)).alloc (.cells #[.int .i64 0, .int .i64 0] 74) = W1 /\ Hid (Bw w W1) /\
   W1.cell? (zn w.heap.size 0) = some (.slice A b.doms.length c) /\ W1.cell? (zn w.heap.size 1) = some (.slice B b.tabs.length d) /\ W1.cell? (zn (w.heap.size + 1) 0) = some (.int .i64 0) /\ W1.cell? (zn (w.heap.size + 1) 1) = some (.int .i64 0) /\
   W1.frozen? (zn (w.heap.size + 1) 0) = false /\ W1.frozen? (zn (w.heap.size + 1) 1) = false /\ w.heap.size + 1 < W1.heap.size /\ Hid (w.heap.size < W1.heap.size) := by
  have e : (w.alloc (.cells #[.slice A b.doms.length c, .slice B b.tabs.length d] 38)).heap.size = w.heap.size + 1 := by simp
  refine ⟨_, rfl, L0 (bA.alloc (by simp) _), (L0j _ _ _ (by simp)).trans (L0b _ _ _ _), (L0j _ _ _ (by simp)).trans (L0b _ _ _ _), ?_, ?_, ?_, ?_, by simp, L0 (by simp; omega)⟩ <;> rw [<- e] <;> first | exact L0b _ _ _ _ | simp
 obtain ⟨dm, hdm⟩ : ∃ x, dmOf (findD b.doms s) = x := ⟨_, rfl⟩
 obtain ⟨fd, hfd⟩ : ∃ x, (findD b.doms s).isSome = x := ⟨_, rfl⟩
 obtain ⟨tb, htb⟩ : ∃ x, tbOf (findT b.tabs s) = x := ⟨_, rfl⟩
 obtain ⟨ft, hft⟩ : ∃ x, (findT b.tabs s).isSome = x := ⟨_, rfl⟩
 obtain ⟨⟨lo, hi⟩, hsp⟩ : ∃ x, Z5h tb = x := ⟨_, rfl⟩
 have HR : Hid (allR b s = if fd then (dm.lo, dm.hi) else (lo, hi)) := L0 (by unfold allR; rw [hdm, hfd, htb, hsp])
 have HO : Hid (Y6u b s = (fd || ft)) := L0 (by unfold Y6u; rw [hfd, hft])
 have hsm := L0 (show SmallT tb from htb ▸ hb.found s)
 have q1 := L0 hdm
 have q2 := L0 hfd
 have q3 := L0 htb
 have q4 := L0 hft
 have q5 := L0 hsp
 have HK := L0 (jB hl' HB1.o)
 clear hl' hd ht hb hdm hfd htb hft hsp
 cases fd
 ·go_enter Tryz.func117, Tryz.ntmps117
  go_wp2_with (first | (go_at_call 48; (with_reducible refine (Z2h W1 HK.o hs q1.out q2.out).mono ?_); rintro e w2 ⟨rfl, hb2⟩; obtain ⟨W3, e3, HB3⟩ : ∃ W3, w2.alloc (.cells #[sq dm.name, .int .i64 dm.lo, .int .i64 dm.hi] 63) = W3 /\ Hid (Bw W1 W3) := ⟨_, rfl, L0 (hb2.alloc hb2.size _)⟩; have j1 := ac1 e3; have j2 := ac2 e3; have g0 := (HB3.o.ce 0 HS1.o).trans k0; have g1 := (HB3.o.ce 1 HS1.o).trans k1; have HK3 := L0 (jB HK.o HB3.o)) | (go_at_call 50; (with_reducible refine (Z23 W3 HK3.o hs q3.out q4.out).mono ?_); rintro e w4 ⟨A5, c5, B5, d5, S5, rfl, hr5, hb4⟩; obtain ⟨W5, e5, HB5, HR5⟩ : ∃ W5, w4.alloc (.cells #[sq tb.name, .int .i64 tb.pol, .bool tb.comp, .slice A5 tb.ins.length c5, .slice B5 tb.rules.length d5] 66) = W5 /\ Hid (Bw W1 W5) /\ Hid (rTb.rel W5 S5 [sq tb.name, .int .i64 tb.pol, .bool tb.comp, .slice A5 tb.ins.length c5, .slice B5 tb.rules.length d5] tb) := ⟨_, rfl, L0 ((HB3.o.trans (hb4.mono HB3.o.size)).alloc (L0h HB3.o.size hb4.size) _), L0 (jA hr5 _)⟩; have j50 := ac0 e5; have j51 := ac1 e5; have j52 := ac2 e5; have j53 := ac3 e5; have j54 := ac4 e5; clear hr5) | (go_at_call 141; (with_reducible refine (X0p W5 HR5.o hsm.out q5.out).mono ?_); rintro e w6 ⟨rfl, hb6⟩; have HB6 := L0 (HB5.o.trans (hb6.mono HB5.o.size)); have p0 := (HB6.o.ce 0 hs1).trans f0; have p1 := (HB6.o.ce 1 hs1).trans f1; have y0 : w6.frozen? (zn (w.heap.size + 1) 0) = false := (HB6.o.fr 0 hs1).trans z0; have y1 : w6.frozen? (zn (w.heap.size + 1) 1) = false := (HB6.o.fr 1 hs1).trans z1; obtain ⟨W4, e4, hB4, n0, n1⟩ := X2g (.int .i64 lo) (.int .i64 hi) p0 p1; have HB4 := L0 (hB4 w.heap.size (L1m _) w (HB1.o.trans (HB6.o.mono HB1.o.size))); clear hB4))
  refine bodyPost_ret (by simp [results, Tryz.results117, go_sem, n0, n1]; rfl) rfl ?_
  exact ⟨by rw [HR.o, HO.o]; rfl, HB4.o⟩
 go_enter Tryz.func117, Tryz.ntmps117
 go_wp2_with (go_at_call 48; (with_reducible refine (Z2h W1 HK.o hs q1.out q2.out).mono ?_); rintro e w2 ⟨rfl, hb2⟩; obtain ⟨W3, e3, HB3⟩ : ∃ W3, w2.alloc (.cells #[sq dm.name, .int .i64 dm.lo, .int .i64 dm.hi] 63) = W3 /\ Hid (Bw W1 W3) := ⟨_, rfl, L0 (hb2.alloc hb2.size _)⟩; have j1 := ac1 e3; have j2 := ac2 e3; have p0 := (HB3.o.ce 0 hs1).trans f0; have p1 := (HB3.o.ce 1 hs1).trans f1; have y0 : W3.frozen? (zn (w.heap.size + 1) 0) = false := (HB3.o.fr 0 hs1).trans z0; have y1 : W3.frozen? (zn (w.heap.size + 1) 1) = false := (HB3.o.fr 1 hs1).trans z1; obtain ⟨W4, e4, hB4, n0, n1⟩ := X2g (.int .i64 dm.lo) (.int .i64 dm.hi) p0 p1; have HB4 := L0 (hB4 w.heap.size (L1m _) w (HB1.o.trans (HB3.o.mono HB1.o.size))); clear hB4)
 refine bodyPost_ret (by simp [results, Tryz.results117, go_sem, n0, n1]; rfl) rfl ?_
 exact ⟨by rw [HR.o, HO.o]; rfl, HB4.o⟩
def Z8p (b : Bk) (placed : List Txt) (s : Txt) : Bool := (findT b.tabs s).isSome && !placed.contains s
def Y46 (b : Bk) (t : Tb) (placed : List Txt) : Bool := !t.ins.any (Z8p b placed)
def idxP {α : Type} (p : α -> Bool) (l : List α) : Int := match l.findIdx? p with | some i => i | none => -1
theorem X06 {α : Type} {p : α -> Bool} {l : List α} {k : Nat} {x : α} (hk : l[k]? = some x) (h0 : (l.take k).any p = false) (h : p x = true) : idxP p l = k := by
 obtain ⟨hlt, rfl⟩ := L0n.1 hk
 have hf : l.findIdx? p = some k := by
  rw [L2g]
  refine ⟨hlt, h, fun j hj => ?_⟩
  have hj' : l[j]'(by omega) ∈ l.take k := by
   rw [L2n]
   exact ⟨j, by omega, rfl⟩
  have := L2m.1 h0 _ hj'
  simpa using this
 unfold idxP; rw [hf]
theorem Y3p {α : Type} {p : α -> Bool} {l : List α} (h : l.any p = false) : idxP p l = -1 := by
 have hf : l.findIdx? p = none := by
  rw [L2h]
  intro x hx
  have := L2m.1 h x hx
  simpa using this
 unfold idxP; rw [hf]
theorem Y67 {α : Type} (p : α -> Bool) (l : List α) : decide (0 <= idxP p l) = l.any p := by
 cases hh : l.any p
 ·rw [Y3p hh]; rfl
 unfold idxP
 cases hq : l.findIdx? p with
 | some i => simp
 | none =>
  rw [L2h] at hq
  rw [L4o] at hh
  obtain ⟨x, hx, hm⟩ := hh
  rw [hq x hx] at hm; cases hm
theorem X0r {α : Type} {p : α -> Bool} {l : List α} {k : Nat} {x : α} (h : l[k]? = some x) : (l.take (k + 1)).any p = ((l.take k).any p || p x) := by
 rw [Z0c h, List.any_append]; simp
structure Held (w : World) (S T : Nat -> Prop) (pb pp : Nat) (b : Bk) (placed : List Txt) (A B P : Option Addr) (c d e : Nat) : Prop where
 c0 : w.cell? (zn pb 0) = some (.slice A b.doms.length c)
 c1 : w.cell? (zn pb 1) = some (.slice B b.tabs.length d)
 c2 : w.cell? (zn pp 0) = some (.slice P placed.length e)
 rb : rBk.rel w S [.slice A b.doms.length c, .slice B b.tabs.length d] b
 rp : (rSl rStr).rel w T [.slice P placed.length e] placed
theorem Held.below {w w' : World} {S T : Nat -> Prop} {pb pp : Nat} {b : Bk} {placed : List Txt} {A B P : Option Addr} {c d e : Nat} (h : Held w S T pb pp b placed A B P c d e) (hb : Bw w w') : Held w' S T pb pp b placed A B P c d e where
 c0 := (hb.ce 0 (L0d _ _ h.c0)).trans h.c0
 c1 := (hb.ce 1 (L0d _ _ h.c1)).trans h.c1
 c2 := (hb.ce 0 (L0d _ _ h.c2)).trans h.c2
 rb := jB h.rb hb
 rp := jB h.rp hb
theorem Z52 {S : Nat -> Prop} {v : Value} {l : List Txt} {s : Txt} {r : Bool} (w : World) (hl : (rSl rStr).rel w S [v] l) (h : l.contains s = r) :
  Calls Tryz.prog 63 #[v, sq s] w fun e w' => e = .returned (.bool r) /\ w = w' := h ▸ Z22 s w hl
theorem Y6p {w : World} {S T : Nat -> Prop} {pb pp : Nat} {b : Bk} {placed : List Txt} {A B P : Option Addr} {c d e : Nat} (H : Held w S T pb pp b placed A B P c d e) (s : Txt) (hs : s.length <= 140737488355328) :
  Calls Tryz.prog 137 #[sq s, .pointer (some (zn pb 0)), .pointer (some (zn pp 0))] w fun e w' => e = .returned (.bool (Z8p b placed s)) /\ Bw w w' := by
 have c0 := H.c0
 have c1 := H.c1
 have HH := L0 H
 obtain ⟨tb, htb⟩ : ∃ x, tbOf (findT b.tabs s) = x := ⟨_, rfl⟩
 obtain ⟨ft, hft⟩ : ∃ x, (findT b.tabs s).isSome = x := ⟨_, rfl⟩
 obtain ⟨fc, hfc⟩ : ∃ x, placed.contains s = x := ⟨_, rfl⟩
 have HR : Hid (Z8p b placed s = (ft && !fc)) := L0 (by unfold Z8p; rw [hft, hfc])
 have q3 := L0 htb
 have q4 := L0 hft
 have q5 := L0 hfc
 clear htb hft hfc H
 cases ft
 all_goals
  go_enter Tryz.func137, Tryz.ntmps137
  go_wp2_with (first | (go_at_call 50; (with_reducible refine (Z23 w HH.o.rb hs q3.out q4.out).mono ?_); rintro e w4 ⟨A5, c5, B5, d5, S5, rfl, hr5, hb4⟩; obtain ⟨W5, e5, HH5, c2, HB5⟩ : ∃ W5, w4.alloc (.cells #[sq tb.name, .int .i64 tb.pol, .bool tb.comp, .slice A5 tb.ins.length c5, .slice B5 tb.rules.length d5] 66) = W5 /\ Hid (Held W5 S T pb pp b placed A B P c d e) /\ W5.cell? (zn pp 0) = some (.slice P placed.length e) /\ Hid (Bw w W5) := ⟨_, rfl, L0 (HH.o.below (hb4.alloc hb4.size _)), (HH.o.below (hb4.alloc hb4.size _)).c2, L0 (hb4.alloc hb4.size _)⟩; clear hr5) | (go_at_call 63; (with_reducible refine (Z52 W5 HH5.o.rp q5.out).mono ?_); rintro e w6 ⟨rfl, rfl⟩))
  go_ret
  exact ⟨by rw [HR.o]; rfl, HB5.o⟩
theorem Y5t {w : World} {S T : Nat -> Prop} {pb pp : Nat} {b : Bk} {placed : List Txt} {A B P : Option Addr} {c d e : Nat} {s : Txt} {r : Bool} (H : Held w S T pb pp b placed A B P c d e) (hs : s.length <= 140737488355328) (h : Z8p b placed s = r) :
  Calls Tryz.prog 137 #[sq s, .pointer (some (zn pb 0)), .pointer (some (zn pp 0))] w fun e w' => e = .returned (.bool r) /\ Bw w w' := h ▸ Y6p H s hs
theorem Y1m {w : World} {S T U : Nat -> Prop} {pb pp : Nat} {b : Bk} {placed ins : List Txt} {A B P : Option Addr} {c d e : Nat} {v : Value} (H : Held w S T pb pp b placed A B P c d e) (hl : (rSl rStr).rel w U [v] ins) :
  Calls Tryz.prog 156 #[v, .func (.func 137) #[] #[.pointer (some (zn pb 0)), .pointer (some (zn pp 0))]] w fun e w' => e = .returned (.int .i64 (idxP (Z8p b placed) ins)) /\ Bw w w' := by
 have hal := rSl.lenle hl (by decide)
 obtain ⟨C, g, rfl, _, _, _, hE⟩ := rSl.elems hl
 have HH := L0 H
 clear hl H
 go_enter Tryz.func156, Tryz.ntmps156
 go_wp2
 go_loopw [5, 8] (fun _ i wr => ∃ k : Nat, k <= ins.length /\ i = .int .i64 k /\ Hid ((ins.take k).any (Z8p b placed) = false) /\ Bw w wr) (fun _ i _ => ins.length - (intOf i).toNat)
 exact ⟨0, L0o _, rfl, L0 (by simp), L0m _ _⟩
 obtain ⟨k, hk, rfl, HS, hbl⟩ := hrel
 by_cases hlt : k < ins.length
 ·obtain ⟨q, off, x, rfl, _, hq, hx, hxl, h1⟩ := hE.str hlt
  rw [<- hbl.ce _ hq] at h1
  have HX := L0 hx
  have HW := L0 (HH.o.below hbl)
  have hi : (k : Int) < ins.length := by omega
  clear hx hE
  cases hh : Z8p b placed x
  ·have HC := L0 hh
   have HS' : Hid ((ins.take (k + 1)).any (Z8p b placed) = false) := L0 (by rw [X0r HX.o, HS.o, hh]; rfl)
   clear hh
   go_wp2_with (go_at_call 137; (with_reducible refine (Y5t HW.o hxl HC.o).mono ?_); rintro e w' ⟨rfl, hw⟩)
   go_roundw
   exact ⟨k + 1, by omega, by go_num, HS', hbl.trans (hw.mono hbl.size)⟩
   simp [intOf]; omega
  have HC := L0 hh
  have HF : Hid (idxP (Z8p b placed) ins = k) := L0 (X06 HX.o HS.o hh)
  clear hh
  go_wp2_with (go_at_call 137; (with_reducible refine (Y5t HW.o hxl HC.o).mono ?_); rintro e w' ⟨rfl, hw⟩)
  go_ret
  exact ⟨Z78 HF.o.symm, hbl.trans (hw.mono hbl.size)⟩
 go_wp2
 go_ret
 exact ⟨Z78 (Y3p (by have := HS.o; rwa [L0l (by omega)] at this)).symm, hbl⟩
theorem Z8l {w : World} {S T U : Nat -> Prop} {pb pp : Nat} {b : Bk} {placed ins : List Txt} {A B P : Option Addr} {c d e : Nat} {v : Value} (H : Held w S T pb pp b placed A B P c d e) (hl : (rSl rStr).rel w U [v] ins) :
  Calls Tryz.prog 136 #[v, .func (.func 137) #[] #[.pointer (some (zn pb 0)), .pointer (some (zn pp 0))]] w fun e w' => e = .returned (.bool (ins.any (Z8p b placed))) /\ Bw w w' := by
 have HI := L0 (Y1m H hl)
 have HD := L0 (Y67 (Z8p b placed) ins)
 clear hl H
 go_enter Tryz.func136, Tryz.ntmps136
 go_wp2_with (go_at_call 156; refine HI.o.mono ?_; rintro e w' ⟨rfl, hw⟩)
 go_ret
 exact ⟨Z0m HD.o, hw⟩
theorem X05 {S T U : Nat -> Prop} {bs cs : List Value} {b : Bk} {t : Tb} {v : Value} {placed : List Txt} (w : World) (hb : rBk.rel w S bs b) (ht : rTb.rel w T cs t) (hp : (rSl rStr).rel w U [v] placed) :
  Calls Tryz.prog 112 #[.agg bs.toArray, .agg cs.toArray, v] w fun e w' => e = .returned (.bool (Y46 b t placed)) /\ Bw w w' := by
 have hb' := hb
 obtain ⟨v0, u0, rfl, hd, htb⟩ := hb
 obtain ⟨A, c, rfl, _⟩ := rSl.elems hd
 obtain ⟨B, d, rfl, _⟩ := rSl.elems htb
 obtain ⟨vi, vr, rfl, _, _, hi, hr⟩ := ht
 obtain ⟨I, ic, rfl, _⟩ := rSl.elems hi
 obtain ⟨R, rc, rfl, _⟩ := rSl.elems hr
 obtain ⟨P, e, rfl, _⟩ := rSl.elems hp
 obtain ⟨W, eW, HB, k3, HH, HI⟩ : ∃ W, ((w.alloc (.cells #[.slice A b.doms.length c, .slice B b.tabs.length d] 38)).alloc (.cells #[sq t.name, .int .i64 t.pol, .bool t.comp, .slice I t.ins.length ic, .slice R t.rules.length rc] 66)).alloc (.cells #[.slice P placed.length e] 39) = W /\ Hid (Bw w W) /\
   W.cell? (zn (w.heap.size + 1) 3) = some (.slice I t.ins.length ic) /\ Hid (Held W S U w.heap.size (w.heap.size + 1 + 1) b placed A B P c d e) /\ Hid ((rSl rStr).rel W T [.slice I t.ins.length ic] t.ins) := by
  have s1 : (w.alloc (.cells #[.slice A b.doms.length c, .slice B b.tabs.length d] 38)).heap.size = w.heap.size + 1 := by simp
  have s2 : ((w.alloc (.cells #[.slice A b.doms.length c, .slice B b.tabs.length d] 38)).alloc (.cells #[sq t.name, .int .i64 t.pol, .bool t.comp, .slice I t.ins.length ic, .slice R t.rules.length rc] 66)).heap.size = w.heap.size + 1 + 1 := by simp
  refine ⟨_, rfl, L0 ((bA.alloc (by simp) _).alloc (by simp; omega) _), ?_, L0 ⟨?_, ?_, ?_, jA (jA (jA hb' _) _) _, jA (jA (jA hp _) _) _⟩, L0 (jA (jA (jA hi _) _) _)⟩
  ·rw [L0j _ _ _ (by rw [s2]; show w.heap.size + 1 < _; omega), <- s1]; exact L0b _ _ _ _
  ·rw [L0j _ _ _ (by rw [s2]; show w.heap.size < _; omega), L0j _ _ _ (by rw [s1]; show w.heap.size < _; omega)]; exact L0b _ _ _ _
  ·rw [L0j _ _ _ (by rw [s2]; show w.heap.size < _; omega), L0j _ _ _ (by rw [s1]; show w.heap.size < _; omega)]; exact L0b _ _ _ _
  rw [<- s2]; exact L0b _ _ _ _
 have HC := L0 (Z8l HH.o HI.o)
 clear hb' hd htb hi hr hp
 go_enter Tryz.func112, Tryz.ntmps112
 go_wp2_with (go_at_call 136; (with_reducible refine HC.o.mono ?_); rintro e w' ⟨rfl, hw⟩)
 go_ret
 exact ⟨rfl, HB.o.trans (hw.mono HB.o.size)⟩
def X1g (b : Bk) (out : List Txt) : Option Tb := b.tabs.find? fun t => !out.contains t.name && Y46 b t out
def Z76 (b : Bk) : Nat -> List Txt -> Option (List Txt)
 | 0, out => some out
 | n + 1, out => match X1g b out with | some t => Z76 b n (out ++ [t.name]) | none => none
def Z3d (b : Bk) : Option (List Txt) := Z76 b b.tabs.length []
def lenV (v : Value) : Nat := match v with | .slice _ n _ => n | _ => 0
theorem Y54 : ElemOf Tryz.prog rStr 39 9 := .mk' Tryz.underlying39 (z := .string ⟨#[]⟩) (k := 1) (b := 16) (by kernel_rfl) rfl rfl rfl (by decide) (by decide)
theorem Y8x {S T U : Nat -> Prop} {bs cs : List Value} {b : Bk} {t : Tb} {v : Value} {placed : List Txt} {r : Bool} (w : World) (hb : rBk.rel w S bs b) (ht : rTb.rel w T cs t) (hp : (rSl rStr).rel w U [v] placed) (h : Y46 b t placed = r) :
  Calls Tryz.prog 112 #[.agg bs.toArray, .agg cs.toArray, v] w fun e w' => e = .returned (.bool r) /\ Bw w w' := h ▸ X05 w hb ht hp
theorem Y79 {S : Nat -> Prop} {bs : List Value} {b : Bk} (w : World) (hl : rBk.rel w S bs b) :
  Calls Tryz.prog 85 #[.agg bs.toArray] w fun e w' => ∃ z, e = .returned (.tuple #[z, .bool (Z3d b).isSome]) /\ (rSl rStr).rel w' (Up (fun _ => False) w.heap.size) [z] ((Z3d b).getD []) /\ Bw w w' := by
 have hl' := hl
 obtain ⟨v0, u0, rfl, hd, htb⟩ := hl
 obtain ⟨A, c, rfl, _⟩ := rSl.elems hd
 obtain ⟨B, d, rfl, _, _, hbt, hF⟩ := rSl.elems htb
 have hlt5 : b.tabs.length <= 1759218604441 := by simp only [rTb] at hbt; omega
 obtain ⟨W0, e0, hb0, hs0, HBK⟩ : ∃ W0, w.alloc (.cells #[.slice A b.doms.length c, .slice B b.tabs.length d] 38) = W0 /\ Bw w W0 /\ w.heap.size < W0.heap.size /\ Hid (rBk.rel W0 S [.slice A b.doms.length c, .slice B b.tabs.length d] b) := ⟨_, rfl, (L0m _ _).alloc (L0g _) _, by simp, L0 (jA hl' _)⟩; have c0 := ac0 e0; have c1 := ac1 e0
 clear hl' hd htb hbt
 go_enter Tryz.func85, Tryz.ntmps85
 go_wp2
 clear e0
 go_loopw [4] (fun o wr => ∃ (out : List Txt) (n : Nat), Own rStr 9 wr W0.heap.size (fun _ => False) o out /\ Hid (out.length + n = b.tabs.length) /\ Hid (Z3d b = Z76 b n out) /\ Bw W0 wr) (fun o _ => b.tabs.length - lenV o)
 exact ⟨[], b.tabs.length, Own.nil _ _ _ _ _, L0 (by simp), L0 rfl, L0m _ _⟩
 obtain ⟨out, n, hown, HN, HI, hb⟩ := hrel
 obtain ⟨Ao, co, rfl⟩ := hown.value
 have k1 := (hb.ce 1 hs0).trans c1
 have hol : out.length <= b.tabs.length := by have := HN.o; omega
 by_cases hlt : out.length < b.tabs.length
 ·have hil : (out.length : Int) < b.tabs.length := by omega
  obtain ⟨m, hm⟩ : ∃ m, n = m + 1 := ⟨n - 1, by have := HN.o; omega⟩
  subst hm
  go_wp2
  obtain ⟨wq, hwq⟩ : ∃ x, x = wr := ⟨_, rfl⟩
  subst hwq
  go_loopw [4, 19] (fun o i wi => ∃ k : Nat, k <= b.tabs.length /\ i = .int .i64 k /\ o = .slice Ao out.length co /\ Hid (X1g b out = (b.tabs.drop k).find? fun t => !out.contains t.name && Y46 b t out) /\ Hid (Bw wq wi)) (fun _ i _ => b.tabs.length - (intOf i).toNat)
  exact ⟨0, L0o _, rfl, rfl, L0 rfl, L0 (L0m _ _)⟩
  clear k1
  obtain ⟨k, hk, rfl, rfl, HK, HB⟩ := hrel
  have HBW := L0 (hb.trans (HB.o.mono hb.size))
  by_cases hltk : k < b.tabs.length
  ·obtain ⟨bB, off, x, A1, c1', A2, c2', rfl, hbB, hx, hr, g0, g1, g2, g3, g4⟩ := hF.tb hltk
   have hbw := hb0.trans (HBW.o.mono (L2b hs0))
   rw [<- hbw.ce _ hbB] at g0 g1 g2 g3 g4
   have hik : (k : Int) < b.tabs.length := by omega
   have HAT := L0 (Y15 (p := fun t : Tb => !out.contains t.name && Y46 b t out) hx)
   have hxl : x.name.length <= 140737488355328 := by obtain ⟨_, _, _, h, _⟩ := hr; exact h
   obtain ⟨W3, e3, HB3, j0, j1, j2, j3, j4, q0, q1, HR3, HO3, hw3s⟩ : ∃ W3, wr.alloc (.cells #[sq x.name, .int .i64 x.pol, .bool x.comp, .slice A1 x.ins.length c1', .slice A2 x.rules.length c2'] 66) = W3 /\ Hid (Bw W0 W3) /\ W3.cell? (zn wr.heap.size 0) = some (sq x.name) /\ W3.cell? (zn wr.heap.size 1) = some (.int .i64 x.pol) /\ W3.cell? (zn wr.heap.size 2) = some (.bool x.comp) /\ W3.cell? (zn wr.heap.size 3) = some (.slice A1 x.ins.length c1') /\ W3.cell? (zn wr.heap.size 4) = some (.slice A2 x.rules.length c2') /\
     W3.cell? (zn w.heap.size 0) = some (.slice A b.doms.length c) /\ W3.cell? (zn w.heap.size 1) = some (.slice (some (zn bB off)) b.tabs.length d) /\ Hid (rTb.rel W3 S [sq x.name, .int .i64 x.pol, .bool x.comp, .slice A1 x.ins.length c1', .slice A2 x.rules.length c2'] x) /\ Hid (Own rStr 9 W3 W0.heap.size (fun _ => False) (.slice Ao out.length co) out) /\ wr.heap.size < W3.heap.size :=
    ⟨_, rfl, L0 (HBW.o.alloc HBW.o.size _), L0b _ _ _ _, L0b _ _ _ _, L0b _ _ _ _, L0b _ _ _ _, L0b _ _ _ _,
     ((HBW.o.alloc HBW.o.size _).ce 0 hs0).trans c0, ((HBW.o.alloc HBW.o.size _).ce 1 hs0).trans c1, L0 (jB hr (hbw.alloc hbw.size _)), L0 ((hown.below HB.o).alloc _), by simp⟩
   have HBK3 := L0 (jB HBK.o HB3.o)
   clear hx hr
   obtain ⟨fc, hfc⟩ : ∃ r, out.contains x.name = r := ⟨_, rfl⟩
   obtain ⟨ff, hff⟩ : ∃ r, Y46 b x out = r := ⟨_, rfl⟩
   have HST : Hid (X1g b out = if !fc && ff then some x else (b.tabs.drop (k + 1)).find? fun t => !out.contains t.name && Y46 b t out) := L0 (by rw [HK.o, HAT.o, <- hfc, <- hff])
   have qc := L0 hfc
   have qf := L0 hff
   clear hfc hff hbw
   have HBQ : Hid (Bw wq W3) := L0 (by rw [<- e3]; exact HB.o.alloc HB.o.size _)
   have HBY : Hid ((out.length + 1) * rStr.bytes <= 140737488355328) := L0 (by show (_ + 1) * 16 <= _; omega)
   cases fc
   ·cases ff
    ·have HK' := L0 (HST.o.trans (if_neg (by simp)))
     go_wp2_with (first | (go_at_call 63; (with_reducible refine (Z52 W3 (HO3.o.rel (by decide)) qc.out).mono ?_); rintro e w6 ⟨rfl, rfl⟩) | (go_at_call 112; (with_reducible refine (Y8x W3 HBK3.o HR3.o (HO3.o.rel (by decide)) qf.out).mono ?_); rintro e w7 ⟨rfl, hb7⟩; have r0 := (hb7.ce 0 hw3s).trans j0; have HO7 := L0 (HO3.o.below hb7); have HB7 := L0 (HB3.o.trans (hb7.mono HB3.o.size))))
     go_roundw
     exact ⟨k + 1, by omega, by go_num, rfl, HK', L0 (HBQ.o.trans (hb7.mono HBQ.o.size))⟩
     simp [intOf]; omega
    have HNX : Hid (X1g b out = some x) := L0 (HST.o.trans (if_pos rfl))
    have HI' : Hid (Z3d b = Z76 b m (out ++ [x.name])) := L0 (by rw [HI.o, Z76, HNX.o])
    go_wp2_with (first | (go_at_call 63; (with_reducible refine (Z52 W3 (HO3.o.rel (by decide)) qc.out).mono ?_); rintro e w6 ⟨rfl, rfl⟩) | (go_at_call 112; (with_reducible refine (Y8x W3 HBK3.o HR3.o (HO3.o.rel (by decide)) qf.out).mono ?_); rintro e w7 ⟨rfl, hb7⟩; have r0 := (hb7.ce 0 hw3s).trans j0; have HO7 := L0 (HO3.o.below hb7); have HB7 := L0 (HB3.o.trans (hb7.mono HB3.o.size))) | (at_builtin; refine Z0a (R := rStr) (x := x.name) Y54 rfl (.tmp 34) (.tmp 37) rfl rfl HO7.o [sq x.name] rfl rfl (fun _ => False) ⟨rfl, hxl⟩ (fun _ h => h.elim) HBY.o HB7.o.size ?_; intro v9 w9 hown9 hb9 _ _; have HB9 := L0 (HB7.o.trans hb9); have hown8 := hown9; obtain ⟨A9, c9, rfl⟩ := hown8.value))
    go_roundw
    exact ⟨out ++ [x.name], m, by simpa using hown9, L0 (by have := HN.o; rw [L0i]; simp only [L0r, L0v]; omega), HI', HB9.o⟩
    simp [lenV]; omega
   have HK' := L0 (HST.o.trans (if_neg (by simp)))
   go_wp2_with (go_at_call 63; (with_reducible refine (Z52 W3 (HO3.o.rel (by decide)) qc.out).mono ?_); rintro e w6 ⟨rfl, rfl⟩)
   go_roundw
   exact ⟨k + 1, by omega, by go_num, rfl, HK', HBQ⟩
   simp [intOf]; omega
  have HNX : Hid (Z3d b = none) := L0 (by
   rw [HI.o, Z76, HK.o, L0u (by omega)]; rfl)
  clear hF
  go_wp2
  go_ret2
  exact ⟨_, by rw [HNX.o]; rfl, by rw [HNX.o]; exact ⟨none, 0, rfl, L0g _, by decide, by simp, fun i x hx => by simp at hx⟩, hb0.trans (HBW.o.mono (L2b hs0))⟩
 have HQ : Hid (Z3d b = some out) := L0 (by
  have h0 := HN.o
  obtain rfl : n = 0 := by omega
  rw [HI.o]; rfl)
 have hil : ¬ (out.length : Int) < b.tabs.length := by omega
 clear hF
 go_wp2
 go_ret2
 have hrel := Rd.upup (hown.rel (by decide)) (L2b hs0)
 have hbl := hb0.trans (hb.mono (L2b hs0))
 rw [HQ.o]
 exact ⟨_, rfl, hrel, hbl⟩
