import Derived.Test.YtlopccnehgolnacGreatDoorGK25
namespace Go.Proofs.YtlopccnehgolnacGreatDoor
open Go.RowKit Rb
open Bool renaming and_false -> jA
open Rd renaming below -> jB
set_option maxRecDepth 100000
set_option maxHeartbeats 800000
def Z1z (rs : List Rl) (all : Bx) : List Bx := rs.flatMap fun r => if Z1i (Z1q r all) then [Z3a (Z1q r all)] else []
theorem Y22 {rs : List Rl} {all : Bx} {k : Nat} {r : Rl} (h : rs[k]? = some r) : Z1z (rs.take (k + 1)) all = Z1z (rs.take k) all ++ (if Z1i (Z1q r all) then [Z3a (Z1q r all)] else []) := by
 unfold Z1z
 rw [Z0c h, L4r]
 simp
theorem Z89 (all : Bx) : ∀ rs : List Rl, (Z1z rs all).length <= rs.length
 | [] => by simp [Z1z]
 | r :: rs => by
  have := Z89 all rs
  have e : Z1z (r :: rs) all = (if Z1i (Z1q r all) then [Z3a (Z1q r all)] else []) ++ Z1z rs all := rfl
  rw [e, L0i, L0r]
  split <;> simp <;> omega
theorem Y8j {S T : Nat -> Prop} {cs : List Value} {t : Tb} {u : Value} {all : Bx} (w : World) (hl : rTb.rel w S cs t) (hm : rBx.rel w T [u] all) (h6 : t.rules.length <= 6) :
  Calls Tryz.prog 123 #[.agg cs.toArray, u] w fun e w' => ∃ z S', e = .returned z /\ (rSl rBx).rel w' S' [z] (Z1z t.rules all) /\ Bw w w' := by
 obtain ⟨vi, vr, rfl, hnm, hp, hi, hr⟩ := hl
 obtain ⟨A, c, rfl, hi1, hi2, hi3, hE⟩ := rSl.elems hi
 obtain ⟨B, d, rfl, hr1, hr2, hr3, hF⟩ := rSl.elems hr
 obtain ⟨C, g, rfl, _⟩ := rSl.elems hm
 have HALL := L0 (show rBx.rel w (fun b => T b /\ b < w.heap.size) _ _ from rBx.mono hm fun b h h' => ⟨h, h'⟩)
 obtain ⟨W0, e0, hb0, c4, hs0⟩ : ∃ W0, w.alloc (.cells #[sq t.name, .int .i64 t.pol, .bool t.comp, .slice A t.ins.length c, .slice B t.rules.length d] 66) = W0 /\ Bw w W0 /\
   W0.cell? (zn w.heap.size 4) = some (.slice B t.rules.length d) /\ w.heap.size < W0.heap.size :=
  ⟨_, rfl, (L0m _ _).alloc (L0g _) _, L0b _ _ _ _, by simp⟩
 clear hi hr hE hi3 hr3 hm
 go_enter Tryz.func123, Tryz.ntmps123
 go_wp2
 clear e0 c4
 go_loopw [5, 13] (fun o i wr => ∃ (k : Nat) (out : List Bx), k <= t.rules.length /\ i = .int .i64 k /\ Own rBx 163 wr w.heap.size (fun b => T b /\ b < w.heap.size) o out /\ Hid (out = Z1z (t.rules.take k) all) /\ Hid (out.length <= k) /\ Bw w wr) (fun _ i _ => t.rules.length - (intOf i).toNat)
 exact ⟨0, [], L0o _, rfl, Own.nil _ _ _ _ _, L0 (by simp [Z1z]), L0 (by simp), hb0⟩
 clear hb0
 obtain ⟨k, out, hk, rfl, hown, HO, HOL, hb⟩ := hrel
 by_cases hlt : k < t.rules.length
 ·obtain ⟨bA, off, r, q, rfl, _, hbA, hx, hri, hq, g1, g2⟩ := hF.rl hlt
  rw [<- hb.ce _ hbA] at g1 g2
  have hik : (k : Int) < t.rules.length := by omega
  have HT := L0 (Y22 (all := all) hx)
  obtain ⟨A2, l2, rfl, _⟩ := rSl.elems hq
  have HQ := L0 hq
  obtain ⟨W1, e1, hown1, hb1, d0, d1⟩ : ∃ W1, wr.alloc (.cells #[.slice A2 r.cells.length l2, .int .i64 r.out] 69) = W1 /\ Own rBx 163 W1 w.heap.size (fun b => T b /\ b < w.heap.size) u5 out /\ Bw w W1 /\
    W1.cell? (zn wr.heap.size 0) = some (.slice A2 r.cells.length l2) /\ W1.cell? (zn wr.heap.size 1) = some (.int .i64 r.out) :=
   ⟨_, rfl, hown.alloc _, hb.alloc hb.size _, L0b _ _ _ _, L0b _ _ _ _⟩
  clear hown hq hx
  have HQ1 := L0 (jB HQ.o hb1)
  have HALL1 := L0 (jB HALL.o hb1)
  have HLT := L0 hown1.lt
  generalize har : Z1q r all = ar at *
  have HAR := L0 har
  clear har
  cases ar with
  | none =>
   have HT' : Hid (Z1z (t.rules.take (k + 1)) all = out) := L0 (by rw [HT.o, HO.o]; simp [Z1i])
   go_wp2_with (go_at_call 119; (with_reducible refine (Z84 W1 HQ1.o HALL1.o HAR.o).mono ?_); rintro e w4 ⟨z9, rfl, hb4⟩)
   go_roundw
   exact ⟨k + 1, out, by omega, by go_num, hown1.below hb4, L0 HT'.o.symm, L0 (by have := HOL.o; omega), hb1.trans (hb4.mono hb1.size)⟩
   simp [intOf]; omega
  | some a =>
   have HT' : Hid (Z1z (t.rules.take (k + 1)) all = out ++ [a]) := L0 (by rw [HT.o, HO.o]; rfl)
   have HUP : Hid (∀ w4, Bw W1 w4 -> ∀ b, Up (fun b => T b /\ b < w.heap.size) W1.heap.size b -> Up (fun b => T b /\ b < w.heap.size) w.heap.size b /\ u5.ownBlock ≠ some b) := L0 (by
    rintro w4 h4 b (h | h)
    ·exact ⟨.inl h, fun e => by have := HLT.o _ e; have := h.2; omega⟩
    exact ⟨.inr (L0h hb1.size h), fun e => by have := HLT.o _ e; omega⟩)
   have HBY : Hid ((out.length + 1) * rBx.bytes <= 140737488355328) := L0 (by have := HOL.o; show (_ + _) * 24 <= _; omega)
   go_wp2_with (first | (go_at_call 119; (with_reducible refine (Z3l W1 HQ1.o HALL1.o HAR.o).mono ?_); rintro e w4 ⟨z9, rfl, how4, hb4⟩; obtain ⟨A9, l9, rfl⟩ := how4.value; have hbx := hb1.trans (hb4.mono hb1.size)) | (at_builtin; refine Z0a (R := rBx) (x := a) Y3i rfl (.tmp 24) (.tmp 26) rfl rfl (hown1.below hb4) [.slice A9 a.length l9] rfl rfl (Up (fun b => T b /\ b < w.heap.size) W1.heap.size) (how4.rel (by decide)) (fun b h _ => HUP.o w4 hb4 b h) HBY.o hbx.size ?_; intro v9 w9 hown9 hb9 _ _))
   go_roundw
   exact ⟨k + 1, out ++ [a], by omega, by go_num, hown9, L0 HT'.o.symm, L0 (by have := HOL.o; rw [L0i]; simp only [L0r, L0v]; omega), hbx.trans hb9⟩
   simp [intOf]; omega
 have HQ : Hid (Z1z t.rules all = out) := L0 (by rw [HO.o, L0l (by omega)])
 obtain ⟨A9, l9, rfl⟩ := hown.value
 go_wp2
 go_ret
 exact ⟨_, _, rfl, by rw [HQ.o]; exact hown.rel (by decide), hb⟩
theorem Z88 {S : Nat -> Prop} {cs : List Value} {t : Tb} {r : Bool} (w : World) (hl : rTb.rel w S cs t) (h : Z0s t = r) :
  Calls Tryz.prog 79 #[.agg cs.toArray] w fun e w' => e = .returned (.bool r) /\ Bw w w' := h ▸ Z6w w hl
def gapB (t : Tb) (all : Bx) : List Bx := if Z0s t && Z06 all (t.ins.length : Int) && !decide (t.pol = 7) then Y2h all (Z1z t.rules all) else []
theorem X0s {S T : Nat -> Prop} {cs : List Value} {t : Tb} {u : Value} {all : Bx} {L : List Bx} (w : World) (hl : rTb.rel w S cs t) (hm : rBx.rel w T [u] all) (h6 : t.rules.length <= 6) (h : Z1z t.rules all = L) :
  Calls Tryz.prog 123 #[.agg cs.toArray, u] w fun e w' => ∃ z S', e = .returned z /\ (rSl rBx).rel w' S' [z] L /\ Bw w w' := h ▸ Y8j w hl hm h6
theorem X2w {S T : Nat -> Prop} {cs : List Value} {t : Tb} {u : Value} {all : Bx} (w : World) (hl : rTb.rel w S cs t) (hm : rBx.rel w T [u] all) :
  Calls Tryz.prog 98 #[.agg cs.toArray, u] w fun e w' => ∃ z S', e = .returned (.tuple #[z, .bool (decide (0 < (gapB t all).length))]) /\ (rSl rInt).rel w' (New w S') [z] (Z2b (gapB t all)) /\ Bw w w' := by
 have hl' := hl
 obtain ⟨vi, vr, rfl, hnm, hp, hi, hr⟩ := hl
 obtain ⟨A, c, rfl, _⟩ := rSl.elems hi
 obtain ⟨B, d, rfl, _⟩ := rSl.elems hr
 obtain ⟨C, g, rfl, _⟩ := rSl.elems hm
 obtain ⟨W0, e0, hb0, c0, c1, c2, c3, c4, hs0, HT, HA⟩ : ∃ W0, w.alloc (.cells #[sq t.name, .int .i64 t.pol, .bool t.comp, .slice A t.ins.length c, .slice B t.rules.length d] 66) = W0 /\ Bw w W0 /\
   W0.cell? (zn w.heap.size 0) = some (sq t.name) /\ W0.cell? (zn w.heap.size 1) = some (.int .i64 t.pol) /\ W0.cell? (zn w.heap.size 2) = some (.bool t.comp) /\ W0.cell? (zn w.heap.size 3) = some (.slice A t.ins.length c) /\ W0.cell? (zn w.heap.size 4) = some (.slice B t.rules.length d) /\ w.heap.size < W0.heap.size /\
   Hid (rTb.rel W0 S [sq t.name, .int .i64 t.pol, .bool t.comp, .slice A t.ins.length c, .slice B t.rules.length d] t) /\ Hid (rBx.rel W0 T [.slice C all.length g] all) :=
  ⟨_, rfl, (L0m _ _).alloc (L0g _) _, L0b _ _ _ _, L0b _ _ _ _, L0b _ _ _ _, L0b _ _ _ _, L0b _ _ _ _, by simp, L0 (Rd.alloc hl' _), L0 (Rd.alloc hm _)⟩
 have HBW := L0 hb0
 have HSZ := L0 hs0
 clear hl' hi hr hm hb0 hs0 hnm hp
 cases hgt : Z0s t
 ·have qg := L0 hgt
  have HF : Hid (gapB t all = []) := L0 (by unfold gapB; rw [hgt]; rfl)
  clear hgt
  go_enter Tryz.func98, Tryz.ntmps98
  go_wp2_with (go_at_call 79; (with_reducible refine (Z88 _ HT.o qg.out).mono ?_); rintro e w1 ⟨rfl, hb1⟩; replace c0 := (hb1.ce 0 HSZ.o).trans c0; replace c1 := (hb1.ce 1 HSZ.o).trans c1; replace c2 := (hb1.ce 2 HSZ.o).trans c2; replace c3 := (hb1.ce 3 HSZ.o).trans c3; replace c4 := (hb1.ce 4 HSZ.o).trans c4; (try replace HT := L0 (jB HT.o hb1)); (try replace HA := L0 (jB HA.o hb1)); (try replace HL := L0 (jB HL.o hb1)); (try replace HG := L0 (jB HG.o hb1)); (try replace HP := L0 (jB HP.o hb1)); replace HBW := L0 (HBW.o.trans (hb1.mono HBW.o.size)); replace HSZ := L0 (L0c HSZ.o hb1.size); clear hb1)
  go_ret2
  exact ⟨_, fun _ => True, by rw [HF.o]; rfl, by rw [HF.o]; exact Z01 _ _, HBW.o⟩
 have qg := L0 hgt
 have hr6 := (Z00 hgt).2.2.2.2.2
 cases hgb : Z06 all (t.ins.length : Int)
 ·have qb := L0 hgb
  have HF : Hid (gapB t all = []) := L0 (by unfold gapB; rw [hgb, jA]; rfl)
  clear hgt hgb
  go_enter Tryz.func98, Tryz.ntmps98
  go_wp2_with (first | (go_at_call 79; (with_reducible refine (Z88 _ HT.o qg.out).mono ?_); rintro e w1 ⟨rfl, hb1⟩; replace c0 := (hb1.ce 0 HSZ.o).trans c0; replace c1 := (hb1.ce 1 HSZ.o).trans c1; replace c2 := (hb1.ce 2 HSZ.o).trans c2; replace c3 := (hb1.ce 3 HSZ.o).trans c3; replace c4 := (hb1.ce 4 HSZ.o).trans c4; (try replace HT := L0 (jB HT.o hb1)); (try replace HA := L0 (jB HA.o hb1)); (try replace HL := L0 (jB HL.o hb1)); (try replace HG := L0 (jB HG.o hb1)); (try replace HP := L0 (jB HP.o hb1)); replace HBW := L0 (HBW.o.trans (hb1.mono HBW.o.size)); replace HSZ := L0 (L0c HSZ.o hb1.size); clear hb1) | (go_at_call 118; (with_reducible refine (Z5i _ HA.o qb.out).mono ?_); rintro e w1 ⟨rfl, hb1⟩; replace c0 := (hb1.ce 0 HSZ.o).trans c0; replace c1 := (hb1.ce 1 HSZ.o).trans c1; replace c2 := (hb1.ce 2 HSZ.o).trans c2; replace c3 := (hb1.ce 3 HSZ.o).trans c3; replace c4 := (hb1.ce 4 HSZ.o).trans c4; (try replace HT := L0 (jB HT.o hb1)); (try replace HA := L0 (jB HA.o hb1)); (try replace HL := L0 (jB HL.o hb1)); (try replace HG := L0 (jB HG.o hb1)); (try replace HP := L0 (jB HP.o hb1)); replace HBW := L0 (HBW.o.trans (hb1.mono HBW.o.size)); replace HSZ := L0 (L0c HSZ.o hb1.size); clear hb1))
  go_ret2
  exact ⟨_, fun _ => True, by rw [HF.o]; rfl, by rw [HF.o]; exact Z01 _ _, HBW.o⟩
 have qb := L0 hgb
 by_cases hp7 : t.pol = 7
 ·have HF : Hid (gapB t all = []) := L0 (by unfold gapB; rw [decide_eq_true hp7, Bool.not_true, jA]; rfl)
  have hq7 : (t.pol == 7) = true := by rw [beq_iff_eq]; exact hp7
  clear hgt hgb hp7
  go_enter Tryz.func98, Tryz.ntmps98
  go_wp2_with (first | (go_at_call 79; (with_reducible refine (Z88 _ HT.o qg.out).mono ?_); rintro e w1 ⟨rfl, hb1⟩; replace c0 := (hb1.ce 0 HSZ.o).trans c0; replace c1 := (hb1.ce 1 HSZ.o).trans c1; replace c2 := (hb1.ce 2 HSZ.o).trans c2; replace c3 := (hb1.ce 3 HSZ.o).trans c3; replace c4 := (hb1.ce 4 HSZ.o).trans c4; (try replace HT := L0 (jB HT.o hb1)); (try replace HA := L0 (jB HA.o hb1)); (try replace HL := L0 (jB HL.o hb1)); (try replace HG := L0 (jB HG.o hb1)); (try replace HP := L0 (jB HP.o hb1)); replace HBW := L0 (HBW.o.trans (hb1.mono HBW.o.size)); replace HSZ := L0 (L0c HSZ.o hb1.size); clear hb1) | (go_at_call 118; (with_reducible refine (Z5i _ HA.o qb.out).mono ?_); rintro e w1 ⟨rfl, hb1⟩; replace c0 := (hb1.ce 0 HSZ.o).trans c0; replace c1 := (hb1.ce 1 HSZ.o).trans c1; replace c2 := (hb1.ce 2 HSZ.o).trans c2; replace c3 := (hb1.ce 3 HSZ.o).trans c3; replace c4 := (hb1.ce 4 HSZ.o).trans c4; (try replace HT := L0 (jB HT.o hb1)); (try replace HA := L0 (jB HA.o hb1)); (try replace HL := L0 (jB HL.o hb1)); (try replace HG := L0 (jB HG.o hb1)); (try replace HP := L0 (jB HP.o hb1)); replace HBW := L0 (HBW.o.trans (hb1.mono HBW.o.size)); replace HSZ := L0 (L0c HSZ.o hb1.size); clear hb1))
  go_ret2
  exact ⟨_, fun _ => True, by rw [HF.o]; rfl, by rw [HF.o]; exact Z01 _ _, HBW.o⟩
 have hq7 : (t.pol == 7) = false := by rw [beq_eq_false_iff_ne]; exact hp7
 obtain ⟨L, hL⟩ : ∃ L, Z1z t.rules all = L := ⟨_, rfl⟩
 have hL6 : L.length <= 6 := by rw [<- hL]; exact L0h (Z89 all t.rules) hr6
 obtain ⟨G, hG⟩ : ∃ G, Y2h all L = G := ⟨_, rfl⟩
 have HF : Hid (gapB t all = G) := L0 (by unfold gapB; rw [hgt, hgb, decide_eq_false hp7, hL, hG]; rfl)
 have qL := L0 hL
 have qG := L0 hG
 clear hgt hgb hp7 hL hG
 go_enter Tryz.func98, Tryz.ntmps98
 go_wp2_with (first | (go_at_call 79; (with_reducible refine (Z88 _ HT.o qg.out).mono ?_); rintro e w1 ⟨rfl, hb1⟩; replace c0 := (hb1.ce 0 HSZ.o).trans c0; replace c1 := (hb1.ce 1 HSZ.o).trans c1; replace c2 := (hb1.ce 2 HSZ.o).trans c2; replace c3 := (hb1.ce 3 HSZ.o).trans c3; replace c4 := (hb1.ce 4 HSZ.o).trans c4; (try replace HT := L0 (jB HT.o hb1)); (try replace HA := L0 (jB HA.o hb1)); (try replace HL := L0 (jB HL.o hb1)); (try replace HG := L0 (jB HG.o hb1)); (try replace HP := L0 (jB HP.o hb1)); replace HBW := L0 (HBW.o.trans (hb1.mono HBW.o.size)); replace HSZ := L0 (L0c HSZ.o hb1.size); clear hb1) | (go_at_call 118; (with_reducible refine (Z5i _ HA.o qb.out).mono ?_); rintro e w1 ⟨rfl, hb1⟩; replace c0 := (hb1.ce 0 HSZ.o).trans c0; replace c1 := (hb1.ce 1 HSZ.o).trans c1; replace c2 := (hb1.ce 2 HSZ.o).trans c2; replace c3 := (hb1.ce 3 HSZ.o).trans c3; replace c4 := (hb1.ce 4 HSZ.o).trans c4; (try replace HT := L0 (jB HT.o hb1)); (try replace HA := L0 (jB HA.o hb1)); (try replace HL := L0 (jB HL.o hb1)); (try replace HG := L0 (jB HG.o hb1)); (try replace HP := L0 (jB HP.o hb1)); replace HBW := L0 (HBW.o.trans (hb1.mono HBW.o.size)); replace HSZ := L0 (L0c HSZ.o hb1.size); clear hb1) | (go_at_call 123; (with_reducible refine (X0s _ HT.o HA.o hr6 qL.out).mono ?_); rintro e w1 ⟨zp, SP, rfl, hzp, hb1⟩; obtain ⟨AAHL, llHL, rfl, _⟩ := rSl.elems hzp; have HL := L0 hzp; clear hzp; replace c0 := (hb1.ce 0 HSZ.o).trans c0; replace c1 := (hb1.ce 1 HSZ.o).trans c1; replace c2 := (hb1.ce 2 HSZ.o).trans c2; replace c3 := (hb1.ce 3 HSZ.o).trans c3; replace c4 := (hb1.ce 4 HSZ.o).trans c4; (try replace HT := L0 (jB HT.o hb1)); (try replace HA := L0 (jB HA.o hb1)); (try replace HG := L0 (jB HG.o hb1)); (try replace HP := L0 (jB HP.o hb1)); replace HBW := L0 (HBW.o.trans (hb1.mono HBW.o.size)); replace HSZ := L0 (L0c HSZ.o hb1.size); clear hb1) | (go_at_call 122; (with_reducible refine (X22 _ HA.o HL.o hL6 qG.out).mono ?_); rintro e w1 ⟨zp, SP, rfl, hzp, hb1⟩; obtain ⟨AAHG, llHG, rfl, _⟩ := rSl.elems hzp; have HG := L0 hzp; clear hzp; replace c0 := (hb1.ce 0 HSZ.o).trans c0; replace c1 := (hb1.ce 1 HSZ.o).trans c1; replace c2 := (hb1.ce 2 HSZ.o).trans c2; replace c3 := (hb1.ce 3 HSZ.o).trans c3; replace c4 := (hb1.ce 4 HSZ.o).trans c4; (try replace HT := L0 (jB HT.o hb1)); (try replace HA := L0 (jB HA.o hb1)); (try replace HL := L0 (jB HL.o hb1)); (try replace HP := L0 (jB HP.o hb1)); replace HBW := L0 (HBW.o.trans (hb1.mono HBW.o.size)); replace HSZ := L0 (L0c HSZ.o hb1.size); clear hb1) | (go_at_call 121; (with_reducible refine (Y3w _ HG.o).mono ?_); rintro e w1 ⟨zp, SP, rfl, hzp, hb1⟩; replace hzp := Y6e hzp HBW.o.size; obtain ⟨AAHP, llHP, rfl, _⟩ := rSl.elems hzp; have HP := L0 hzp; clear hzp; replace c0 := (hb1.ce 0 HSZ.o).trans c0; replace c1 := (hb1.ce 1 HSZ.o).trans c1; replace c2 := (hb1.ce 2 HSZ.o).trans c2; replace c3 := (hb1.ce 3 HSZ.o).trans c3; replace c4 := (hb1.ce 4 HSZ.o).trans c4; (try replace HT := L0 (jB HT.o hb1)); (try replace HA := L0 (jB HA.o hb1)); (try replace HL := L0 (jB HL.o hb1)); (try replace HG := L0 (jB HG.o hb1)); replace HBW := L0 (HBW.o.trans (hb1.mono HBW.o.size)); replace HSZ := L0 (L0c HSZ.o hb1.size); clear hb1))
 go_ret2
 exact ⟨_, _, by rw [HF.o]; rfl, by rw [HF.o]; exact HP.o, HBW.o⟩
