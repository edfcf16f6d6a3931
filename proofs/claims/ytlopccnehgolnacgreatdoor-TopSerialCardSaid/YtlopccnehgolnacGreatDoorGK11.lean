import Derived.Test.YtlopccnehgolnacGreatDoorTabA
import Derived.Deep.DeepMust
import Derived.Test.YtlopccnehgolnacGreatDoorGK8
import Derived.Test.YtlopccnehgolnacGreatDoorGK0
namespace Go.Proofs.YtlopccnehgolnacGreatDoor
open Go.RowKit Rb
open List renaming all_eq_false -> jA
open Rd renaming below -> jB
set_option maxRecDepth 100000
set_option maxHeartbeats 1000000
theorem Y28 {cs : List Cl} {ns : List Int} {k : Nat} {c : Cl} {n : Int} (hc : cs[k]? = some c) (hn : ns[k]? = some n) :
  Z1l (cs.drop k) (ns.drop k) = (Z5m c n && Z1l (cs.drop (k + 1)) (ns.drop (k + 1))) := by
 rw [Z0p hc, Z0p hn]; rfl
theorem Y4p {S T : Nat -> Prop} {v u : Value} {x0 x1 x2 x3 : Value} {rs : List Rl} {ns : List Int} (w : World) (hr : (rSl rRl).rel w S [v] rs) (hn : (rSl rInt).rel w T [u] ns) :
  Calls Tryz.prog 138 #[.agg #[x0, x1, x2, x3, v], u] w fun e w' => ∃ z, e = .returned z /\ Own rInt 3 w' w.heap.size (fun _ => False) z (Z3i rs ns) /\ Bw w w' := by
 obtain ⟨A, c, rfl, _, _, hl, hE⟩ := rSl.elems hr
 obtain ⟨B, d, rfl, _, _, hm, hF⟩ := rSl.elems hn
 have hl' : rs.length <= 4398046511104 := by simp only [rRl] at hl; omega
 have hm' : ns.length <= 17592186044416 := by simp only [rInt] at hm; omega
 have hb0 := (L0m w.heap.size w).alloc (L0g _) (.cells #[x0, x1, x2, x3, .slice A rs.length c] 66)
 clear hr hn hl hm
 go_enter Tryz.func138, Tryz.ntmps138
 go_wp2
 go_loopw [5, 13] (fun o i wr => ∃ k : Nat, k <= rs.length /\ i = .int .i64 k /\ Own rInt 3 wr w.heap.size (fun _ => False) o (Z1v rs ns k) /\ Bw w wr) (fun _ i _ => rs.length - (intOf i).toNat)
 exact ⟨0, L0o _, rfl, Own.nil _ _ _ _ _, hb0⟩
 obtain ⟨k, hk, rfl, hown, hbl⟩ := hrel
 by_cases hlt : k < rs.length
 ·obtain ⟨b, off, r, q, rfl, _, hb, hx, _, hq, h1, h2⟩ := hE.rl hlt
  rw [<- hbl.ce _ hb] at h1 h2
  have hq' := jB hq hbl
  obtain ⟨A2, c2, rfl, _, _, hl2, hE2⟩ := rSl.elems hq'
  have hF' := hF.keep (Keeps.of_below hbl)
  have hsucc := Y0j rs ns k
  have hh : Z9p rs ns k = Z26 r ns := by unfold Z9p; rw [hx]
  rw [hh] at hsucc
  have HS := L0 hsucc
  have hol := Z42 rs ns k
  generalize Z1v rs ns k = out at *
  have hd0 : Z26 r ns = (decide (r.cells.length = ns.length) && Z1l (r.cells.drop 0) (ns.drop 0)) := by
   unfold Z26
   rw [L3h, L3h]
   cases h : Z1l r.cells ns
   ·simp
   rw [Z61 h]; simp
  have hi : (k : Int) < rs.length := by omega
  clear hsucc hh hx hq hq' hE
  obtain ⟨W1, e1, hown1, hb1, hE3, hF3, c0, hs1⟩ : ∃ W1, wr.alloc (.cells #[.slice A2 r.cells.length c2, .int .i64 r.out] 69) = W1 /\ Own rInt 3 W1 w.heap.size (fun _ => False) u5 out /\ Bw w W1 /\
    Elems rCl W1 S A2 r.cells /\ Elems rInt W1 T B ns /\ W1.cell? (zn wr.heap.size 0) = some (.slice A2 r.cells.length c2) /\ wr.heap.size < W1.heap.size :=
   ⟨_, rfl, hown.alloc _, hbl.alloc hbl.size _, hE2.keep (.alloc _), hF'.keep (.alloc _), L0b _ _ _ _, by simp⟩
  clear hown hF' hE2 hF
  have hdec : ((r.cells.length : Int) == (ns.length : Int)) = decide (r.cells.length = ns.length) := by
   rw [L3t, beq_iff_eq, decide_eq_true_iff]; omega
  go_wp2
  clear e1 hdec h1 h2
  try unfold Bw at *
  generalize wr.heap.size = q at *
  go_loopw [8, 9] (fun b i wi => ∃ (j : Nat) (ok : Bool), j <= ns.length /\ i = .int .i64 j /\ b = .bool ok /\ Hid (Z26 r ns = (ok && Z1l (r.cells.drop j) (ns.drop j))) /\ (ok = true -> r.cells.length = ns.length) /\ Bw W1 wi) (fun _ i _ => ns.length - (intOf i).toNat)
  exact ⟨0, _, L0o _, rfl, rfl, L0 hd0, fun h => of_decide_eq_true h, L0m _ _⟩
  obtain ⟨j, ok, hj, rfl, rfl, HJ, hok, hbi⟩ := hrel
  cases ok
  ·have HJ' : Hid (Z26 r ns = false) := L0 (by rw [HJ.o]; rfl)
   clear HJ hok hd0
   have HS' : Hid (Z1v rs ns (k + 1) = out) := L0 (by rw [HS.o, HJ'.o]; simp)
   go_wp2
   go_roundw
   exact ⟨k + 1, by omega, by go_num, by rw [HS'.o]; exact hown1.below hbi, hb1.trans (hbi.mono hb1.size)⟩
   simp [intOf]; omega
  have hlen := hok rfl
  have HL := L0 hlen
  by_cases hlj : j < ns.length
  ·obtain ⟨b1, off1, cl, q1, rfl, _, hb2, hx1, hq1, g1, g2⟩ := hE3.cl (show j < r.cells.length by omega)
   obtain ⟨b3, off3, n, rfl, _, hb4, hx3, _, g3⟩ := hF3.intAt hlj
   rw [<- hbi.ce _ hb2] at g1 g2
   rw [<- hbi.ce _ hb4] at g3
   have g0 := c0
   rw [<- hbi.ce _ hs1] at g0
   have hq2 := jB hq1 hbi
   have HC := L0 fun w' hb => Y74 n w' (jB hq2 hb)
   have HN : Hid (Z26 r ns = (Z5m cl n && Z1l (r.cells.drop (j + 1)) (ns.drop (j + 1)))) := L0 (by
    rw [HJ.o, Bool.true_and]; exact Y28 hx1 hx3)
   obtain ⟨A5, c5, rfl, _⟩ := rSl.elems hq1
   have hbb1 : b1 < wr.heap.size := L0c hb2 hbi.size
   have hbb3 : b3 < wr.heap.size := L0c hb4 hbi.size
   have hbb0 : q < wr.heap.size := L0c hs1 hbi.size
   have hj1 : (j : Int) < r.cells.length := by omega
   have hj2 : (j : Int) < ns.length := by omega
   clear HJ hok hlen hd0 hx1 hx3 hq1 hq2 hE3 hF3 c0
   go_wp2
   refine wp_region_quiet_below (by kernel_rfl) (by kernel_rfl) ?_
   repeat (go_big_quiet_step (exact Calls.inBelow HC.o _ _))
   refine wpQuiet_nil ?_
   intro _ hw'
   obtain ⟨⟨dq, osq⟩, hw''⟩ := hw'
   subst hw''
   go_wp2
   go_roundw
   exact ⟨j + 1, _, by omega, by go_num, rfl, HN, fun _ => HL.o, hbi.trans ((below_regrown _ _ _).mono hbi.size)⟩
   simp [intOf]; omega
  have HJ' : Hid (Z26 r ns = true) := L0 (by
   rw [HJ.o, L0u (by omega), L0u (by omega)]; rfl)
  have HS' : Hid (Z1v rs ns (k + 1) = out ++ [(k : Int)]) := L0 (by rw [HS.o, HJ'.o]; simp)
  have hin : InI (k : Int) := by unfold InI; omega
  have hownS := hown1.below hbi
  have hbS := hb1.trans (hbi.mono hb1.size)
  clear HJ hok hlen hd0 HL hE3 hF3 c0 hown1
  go_wp2_with (at_builtin; refine Z0a (R := rInt) (x := (k : Int)) el_I rfl (.tmp 44) (.tmp 46) rfl rfl hownS [.int .i64 k] rfl rfl (fun _ => False) ⟨rfl, hin⟩ (fun _ h => h.elim) ?_ hbS.size ?_; (((try simp only [rInt]) <;> omega)); intro v9 w9 hown9 hb9 _ _)
  go_roundw
  exact ⟨k + 1, by omega, by go_num, by rw [HS'.o]; exact hown9, hbS.trans hb9⟩
  simp [intOf]; omega
 obtain ⟨z1, z2, rfl⟩ := hown.value
 go_wp2
 go_ret
 refine ⟨_, rfl, ?_, hbl⟩
 have : k = rs.length := by omega
 subst this
 exact hown
theorem rSl.take {α : Type} {R : Rd α} {w : World} {S : Nat -> Prop} {A : Option Addr} {n c : Nat} {l : List α} (h : (rSl R).rel w S [.slice A n c] l) (k : Nat) (hk : k <= l.length) : (rSl R).rel w S [.slice A k c] (l.take k) := by
 obtain ⟨A', c', hv, h1, h2, h3, h4⟩ := h
 simp only [L1f, and_true] at hv
 injection hv with e1 e2 e3
 subst e1; subst e3
 have hl : (l.take k).length = k := by rw [L1i]; omega
 refine ⟨A, c, by rw [hl], by omega, h2, L0h (L1c _ (by omega)) h3, fun i x hx => h4 i x ?_⟩
 rw [L3a] at hx
 split at hx
 ·exact hx
 cases hx
theorem Y5y {α : Type} {p : α -> Bool} {l : List α} {k : Nat} {x : α} (h : l[k]? = some x) : (l.take (k + 1)).all p = ((l.take k).all p && p x) := by
 rw [Z0c h]; simp
theorem X2a {α : Type} {p : α -> Bool} {l : List α} {k : Nat} {x : α} (h : l[k]? = some x) (hp : p x = false) : l.all p = false := by
 rw [jA]
 exact ⟨x, L0z h, by simp [hp]⟩
theorem Y65 {l : List Txt} {k : Nat} {s : Txt} (h : l[k]? = some s) : Z2x (l.take k) (l.drop k) = (Z1e s && !(l.take k).contains s && Z2x (l.take (k + 1)) (l.drop (k + 1))) := by
 rw [Z0p h, Z2x, Z0c h]
theorem X3h {t : Tb} (h : Z32 t = false) (hn : Z1e t.name = true) : t.pol < 1 \/ 7 < t.pol \/ (t.ins.length : Int) < 1 \/ 3 < (t.ins.length : Int) \/ (t.rules.length : Int) < 1 \/ 6 < (t.rules.length : Int) := by
 unfold Z32 at h
 rw [hn] at h
 by_cases h1 : t.pol < 1
 ·exact .inl h1
 by_cases h2 : 7 < t.pol
 ·exact .inr (.inl h2)
 simp only [Bool.true_and, Bool.and_eq_false_iff, decide_eq_false_iff_not] at h
 omega
theorem Z68 {t : Tb} (h : Z32 t = true) : Z1e t.name = true /\ 1 <= t.pol /\ t.pol <= 7 /\ 1 <= t.ins.length /\ t.ins.length <= 3 /\ 1 <= t.rules.length /\ t.rules.length <= 6 := by
 unfold Z32 at h
 simp only [L0t, decide_eq_true_iff] at h
 exact ⟨h.1.1.1.1.1.1, h.1.1.1.1.1.2, h.1.1.1.1.2, h.1.1.1.2, h.1.1.2, h.1.2, h.2⟩
theorem Z6k {s : Txt} {b : Bool} (h : Z1e s = b) (w : World) (hs : s.length <= 140737488355328) : Calls Tryz.prog 33 #[sq s] w fun e w' => e = .returned (.bool b) /\ w = w' := h ▸ Z4j s w hs
theorem Z6w {S : Nat -> Prop} {cs : List Value} {t : Tb} (w : World) (hl : rTb.rel w S cs t) :
  Calls Tryz.prog 79 #[.agg cs.toArray] w fun e w' => e = .returned (.bool (Z0s t)) /\ Bw w w' := by
 obtain ⟨vi, vr, rfl, hnm, hp, hi, hr⟩ := hl
 obtain ⟨A, c, rfl, hi1, hi2, hi3, hE⟩ := rSl.elems hi
 obtain ⟨B, d, rfl, hr1, hr2, hr3, hF⟩ := rSl.elems hr
 have hT : Z0s t = (Z32 t && Z2x [] t.ins && t.rules.all (Z0o t.ins.length)) := rfl
 have HT := L0 hT
 obtain ⟨W0, e0, hb0, hi', hE', hF', c3, c4, hs0⟩ : ∃ W0, w.alloc (.cells #[sq t.name, .int .i64 t.pol, .bool t.comp, .slice A t.ins.length c, .slice B t.rules.length d] 66) = W0 /\ Bw w W0 /\
   (rSl rStr).rel W0 S [.slice A t.ins.length c] t.ins /\ Elems rStr W0 S A t.ins /\ Elems rRl W0 S B t.rules /\ W0.cell? (zn w.heap.size 3) = some (.slice A t.ins.length c) /\ W0.cell? (zn w.heap.size 4) = some (.slice B t.rules.length d) /\ w.heap.size < W0.heap.size :=
  ⟨_, rfl, (L0m _ _).alloc (L0g _) _, Rd.alloc hi _, hE.keep (.alloc _), hF.keep (.alloc _), L0b _ _ _ _, L0b _ _ _ _, by simp⟩
 have c0 : W0.cell? (zn w.heap.size 0) = some (sq t.name) := by rw [<- e0]; exact L0b _ _ _ _
 have c1 : W0.cell? (zn w.heap.size 1) = some (.int .i64 t.pol) := by rw [<- e0]; exact L0b _ _ _ _
 clear hi hr hE hF hT hi3 hr3
 cases hN : Z1e t.name
 ·have HN := L0 hN
  have HF : Hid (Z0s t = false) := L0 (by rw [HT.o, Z32, hN]; rfl)
  clear hN
  go_enter Tryz.func79, Tryz.ntmps79
  go_wp2_with (go_at_call 33; refine (Z6k HN.o _ hnm).mono ?_; rintro e w' ⟨rfl, rfl⟩)
  go_ret
  exact ⟨Z0m HF.o.symm, hb0⟩
 have HN := L0 hN
 cases hH : Z32 t
 ·have HF : Hid (Z0s t = false) := L0 (by rw [HT.o, hH]; rfl)
  have hx := X3h hH hN
  clear hN hH
  rcases hx with hx | hx | hx | hx | hx | hx
  all_goals
   go_enter Tryz.func79, Tryz.ntmps79
   go_wp2_with (go_at_call 33; refine (Z6k HN.o _ hnm).mono ?_; rintro e w' ⟨rfl, rfl⟩)
   all_goals
    go_ret
    exact ⟨Z0m HF.o.symm, hb0⟩
 obtain ⟨_, k1, k2, k3, k4, k5, k6⟩ := Z68 hH
 have k3' : (1 : Int) <= t.ins.length := by omega
 have k4' : (t.ins.length : Int) <= 3 := by omega
 have k5' : (1 : Int) <= t.rules.length := by omega
 have k6' : (t.rules.length : Int) <= 6 := by omega
 have HT2 : Hid (Z0s t = (Z2x [] t.ins && t.rules.all (Z0o t.ins.length))) := L0 (by rw [HT.o, hH]; simp)
 clear hN hH HT
 go_enter Tryz.func79, Tryz.ntmps79
 go_wp2_with (go_at_call 33; refine (Z6k HN.o _ hnm).mono ?_; rintro e w' ⟨rfl, rfl⟩)
 go_loop [50] (fun i => ∃ k : Nat, k <= t.ins.length /\ i = .int .i64 k /\ Hid (Z2x [] t.ins = Z2x (t.ins.take k) (t.ins.drop k))) (fun i => t.ins.length - (intOf i).toNat)
 exact ⟨0, L0o _, rfl, L0 rfl⟩
 obtain ⟨k, hk, rfl, HK⟩ := hrel
 by_cases hlt : k < t.ins.length
 ·obtain ⟨b, off, s, rfl, _, hb, hx, hsl, h1⟩ := hE'.str hlt
  have hik : (k : Int) < t.ins.length := by omega
  have HX := L0 hx
  have hsplit := Y65 hx
  have HC := L0 (Z22 s W0 (rSl.take hi' k hk))
  have HK2 := L0 (HK.o.trans hsplit)
  clear hsplit hx hE'
  cases hns : Z1e s
  ·have HNS := L0 hns
   have HF : Hid (Z0s t = false) := L0 (by rw [HT2.o, HK2.o, hns]; rfl)
   clear hns
   go_wp2_with (go_at_call 33; refine (Z6k HNS.o _ hsl).mono ?_; rintro e w' ⟨rfl, rfl⟩)
   go_ret
   exact ⟨Z0m HF.o.symm, hb0⟩
  have HNS := L0 hns
  rw [hns] at HK2
  cases hcs : (t.ins.take k).contains s
  ·have HK3 : Hid (Z2x [] t.ins = Z2x (t.ins.take (k + 1)) (t.ins.drop (k + 1))) := L0 (by rw [HK2.o, hcs]; rfl)
   rw [hcs] at HC
   clear hns hcs HK2 HK
   go_wp2_with (first | (go_at_call 33; refine (Z6k HNS.o _ hsl).mono ?_; rintro e w' ⟨rfl, rfl⟩) | (go_at_call 63; refine HC.o.mono ?_; rintro e w' ⟨rfl, rfl⟩))
   go_round
   exact ⟨k + 1, by omega, by go_num, HK3⟩
   simp [intOf]; omega
  have HF : Hid (Z0s t = false) := L0 (by rw [HT2.o, HK2.o, hcs]; rfl)
  rw [hcs] at HC
  clear hns hcs HK2 HK
  go_wp2_with (first | (go_at_call 33; refine (Z6k HNS.o _ hsl).mono ?_; rintro e w' ⟨rfl, rfl⟩) | (go_at_call 63; refine HC.o.mono ?_; rintro e w' ⟨rfl, rfl⟩))
  go_ret
  exact ⟨Z0m HF.o.symm, hb0⟩
 have HI : Hid (Z0s t = t.rules.all (Z0o t.ins.length)) := L0 (by
  rw [HT2.o, HK.o, L0u (by omega)]; rfl)
 clear HK HT2 hE' hi'
 go_wp2
 go_loopw [70] (fun i wr => ∃ k : Nat, k <= t.rules.length /\ i = .int .i64 k /\ Hid ((t.rules.take k).all (Z0o t.ins.length) = true) /\ Bw W0 wr) (fun i _ => t.rules.length - (intOf i).toNat)
 exact ⟨0, L0o _, rfl, L0 rfl, L0m _ _⟩
 obtain ⟨k, hk, rfl, HK, hbl⟩ := hrel
 by_cases hlt : k < t.rules.length
 ·obtain ⟨b, off, r, q, rfl, _, hb, hx, _, hq, h1, h2⟩ := hF'.rl hlt
  rw [<- hbl.ce _ hb] at h1 h2
  have hq' := jB hq hbl
  obtain ⟨A2, c2, rfl, _, _, hl2, hE2⟩ := rSl.elems hq'
  have hik : (k : Int) < t.rules.length := by omega
  have HX := L0 hx
  have g3 := c3
  rw [<- hbl.ce _ hs0] at g3
  have hl2' : r.cells.length <= 4398046511104 := by simp only [rCl] at hl2; omega
  have HF1 : Hid (Z0o t.ins.length r = false -> Z0s t = false) := L0 (fun h => by rw [HI.o, X2a hx h])
  have HS1 : Hid (Z0o t.ins.length r = true -> (t.rules.take (k + 1)).all (Z0o t.ins.length) = true) := L0 (fun h => by rw [Y5y hx, HK.o, h]; rfl)
  obtain ⟨W1, e1, hb1, hE3, d0, d1, d3, hs1⟩ : ∃ W1, wr.alloc (.cells #[.slice A2 r.cells.length c2, .int .i64 r.out] 69) = W1 /\ Bw W0 W1 /\
    Elems rCl W1 S A2 r.cells /\ W1.cell? (zn wr.heap.size 0) = some (.slice A2 r.cells.length c2) /\ W1.cell? (zn wr.heap.size 1) = some (.int .i64 r.out) /\ W1.cell? (zn w.heap.size 3) = some (.slice A t.ins.length c) /\ wr.heap.size < W1.heap.size :=
   ⟨_, rfl, hbl.alloc hbl.size _, hE2.keep (.alloc _), L0b _ _ _ _, L0b _ _ _ _, (L0j _ _ _ (L0d _ _ g3)).trans g3, by simp⟩
  have hbW := hb0.trans (hb1.mono hb0.size)
  clear hx hq hq' hE2 g3 hl2 HK
  cases hnr : Z0z r.out
  ·have HNR := L0 (Y0d r.out W1)
   rw [hnr] at HNR
   have HF : Hid (Z0s t = false) := L0 (HF1.o (by unfold Z0o; rw [hnr]; rfl))
   clear hnr
   go_wp2_with (go_at_call 107; refine HNR.o.mono ?_; rintro e w' ⟨rfl, rfl⟩)
   go_ret
   exact ⟨Z0m HF.o.symm, hbW⟩
  have HNR := L0 (Y0d r.out W1)
  rw [hnr] at HNR
  by_cases hlen : r.cells.length = t.ins.length
  ·have hne : ((r.cells.length : Int) != (t.ins.length : Int)) = false := by rw [bne_eq_false_iff_eq]; omega
   have HR : Hid (Z0o t.ins.length r = r.cells.all Z1f) := L0 (by unfold Z0o; rw [hnr, hlen]; simp)
   clear hnr hlen
   go_wp2_with (go_at_call 107; refine HNR.o.mono ?_; rintro e w' ⟨rfl, rfl⟩)
   clear e1 hne h1 h2 d1 d3
   try unfold Bw at *
   generalize wr.heap.size = p at *
   go_loopw [90] (fun i wr => ∃ j : Nat, j <= r.cells.length /\ i = .int .i64 j /\ Hid ((r.cells.take j).all Z1f = true) /\ Bw W1 wr) (fun i _ => r.cells.length - (intOf i).toNat)
   exact ⟨0, L0o _, rfl, L0 rfl, L0m _ _⟩
   obtain ⟨j, hj, rfl, HJ, hbi⟩ := hrel
   by_cases hlj : j < r.cells.length
   ·obtain ⟨b1, off1, cl, q1, rfl, _, hb2, hx1, hq1, g1, g2⟩ := hE3.cl hlj
    rw [<- hbi.ce _ hb2] at g1 g2
    have hj1 : (j : Int) < r.cells.length := by omega
    have hq2 := jB hq1 hbi
    obtain ⟨A5, c5, rfl, _, _, hl5, _⟩ := rSl.elems hq1
    have hl5' : cl.rs.length <= 8796093022208 := by simp only [rRg] at hl5; omega
    clear hl5
    have HF2 : Hid (Z1f cl = false -> Z0s t = false) := L0 (fun h => HF1.o (by rw [HR.o]; exact X2a hx1 h))
    have HS2 : Hid (Z1f cl = true -> (r.cells.take (j + 1)).all Z1f = true) := L0 (fun h => by rw [Y5y hx1, HJ.o, h]; rfl)
    generalize hm : cl.rs.length = m at *
    generalize hno : cl.no = no at *
    obtain ⟨W2, e2, hbj, hq3, f0, f1⟩ : ∃ W2, wr.alloc (.cells #[.bool no, .slice A5 m c5] 72) = W2 /\ Bw W1 W2 /\ (rSl rRg).rel W2 S [.slice A5 m c5] cl.rs /\
      W2.cell? (zn wr.heap.size 0) = some (.bool no) /\ W2.cell? (zn wr.heap.size 1) = some (.slice A5 m c5) :=
     ⟨_, rfl, hbi.alloc hbi.size _, Rd.alloc hq2 _, L0b _ _ _ _, L0b _ _ _ _⟩
    have HG := L0 (Y5u W2 hq3)
    clear hx1 hq1 hq2 hq3 HJ
    have hgc : Z1f cl = (decide (m <= 4) && Z3w cl.rs && !(no && decide (m = 0))) := by rw [<- hm, <- hno]; rfl
    have HGC := L0 hgc
    clear hgc hm hno
    have h5 : 4 < (m : Int) \/ ((m : Int) <= 4 /\ Z3w cl.rs = false) \/ ((m : Int) <= 4 /\ Z3w cl.rs = true /\ no = false) \/ ((m : Int) <= 4 /\ Z3w cl.rs = true /\ no = true /\ m = 0) \/ ((m : Int) <= 4 /\ Z3w cl.rs = true /\ no = true /\ ((m : Int) == 0) = false) := by
     cases Z3w cl.rs <;> cases no <;> simp <;> omega
    rcases h5 with h5 | ⟨h5, h6⟩ | ⟨h5, h6, rfl⟩ | ⟨h5, h6, rfl, rfl⟩ | ⟨h5, h6, rfl, h7⟩
    ·have hd5 : decide (4 < (m : Int)) = true := by simp; omega
     have HF : Hid (Z0s t = false) := L0 (HF2.o (by rw [HGC.o, show decide (m <= 4) = false by simp; omega]; rfl))
     go_wp2
     go_ret
     exact ⟨Z0m HF.o.symm, hbW.trans (hbj.mono hbW.size)⟩
    ·have hd5 : decide (4 < (m : Int)) = false := by simp; omega
     have HF : Hid (Z0s t = false) := L0 (HF2.o (by rw [HGC.o, h6]; simp))
     rw [h6] at HG
     clear h6
     go_wp2_with (go_at_call 108; refine HG.o.mono ?_; rintro e w3 ⟨rfl, hb3⟩)
     go_ret
     exact ⟨Z0m HF.o.symm, (hbW.trans (hbj.mono hbW.size)).trans (hb3.mono (L0h hbW.size hbj.size))⟩
    ·have hd5 : decide (4 < (m : Int)) = false := by simp; omega
     have HS : Hid (Z1f cl = true) := L0 (by rw [HGC.o, h6, show decide (m <= 4) = true by simp; omega]; rfl)
     rw [h6] at HG
     clear h6
     go_wp2_with (go_at_call 108; refine HG.o.mono ?_; rintro e w3 ⟨rfl, hb3⟩; (try have f0' := (hb3.ce 0 (L0d _ _ f0)).trans f0); (try have f1' := (hb3.ce 1 (L0d _ _ f1)).trans f1))
     go_roundw
     exact ⟨j + 1, by omega, by go_num, L0 (HS2.o HS.o), hbj.trans (hb3.mono hbj.size)⟩
     simp [intOf]; omega
    ·have hd5 : decide (4 < (((0 : Nat) : Int) : Int)) = false := by simp
     have HF : Hid (Z0s t = false) := L0 (HF2.o (by rw [HGC.o]; simp))
     rw [h6] at HG
     clear h6
     go_wp2_with (go_at_call 108; refine HG.o.mono ?_; rintro e w3 ⟨rfl, hb3⟩; (try have f0' := (hb3.ce 0 (L0d _ _ f0)).trans f0); (try have f1' := (hb3.ce 1 (L0d _ _ f1)).trans f1))
     go_ret
     exact ⟨Z0m HF.o.symm, (hbW.trans (hbj.mono hbW.size)).trans (hb3.mono (L0h hbW.size hbj.size))⟩
    have hd5 : decide (4 < (m : Int)) = false := by simp; omega
    have HS : Hid (Z1f cl = true) := L0 (by
     have : ¬ m = 0 := by rintro rfl; simp at h7
     rw [HGC.o, h6, show decide (m <= 4) = true by simp; omega]; simp [this])
    rw [h6] at HG
    clear h6
    go_wp2_with (go_at_call 108; refine HG.o.mono ?_; rintro e w3 ⟨rfl, hb3⟩; (try have f0' := (hb3.ce 0 (L0d _ _ f0)).trans f0); (try have f1' := (hb3.ce 1 (L0d _ _ f1)).trans f1))
    go_roundw
    exact ⟨j + 1, by omega, by go_num, L0 (HS2.o HS.o), hbj.trans (hb3.mono hbj.size)⟩
    simp [intOf]; omega
   have HS : Hid ((t.rules.take (k + 1)).all (Z0o t.ins.length) = true) := L0 (HS1.o (by
    have := HJ.o
    rw [L0l (by omega)] at this
    rw [HR.o, this]))
   go_wp2
   go_roundw
   exact ⟨k + 1, by omega, by go_num, HS, hb1.trans (hbi.mono hb1.size)⟩
   simp [intOf]; omega
  have hne : ((r.cells.length : Int) != (t.ins.length : Int)) = true := by rw [bne_iff_ne]; omega
  have HF : Hid (Z0s t = false) := L0 (HF1.o (by unfold Z0o; simp [hlen]))
  clear hnr hlen
  go_wp2_with (go_at_call 107; refine HNR.o.mono ?_; rintro e w' ⟨rfl, rfl⟩)
  go_ret
  exact ⟨Z0m HF.o.symm, hbW⟩
 have HF : Hid (Z0s t = true) := L0 (by
  have := HK.o
  rw [L0l (by omega)] at this
  rw [HI.o, this])
 go_wp2
 go_ret
 exact ⟨Z0m HF.o.symm, hb0.trans (hbl.mono hb0.size)⟩
def Z7h (rs : List Rl) (i : Int) : Int := match rs[i.toNat]? with | some r => r.out | none => 0
def Z02 (pol : Int) : Int -> List Int -> Int × Bool × Int
 | n, [] => (n, true, 0)
 | n, o :: t =>
  if pol = 1 then (0, false, 4)
  else if pol = 2 then (if o ≠ n then (0, false, 4) else Z02 pol n t)
  else if pol = 4 then Z02 pol (min n o) t
  else if pol = 5 then Z02 pol (max n o) t
  else if pol = 6 then Z02 pol (n + o) t
  else Z02 pol n t
def sayL (t : Tb) (l : List Int) : Int × Bool × Int :=
 if t.pol = 7 then ((l.length : Int), true, 0) else
 match l.map (Z7h t.rules) with
 | [] => (0, false, 0)
 | o :: os => Z02 t.pol o os
def Z19 (t : Tb) (ns : List Int) : Int × Bool × Int :=
 if Z0s t = true /\ ns.length = t.ins.length then sayL t (Z3i t.rules ns) else (0, false, 1)
def sayV (x : Int × Bool × Int) : Value := .tuple #[.int .i64 x.1, .bool x.2.1, .int .i64 x.2.2]
theorem Z9v {rs : List Rl} {ns : List Int} {i : Int} (h : i ∈ Z3i rs ns) : ∃ k : Nat, i = k /\ k < rs.length := by
 unfold Z3i Z1v at h
 simp only [L1n, L3u, L2k] at h
 obtain ⟨k, ⟨h1, _⟩, rfl⟩ := h
 exact ⟨k, rfl, h1⟩
theorem Z9l {t : Tb} (h : Z0s t = true) {r : Rl} (hr : r ∈ t.rules) : -1000000 <= r.out /\ r.out <= 1000000 := by
 unfold Z0s at h
 simp only [L0t, L1t] at h
 have h1 := h.2 r hr
 unfold Z0o at h1
 simp only [L0t] at h1
 exact (Z07 _).1 h1.1.1
theorem Z00 {t : Tb} (h : Z0s t = true) : 1 <= t.pol /\ t.pol <= 7 /\ 1 <= t.ins.length /\ t.ins.length <= 3 /\ 1 <= t.rules.length /\ t.rules.length <= 6 := by
 unfold Z0s at h
 simp only [L0t] at h
 exact (Z68 h.1.1).2
theorem Y4c {x : Int × Bool × Int} {a : Int} {b : Bool} {c : Int} (h : x = (a, b, c)) : Ending.returned (.tuple #[.int .i64 a, .bool b, .int .i64 c]) = .returned (sayV x) := by rw [h]; rfl
theorem X0o {S T : Nat -> Prop} {cs : List Value} {t : Tb} {u : Value} {ns : List Int} (w : World) (hl : rTb.rel w S cs t) (hn : (rSl rInt).rel w T [u] ns) :
  Calls Tryz.prog 113 #[.agg cs.toArray, u] w fun e w' => e = .returned (sayV (Z19 t ns)) /\ Bw w w' := by
 have HG := L0 fun o => Z6w (w.alloc o) (Rd.alloc hl o)
 obtain ⟨vi, vr, rfl, hnm, hp, hi, hr⟩ := hl
 obtain ⟨A, c, rfl, hi1, hi2, hi3, hE⟩ := rSl.elems hi
 obtain ⟨B, d, rfl, hr1, hr2, hr3, hF⟩ := rSl.elems hr
 obtain ⟨C, g, rfl, _, _, hn3, hN⟩ := rSl.elems hn
 have hn3' : ns.length <= 17592186044416 := by simp only [rInt] at hn3; omega
 have hi3' : t.ins.length <= 8796093022208 := by simp only [rStr] at hi3; omega
 have HM : Hid (∀ w', Bw w w' -> Calls Tryz.prog 138 #[.agg #[sq t.name, .int .i64 t.pol, .bool t.comp, .slice A t.ins.length c, .slice B t.rules.length d], .slice C ns.length g] w' fun e w2 => ∃ z, e = .returned z /\ Own rInt 3 w2 w'.heap.size (fun _ => False) z (Z3i t.rules ns) /\ Bw w' w2) :=
  L0 fun w' hb => Y4p w' (jB hr hb) (jB hn hb)
 obtain ⟨W0, e0, hb0, c0, c1, c2, c3, c4, hs0⟩ : ∃ W0, w.alloc (.cells #[sq t.name, .int .i64 t.pol, .bool t.comp, .slice A t.ins.length c, .slice B t.rules.length d] 66) = W0 /\ Bw w W0 /\
   W0.cell? (zn w.heap.size 0) = some (sq t.name) /\ W0.cell? (zn w.heap.size 1) = some (.int .i64 t.pol) /\ W0.cell? (zn w.heap.size 2) = some (.bool t.comp) /\ W0.cell? (zn w.heap.size 3) = some (.slice A t.ins.length c) /\ W0.cell? (zn w.heap.size 4) = some (.slice B t.rules.length d) /\ w.heap.size < W0.heap.size :=
  ⟨_, rfl, (L0m _ _).alloc (L0g _) _, L0b _ _ _ _, L0b _ _ _ _, L0b _ _ _ _, L0b _ _ _ _, L0b _ _ _ _, by simp⟩
 have HG0 := L0 (by have := HG.o (.cells #[sq t.name, .int .i64 t.pol, .bool t.comp, .slice A t.ins.length c, .slice B t.rules.length d] 66); rw [e0] at this; exact this)
 clear hi hr hE hi3 hr3 hn hn3 HG
 cases hgt : Z0s t
 ·have HF : Hid (Z19 t ns = (0, false, 1)) := L0 (by unfold Z19; rw [if_neg (by simp [hgt])])
  rw [hgt] at HG0
  clear hgt
  go_enter Tryz.func113, Tryz.ntmps113
  go_wp2_with (go_at_call 79; refine HG0.o.mono ?_; rintro e w1 ⟨rfl, hb1⟩)
  go_ret3
  exact ⟨Y4c HF.o, hb0.trans (hb1.mono hb0.size)⟩
 rw [hgt] at HG0
 by_cases hlen : ns.length = t.ins.length
 case neg =>
  have hne : ((ns.length : Int) != (t.ins.length : Int)) = true := by rw [bne_iff_ne]; omega
  have HF : Hid (Z19 t ns = (0, false, 1)) := L0 (by unfold Z19; rw [if_neg (by simp [hlen])])
  clear hgt hlen
  go_enter Tryz.func113, Tryz.ntmps113
  go_wp2_with (go_at_call 79; refine HG0.o.mono ?_; rintro e w1 ⟨rfl, hb1⟩; have k0 := (hb1.ce 0 hs0).trans c0; have k1 := (hb1.ce 1 hs0).trans c1; have k2 := (hb1.ce 2 hs0).trans c2; have k3 := (hb1.ce 3 hs0).trans c3; have k4 := (hb1.ce 4 hs0).trans c4; have hb1' := hb0.trans (hb1.mono hb0.size); have hs1 := L0c hs0 hb1.size)
  go_ret3
  exact ⟨Y4c HF.o, hb1'⟩
 have hne : ((ns.length : Int) != (t.ins.length : Int)) = false := by rw [bne_eq_false_iff_eq]; omega
 have HS : Hid (Z19 t ns = sayL t (Z3i t.rules ns)) := L0 (by unfold Z19; rw [if_pos ⟨hgt, hlen⟩])
 have hlt := fun i => Z9v (rs := t.rules) (ns := ns) (i := i)
 have hml : (Z3i t.rules ns).length <= t.rules.length := Z42 _ _ _
 have hout := fun r => Z9l hgt (r := r)
 obtain ⟨hp1, hp7, _, _, _, hr6⟩ := Z00 hgt
 generalize Z3i t.rules ns = l at *
 have HO := L0 hout
 have HLT := L0 hlt
 clear hgt hlen hout hlt
 obtain ⟨p, hpe⟩ : ∃ p, t.pol = p := ⟨_, rfl⟩
 have HPE := L0 hpe
 rw [hpe] at HM HG0 c1 hp1 hp7 e0
 rw [hpe]
 clear hpe
 by_cases hp : p = 7
 ·subst hp
  have HF : Hid (Z19 t ns = ((l.length : Int), true, 0)) := L0 (by rw [HS.o, sayL, if_pos HPE.o])
  go_enter Tryz.func113, Tryz.ntmps113
  go_wp2_with (first | (go_at_call 79; refine HG0.o.mono ?_; rintro e w1 ⟨rfl, hb1⟩; have k0 := (hb1.ce 0 hs0).trans c0; have k1 := (hb1.ce 1 hs0).trans c1; have k2 := (hb1.ce 2 hs0).trans c2; have k3 := (hb1.ce 3 hs0).trans c3; have k4 := (hb1.ce 4 hs0).trans c4; have hb1' := hb0.trans (hb1.mono hb0.size); have hs1 := L0c hs0 hb1.size) | (go_at_call 138; refine (HM.o _ hb1').mono ?_; rintro e w2 ⟨z, rfl, hown, hb2⟩; have m1 := (hb2.ce 1 hs1).trans k1; have m4 := (hb2.ce 4 hs1).trans k4; have hb2' := hb1'.trans (hb2.mono hb1'.size); obtain ⟨AZ, cz, rfl⟩ := hown.value))
  go_ret3
  exact ⟨Y4c HF.o, hb2'⟩
 have hp' : (p == 7) = false := by simpa using hp
 have HQ : Hid (Z19 t ns = match l.map (Z7h t.rules) with | [] => (0, false, 0) | o :: os => Z02 p o os) := L0 (by rw [HS.o, sayL, if_neg (by rw [HPE.o]; exact hp), HPE.o])
 clear HS hp
 rcases l with _ | ⟨x0, l⟩
 ·have HF : Hid (Z19 t ns = (0, false, 0)) := HQ
  clear HQ
  go_enter Tryz.func113, Tryz.ntmps113
  go_wp2_with (first | (go_at_call 79; refine HG0.o.mono ?_; rintro e w1 ⟨rfl, hb1⟩; have k0 := (hb1.ce 0 hs0).trans c0; have k1 := (hb1.ce 1 hs0).trans c1; have k2 := (hb1.ce 2 hs0).trans c2; have k3 := (hb1.ce 3 hs0).trans c3; have k4 := (hb1.ce 4 hs0).trans c4; have hb1' := hb0.trans (hb1.mono hb0.size); have hs1 := L0c hs0 hb1.size) | (go_at_call 138; refine (HM.o _ hb1').mono ?_; rintro e w2 ⟨z, rfl, hown, hb2⟩; have m1 := (hb2.ce 1 hs1).trans k1; have m4 := (hb2.ce 4 hs1).trans k4; have hb2' := hb1'.trans (hb2.mono hb1'.size); obtain ⟨AZ, cz, rfl⟩ := hown.value))
  go_ret3
  exact ⟨Y4c HF.o, hb2'⟩
 obtain ⟨j0, rfl, hj0⟩ := HLT.o x0 (by simp)
 obtain ⟨b, off, r0, q0, rfl, _, hb, hx0, _, _, h1, h2⟩ := hF.rl hj0
 have hr0 := HO.o r0 (L0z hx0)
 have HQ2 : Hid (Z19 t ns = Z02 p r0.out ((l.map (Z7h t.rules)).drop 0)) := L0 (by rw [HQ.o]; simp only [L2q, L3h, Z7h, L1q, hx0])
 have hll : l.length + 1 <= t.rules.length := hml
 have hij0 : (j0 : Int) < t.rules.length := by omega
 generalize hlm : (↑j0 :: l : List Int) = L at *
 have hLl : L.length = l.length + 1 := by rw [<- hlm]; rfl
 have hL0 : L[0]? = some (j0 : Int) := by rw [<- hlm]; rfl
 have HLM := L0 hlm
 have HLl := L0 hLl
 have HL0 := L0 hL0
 have hposn : 0 < L.length := by omega
 have hpos : (0 : Int) < L.length := by omega
 have hq0 : ((L.length : Int) == 0) = false := by rw [beq_eq_false_iff_ne]; omega
 clear hlm HQ hx0 hml hLl hL0
 go_enter Tryz.func113, Tryz.ntmps113
 go_wp2_with (first | (go_at_call 79; refine HG0.o.mono ?_; rintro e w1 ⟨rfl, hb1⟩; have k0 := (hb1.ce 0 hs0).trans c0; have k1 := (hb1.ce 1 hs0).trans c1; have k2 := (hb1.ce 2 hs0).trans c2; have k3 := (hb1.ce 3 hs0).trans c3; have k4 := (hb1.ce 4 hs0).trans c4; have hb1' := hb0.trans (hb1.mono hb0.size); have hs1 := L0c hs0 hb1.size) | (go_at_call 138; refine (HM.o _ hb1').mono ?_; rintro e w2 ⟨z, rfl, hown, hb2⟩; have m1 := (hb2.ce 1 hs1).trans k1; have m4 := (hb2.ce 4 hs1).trans k4; have hb2' := hb1'.trans (hb2.mono hb1'.size); obtain ⟨AZ, cz, rfl⟩ := hown.value))
 obtain ⟨_, hE2⟩ := hown.elems (by decide) rfl
 obtain ⟨b1, off1, n0, rfl, _, hb1b, hx1, _, g1⟩ := hE2.intAt (i := 0) (by omega)
 obtain rfl : (j0 : Int) = n0 := by rw [HL0.o] at hx1; exact L0s hx1
 rw [<- hb2'.ce _ hb] at h1 h2
 rw [L3x] at g1
 have hi0 : (0 : Int) <= j0 := by omega
 obtain ⟨_, _, hzv, hzc, hzm, _⟩ := hown.rel (by decide)
 simp only [L1f, Value.slice.injEq, and_true, true_and] at hzv
 obtain ⟨rfl, rfl⟩ := hzv
 clear e0 k0 k2 k3 hx1 hzm
 go_quiet (fail)
 have hz1 : (1 : Int) <= L.length := by omega
 have hz2 : (L.length : Int) <= cz := by omega
 have HE2 := L0 hE2
 rcases (show cz = 1 \/ 1 < cz by omega) with rfl | hcz
 ·have hl0 : l = [] := L1g (by have := HLl.o; omega)
  have HF : Hid (Z19 t ns = (r0.out, true, 0)) := L0 (by rw [HQ2.o, hl0]; rfl)
  have hL1 : L.length - 1 = 0 := by omega
  clear hl0
  go_wp2
  go_loop [8, 45] (fun n i => n = .int .i64 r0.out /\ i = .int .i64 0) (fun _ _ => 0)
  exact ⟨rfl, rfl⟩
  obtain ⟨rfl, rfl⟩ := hrel
  go_wp2
  go_ret3
  exact ⟨Y4c HF.o, Z0h hb2' _⟩
 have hcn : ¬ cz = 1 := by omega
 have hE3 : ∀ (k : Nat) (x : Int), l[k]? = some x -> w2.cell? (zn b1 (off1 + 1 + k)) = some (.int .i64 x) := fun k x hx => by
  have hx' : L[k + 1]? = some x := by rw [<- HLM.o, List.getElem?_cons_succ]; exact hx
  obtain ⟨_, _, n9, hA9, _, _, hx9, _, g9⟩ := HE2.o.intAt (i := k + 1) (L0n.1 hx').1
  obtain ⟨rfl, rfl⟩ : b1 = _ /\ off1 = _ := by simpa using hA9
  obtain rfl : x = n9 := by rw [hx'] at hx9; exact L0s hx9
  rw [show off1 + 1 + k = off1 + (k + 1) by omega]
  exact g9
 have HE3 := L0 hE3
 have HX : Hid (∀ (k : Nat) (x : Int), l[k]? = some x -> ∃ j : Nat, x = j /\ j < t.rules.length) := L0 fun k x hx => HLT.o x (by rw [<- HLM.o]; exact L1w _ (L0z hx))
 have hR : ∀ j : Nat, j < t.rules.length -> ∃ r : Rl, t.rules[j]? = some r /\ w2.cell? (zn b (off + j * 2 + 1)) = some (.int .i64 r.out) /\ -1000000 <= r.out /\ r.out <= 1000000 := fun j hj => by
  obtain ⟨_, _, r, _, hA9, _, hb9, hx9, _, _, _, g9⟩ := hF.rl hj
  obtain ⟨rfl, rfl⟩ : b = _ /\ off = _ := by simpa using hA9
  rw [<- hb2'.ce _ hb] at g9
  exact ⟨r, hx9, g9, HO.o r (L0z hx9)⟩
 have HR := L0 hR
 clear hE2 hE3 hR hF
 have hz9 : (1 : Int) <= L.length := by omega
 have hz8 : (L.length : Int) <= cz := by omega
 go_wp2
 generalize hm : L.length - 1 = m at *
 have hm5 : m <= 5 := by have := HLl.o; omega
 have HML : Hid (m = l.length) := L0 (by have := HLl.o; omega)
 have hp6 : p = 1 \/ p = 2 \/ p = 3 \/ p = 4 \/ p = 5 \/ p = 6 := by
  have : p ≠ 7 := by rintro rfl; simp at hp'
  omega
 clear hm
 go_loop [8, 45] (fun n i => ∃ (k : Nat) (a : Int), k <= m /\ i = .int .i64 k /\ n = .int .i64 a /\ -1000000 * ((k : Int) + 1) <= a /\ a <= 1000000 * ((k : Int) + 1) /\ Hid (Z19 t ns = Z02 p a ((l.map (Z7h t.rules)).drop k))) (fun _ i => m - (intOf i).toNat)
 exact ⟨0, _, L0o _, rfl, rfl, by omega, by omega, HQ2⟩
 obtain ⟨k, a, hk, rfl, rfl, ha1, ha2, HK⟩ := hrel
 by_cases hlt : k < m
 ·have hkl : k < l.length := by rw [<- HML.o]; exact hlt
  have hx : l[k]? = some l[k] := L0f hkl
  obtain ⟨j, hj, hjr⟩ := HX.o k _ hx
  obtain ⟨r, hr1, hr2, hr3, hr4⟩ := HR.o j hjr
  have g := HE3.o k _ hx
  rw [hj] at g
  have HKn : Hid (Z19 t ns = Z02 p a (r.out :: (l.map (Z7h t.rules)).drop (k + 1))) := L0 (by
   rw [HK.o, Z0p (x := Z7h t.rules l[k]) (by rw [L4l, hx]; rfl)]
   congr 2
   rw [hj]
   simp only [Z7h, L1q, hr1])
  have hik : (k : Int) < m := by omega
  have hijr : (j : Int) < t.rules.length := by omega
  generalize r.out = o at *
  clear HK hx hj hr1 hkl
  rcases hp6 with rfl | rfl | rfl | rfl | rfl | rfl
  ·have HF : Hid (Z19 t ns = (0, false, 4)) := L0 (by rw [HKn.o]; rfl)
   go_wp2
   go_ret3
   exact ⟨Y4c HF.o, Z0h hb2' _⟩
  ·by_cases hoa : o = a
   ·subst hoa
    have HK' : Hid (Z19 t ns = Z02 2 o ((l.map (Z7h t.rules)).drop (k + 1))) := L0 (by rw [HKn.o]; simp [Z02])
    go_wp2
    go_round
    exact ⟨k + 1, o, by omega, by go_num, rfl, by omega, by omega, HK'⟩
    simp [intOf]; omega
   have HF : Hid (Z19 t ns = (0, false, 4)) := L0 (by rw [HKn.o]; simp [Z02, hoa])
   have hb9 : (o != a) = true := by rw [bne_iff_ne]; exact hoa
   clear hoa
   go_wp2
   go_ret3
   exact ⟨Y4c HF.o, Z0h hb2' _⟩
  ·have HK' : Hid (Z19 t ns = Z02 3 a ((l.map (Z7h t.rules)).drop (k + 1))) := L0 (by rw [HKn.o]; simp [Z02])
   go_wp2
   go_round
   exact ⟨k + 1, a, by omega, by go_num, rfl, by omega, by omega, HK'⟩
   simp [intOf]; omega
  ·have HK' : Hid (Z19 t ns = Z02 4 (min a o) ((l.map (Z7h t.rules)).drop (k + 1))) := L0 (by rw [HKn.o]; simp [Z02])
   go_wp2
   all_goals
    go_round
    exact ⟨k + 1, min a o, by omega, by go_num, by go_num, by omega, by omega, HK'⟩
    simp [intOf]; omega
  ·have HK' : Hid (Z19 t ns = Z02 5 (max a o) ((l.map (Z7h t.rules)).drop (k + 1))) := L0 (by rw [HKn.o]; simp [Z02])
   go_wp2
   all_goals
    go_round
    exact ⟨k + 1, max a o, by omega, by go_num, by go_num, by omega, by omega, HK'⟩
    simp [intOf]; omega
  have HK' : Hid (Z19 t ns = Z02 6 (a + o) ((l.map (Z7h t.rules)).drop (k + 1))) := L0 (by rw [HKn.o]; simp [Z02])
  go_wp2
  go_round
  exact ⟨k + 1, a + o, by omega, by go_num, by go_num, by omega, by omega, HK'⟩
  simp [intOf]; omega
 have HF : Hid (Z19 t ns = (a, true, 0)) := L0 (by
  rw [HK.o, L0u (by rw [L1h, <- HML.o]; omega)]; rfl)
 go_wp2
 go_ret3
 exact ⟨Y4c HF.o, Z0h hb2' _⟩
structure Dm where
 name : Txt
 lo : Int
 hi : Int
structure Bk where
 doms : List Dm
 tabs : List Tb
def rDm : Rd Dm where
 k := 3
 bytes := 32
 rel _ _ cs x := cs = [sq x.name, .int .i64 x.lo, .int .i64 x.hi] /\ x.name.length <= 140737488355328 /\ InI x.lo /\ InI x.hi
 len h := by obtain ⟨rfl, _⟩ := h; rfl
 keep h _ := h
 mono h _ := h
 one h u hu := by
  obtain ⟨rfl, _⟩ := h
  simp at hu
  rcases hu with rfl | rfl | rfl <;> rfl
def rBk : Rd Bk where
 k := 2
 bytes := 48
 rel w S cs x := ∃ v u, cs = [v, u] /\ (rSl rDm).rel w S [v] x.doms /\ (rSl rTb).rel w S [u] x.tabs
 len h := by obtain ⟨v, u, rfl, _⟩ := h; rfl
 keep h hk := by obtain ⟨v, u, e, h1, h2⟩ := h; exact ⟨v, u, e, (rSl rDm).keep h1 hk, (rSl rTb).keep h2 hk⟩
 mono h hk := by obtain ⟨v, u, e, h1, h2⟩ := h; exact ⟨v, u, e, (rSl rDm).mono h1 hk, (rSl rTb).mono h2 hk⟩
 one h u hu := by
  obtain ⟨v, u', rfl, h1, h2⟩ := h
  simp at hu
  rcases hu with rfl | rfl
  ·exact (rSl rDm).one h1 _ (by simp)
  exact (rSl rTb).one h2 _ (by simp)
def tb0 : Tb := ⟨[], 0, false, [], []⟩
def tbOf (o : Option Tb) : Tb := match o with | some t => t | none => tb0
def dm0 : Dm := ⟨[], 0, 0⟩
def dmOf (o : Option Dm) : Dm := match o with | some d => d | none => dm0
def findT (l : List Tb) (s : Txt) : Option Tb := l.find? fun t => t.name == s
def findD (l : List Dm) (s : Txt) : Option Dm := l.find? fun d => d.name == s
theorem Y15 {α : Type} {p : α -> Bool} {l : List α} {k : Nat} {x : α} (h : l[k]? = some x) : (l.drop k).find? p = if p x then some x else (l.drop (k + 1)).find? p := by
 rw [Z0p h, List.find?_cons]
 cases p x <;> rfl
theorem X2h {w : World} {q : Nat} {u0 u1 u2 u3 u4 : Value} (v0 v1 v2 v3 v4 : Value) (h0 : w.cell? (zn q 0) = some u0) (h1 : w.cell? (zn q 1) = some u1) (h2 : w.cell? (zn q 2) = some u2) (h3 : w.cell? (zn q 3) = some u3) (h4 : w.cell? (zn q 4) = some u4) :
  ∃ W, ((((w.setCell (zn q 0) v0).setCell (zn q 1) v1).setCell (zn q 2) v2).setCell (zn q 3) v3).setCell (zn q 4) v4 = W /\ (∀ B, B <= q -> ∀ w0, Below B w0 w -> Below B w0 W) /\
   W.cell? (zn q 0) = some v0 /\ W.cell? (zn q 1) = some v1 /\ W.cell? (zn q 2) = some v2 /\ W.cell? (zn q 3) = some v3 /\ W.cell? (zn q 4) = some v4 := by
 have o : ∀ (w : World) (i j : Nat) (v : Value), i ≠ j -> (w.setCell (zn q i) v).cell? (zn q j) = w.cell? (zn q j) := fun w i j v h => L0a _ _ _ _ (by simp <;> omega)
 refine ⟨_, rfl, fun B hB w0 hb => ((((hb.setCell hB _).setCell hB _).setCell hB _).setCell hB _).setCell hB _, ?_, ?_, ?_, ?_, ?_⟩
 ·rw [o _ 4 0 _ (by decide), o _ 3 0 _ (by decide), o _ 2 0 _ (by decide), o _ 1 0 _ (by decide)]
  exact L0e _ _ _ h0
 ·rw [o _ 4 1 _ (by decide), o _ 3 1 _ (by decide), o _ 2 1 _ (by decide)]
  exact L0e _ _ _ ((o _ 0 1 _ (by decide)).trans h1)
 ·rw [o _ 4 2 _ (by decide), o _ 3 2 _ (by decide)]
  exact L0e _ _ _ ((o _ 1 2 _ (by decide)).trans ((o _ 0 2 _ (by decide)).trans h2))
 ·rw [o _ 4 3 _ (by decide)]
  exact L0e _ _ _ ((o _ 2 3 _ (by decide)).trans ((o _ 1 3 _ (by decide)).trans ((o _ 0 3 _ (by decide)).trans h3)))
 exact L0e _ _ _ ((o _ 3 4 _ (by decide)).trans ((o _ 2 4 _ (by decide)).trans ((o _ 1 4 _ (by decide)).trans ((o _ 0 4 _ (by decide)).trans h4))))
section
variable {w : World} {S : Nat -> Prop} {A : Option Addr} {l : List Tb}
theorem Elems.tb (h : Elems rTb w S A l) {i : Nat} (hi : i < l.length) : ∃ b off x A1 c1 A2 c2, A = some (zn b off) /\ b < w.heap.size /\ l[i]? = some x /\ rTb.rel w S [sq x.name, .int .i64 x.pol, .bool x.comp, .slice A1 x.ins.length c1, .slice A2 x.rules.length c2] x /\
  w.cell? (zn b (off + i * 5)) = some (sq x.name) /\ w.cell? (zn b (off + i * 5 + 1)) = some (.int .i64 x.pol) /\ w.cell? (zn b (off + i * 5 + 2)) = some (.bool x.comp) /\ w.cell? (zn b (off + i * 5 + 3)) = some (.slice A1 x.ins.length c1) /\ w.cell? (zn b (off + i * 5 + 4)) = some (.slice A2 x.rules.length c2) := by
 obtain ⟨b, off, es, hA, hS, hb, hr, hc⟩ := h i l[i] (L0f hi)
 have hr' := hr
 obtain ⟨v, u, rfl, _, _, h1, h2⟩ := hr
 obtain ⟨A1, c1, rfl, _⟩ := rSl.elems h1
 obtain ⟨A2, c2, rfl, _⟩ := rSl.elems h2
 exact ⟨b, off, l[i], A1, c1, A2, c2, hA, hb, L0f hi, hr', hc 0 _ rfl, hc 1 _ rfl, hc 2 _ rfl, hc 3 _ rfl, hc 4 _ rfl⟩
theorem X3z (w : World) : rTb.rel w (fun _ => True) [.string ⟨#[]⟩, .int .i64 0, .bool false, nl, nl] tb0 :=
 ⟨_, _, rfl, by decide, by unfold InI; decide, ⟨none, 0, rfl, L0g _, by decide, by simp [tb0], fun i x hx => by simp [tb0] at hx⟩, ⟨none, 0, rfl, L0g _, by decide, by simp [tb0], fun i x hx => by simp [tb0] at hx⟩⟩
end
theorem Y1l {S : Nat -> Prop} {cs : List Value} {b : Bk} (s : Txt) (w : World) (hl : rBk.rel w S cs b) (_hs : s.length <= 140737488355328) :
  Calls Tryz.prog 50 #[.agg cs.toArray, sq s] w fun e w' => ∃ cs' S', e = .returned (.tuple #[.agg (Array.mk cs'), .bool (findT b.tabs s).isSome]) /\ rTb.rel w' S' cs' (tbOf (findT b.tabs s)) /\ Bw w w' := by
 obtain ⟨v, u, rfl, hd, ht⟩ := hl
 obtain ⟨A, c, rfl, _⟩ := rSl.elems hd
 obtain ⟨B, d, rfl, _, _, hbt, hF⟩ := rSl.elems ht
 have hlt5 : b.tabs.length <= 1759218604441 := by simp only [rTb] at hbt; omega
 obtain ⟨W1, e1, hb1, k1, f0, f1, f2, f3, f4, z0, z1, z2, z3, z4, hs1⟩ : ∃ W1, (w.alloc (.cells #[.slice A b.doms.length c, .slice B b.tabs.length d] 38)).alloc (.cells #[.string ⟨#[]⟩, .int .i64 0, .bool false, nl, nl] 66) = W1 /\ Bw w W1 /\
   W1.cell? (zn w.heap.size 1) = some (.slice B b.tabs.length d) /\ W1.cell? (zn (w.heap.size + 1) 0) = some (.string ⟨#[]⟩) /\ W1.cell? (zn (w.heap.size + 1) 1) = some (.int .i64 0) /\ W1.cell? (zn (w.heap.size + 1) 2) = some (.bool false) /\ W1.cell? (zn (w.heap.size + 1) 3) = some (nl) /\ W1.cell? (zn (w.heap.size + 1) 4) = some (nl) /\
   W1.frozen? (zn (w.heap.size + 1) 0) = false /\ W1.frozen? (zn (w.heap.size + 1) 1) = false /\ W1.frozen? (zn (w.heap.size + 1) 2) = false /\ W1.frozen? (zn (w.heap.size + 1) 3) = false /\ W1.frozen? (zn (w.heap.size + 1) 4) = false /\ w.heap.size + 1 < W1.heap.size := by
  have e : (w.alloc (.cells #[.slice A b.doms.length c, .slice B b.tabs.length d] 38)).heap.size = w.heap.size + 1 := by simp
  refine ⟨_, rfl, bA.alloc (by simp) _, (L0j _ _ _ (by simp)).trans (L0b _ _ _ _), ?_, ?_, ?_, ?_, ?_, ?_, ?_, ?_, ?_, ?_, by simp⟩ <;> rw [<- e] <;> first | exact L0b _ _ _ _ | simp
 clear hd ht hbt
 go_enter Tryz.func50, Tryz.ntmps50
 go_wp2
 clear e1
 try unfold Bw at *
 generalize hq4 : w.heap.size + 1 = q4 at *
 have hq5 : w.heap.size <= q4 := by omega
 clear hq4
 go_loopw [11] (fun i wr => ∃ k : Nat, k <= b.tabs.length /\ i = .int .i64 k /\ Hid (findT b.tabs s = (b.tabs.drop k).find? fun t => t.name == s) /\ Hid (Bw W1 wr)) (fun i _ => b.tabs.length - (intOf i).toNat)
 exact ⟨0, L0o _, rfl, L0 rfl, L0 (L0m _ _)⟩
 obtain ⟨k, hk, rfl, HI, HB⟩ := hrel
 have hbw := hb1.trans (HB.o.mono hb1.size)
 by_cases hlt : k < b.tabs.length
 ·obtain ⟨bB, off, x, A1, c1, A2, c2, rfl, hbB, hx, hr, g0, g1, g2, g3, g4⟩ := hF.tb hlt
  rw [<- hbw.ce _ hbB] at g0 g1 g2 g3 g4
  have hik : (k : Int) < b.tabs.length := by omega
  have HAT := L0 (Y15 (p := fun t : Tb => t.name == s) hx)
  have HR := L0 hr
  clear hx hr
  cases hnm : (x.name == s)
  ·have HI' := L0 (HI.o.trans (by rw [HAT.o, if_neg (by simp [hnm])]))
   obtain ⟨W3, e3, HB3⟩ : ∃ W3, wr.alloc (.cells #[sq x.name, .int .i64 x.pol, .bool x.comp, .slice A1 x.ins.length c1, .slice A2 x.rules.length c2] 66) = W3 /\ Hid (Bw W1 W3) := ⟨_, rfl, L0 (HB.o.alloc HB.o.size _)⟩; have j0 := ac0 e3
   go_wp2
   go_roundw
   exact ⟨k + 1, by omega, by go_num, HI', HB3⟩
   simp [intOf]; omega
  have HF : Hid (findT b.tabs s = some x) := L0 (HI.o.trans (by rw [HAT.o, if_pos hnm]))
  obtain ⟨W3, e3, HB3, hw3⟩ : ∃ W3, wr.alloc (.cells #[sq x.name, .int .i64 x.pol, .bool x.comp, .slice A1 x.ins.length c1, .slice A2 x.rules.length c2] 66) = W3 /\ Hid (Bw W1 W3) /\ Hid (Bw w W3) := ⟨_, rfl, L0 (HB.o.alloc HB.o.size _), L0 (hbw.alloc hbw.size _)⟩; have j0 := ac0 e3; have j1 := ac1 e3; have j2 := ac2 e3; have j3 := ac3 e3; have j4 := ac4 e3
  have y0 : W3.frozen? (zn q4 0) = false := (HB3.o.fr 0 hs1).trans z0
  have y1 : W3.frozen? (zn q4 1) = false := (HB3.o.fr 1 hs1).trans z1
  have y2 : W3.frozen? (zn q4 2) = false := (HB3.o.fr 2 hs1).trans z2
  have y3 : W3.frozen? (zn q4 3) = false := (HB3.o.fr 3 hs1).trans z3
  have y4 : W3.frozen? (zn q4 4) = false := (HB3.o.fr 4 hs1).trans z4
  have p0 := (HB3.o.ce 0 hs1).trans f0
  have p1 := (HB3.o.ce 1 hs1).trans f1
  have p2 := (HB3.o.ce 2 hs1).trans f2
  have p3 := (HB3.o.ce 3 hs1).trans f3
  have p4 := (HB3.o.ce 4 hs1).trans f4
  obtain ⟨W4, e4, hB4, n0, n1, n2, n3, n4⟩ := X2h (sq x.name) (.int .i64 x.pol) (.bool x.comp) (.slice A1 x.ins.length c1) (.slice A2 x.rules.length c2) p0 p1 p2 p3 p4
  have HB4 := L0 (hB4 _ hq5 _ hw3.out)
  clear hB4
  go_wp2
  refine bodyPost_ret (by simp [results, Tryz.results50, go_sem, n0, n1, n2, n3, n4]; rfl) rfl ?_
  exact ⟨_, S, by rw [HF.o]; rfl, by rw [HF.o]; exact jB HR.o HB4.o, HB4.o⟩
 have HF : Hid (findT b.tabs s = none) := L0 (by rw [HI.o, L0u (by omega)]; rfl)
 have y0 : wr.frozen? (zn q4 0) = false := (HB.o.fr 0 hs1).trans z0
 have y1 : wr.frozen? (zn q4 1) = false := (HB.o.fr 1 hs1).trans z1
 have y2 : wr.frozen? (zn q4 2) = false := (HB.o.fr 2 hs1).trans z2
 have y3 : wr.frozen? (zn q4 3) = false := (HB.o.fr 3 hs1).trans z3
 have y4 : wr.frozen? (zn q4 4) = false := (HB.o.fr 4 hs1).trans z4
 have p0 := (HB.o.ce 0 hs1).trans f0
 have p1 := (HB.o.ce 1 hs1).trans f1
 have p2 := (HB.o.ce 2 hs1).trans f2
 have p3 := (HB.o.ce 3 hs1).trans f3
 have p4 := (HB.o.ce 4 hs1).trans f4
 obtain ⟨W4, e4, hB4, n0, n1, n2, n3, n4⟩ := X2h (.string ⟨#[]⟩) (.int .i64 0) (.bool false) (nl) (nl) p0 p1 p2 p3 p4
 have HB4 := L0 (hB4 _ hq5 _ hbw)
 clear hB4
 go_wp2
 refine bodyPost_ret (by simp [results, Tryz.results50, go_sem, n0, n1, n2, n3, n4]; rfl) rfl ?_
 exact ⟨_, fun _ => True, by rw [HF.o]; rfl, by rw [HF.o]; exact X3z _, HB4.o⟩
theorem Y95 {w : World} {q : Nat} {u0 u1 u2 : Value} (v0 v1 v2 : Value) (h0 : w.cell? (zn q 0) = some u0) (h1 : w.cell? (zn q 1) = some u1) (h2 : w.cell? (zn q 2) = some u2) :
  ∃ W, ((w.setCell (zn q 0) v0).setCell (zn q 1) v1).setCell (zn q 2) v2 = W /\ (∀ B, B <= q -> ∀ w0, Below B w0 w -> Below B w0 W) /\
   W.cell? (zn q 0) = some v0 /\ W.cell? (zn q 1) = some v1 /\ W.cell? (zn q 2) = some v2 := by
 have o : ∀ (w : World) (i j : Nat) (v : Value), i ≠ j -> (w.setCell (zn q i) v).cell? (zn q j) = w.cell? (zn q j) := fun w i j v h => L0a _ _ _ _ (by simp <;> omega)
 refine ⟨_, rfl, fun B hB w0 hb => ((hb.setCell hB _).setCell hB _).setCell hB _, ?_, ?_, ?_⟩
 ·rw [o _ 2 0 _ (by decide), o _ 1 0 _ (by decide)]
  exact L0e _ _ _ h0
 ·rw [o _ 2 1 _ (by decide)]
  exact L0e _ _ _ ((o _ 0 1 _ (by decide)).trans h1)
 exact L0e _ _ _ ((o _ 1 2 _ (by decide)).trans ((o _ 0 2 _ (by decide)).trans h2))
section
variable {w : World} {S : Nat -> Prop} {A : Option Addr} {l : List Dm}
theorem Elems.dm (h : Elems rDm w S A l) {i : Nat} (hi : i < l.length) : ∃ b off x, A = some (zn b off) /\ b < w.heap.size /\ l[i]? = some x /\ (x.name.length <= 140737488355328 /\ InI x.lo /\ InI x.hi) /\
  w.cell? (zn b (off + i * 3)) = some (sq x.name) /\ w.cell? (zn b (off + i * 3 + 1)) = some (.int .i64 x.lo) /\ w.cell? (zn b (off + i * 3 + 2)) = some (.int .i64 x.hi) := by
 obtain ⟨b, off, es, hA, hS, hb, ⟨rfl, hr⟩, hc⟩ := h i l[i] (L0f hi)
 exact ⟨b, off, l[i], hA, hb, L0f hi, hr, hc 0 _ rfl, hc 1 _ rfl, hc 2 _ rfl⟩
end
theorem Y0g {S : Nat -> Prop} {cs : List Value} {b : Bk} (s : Txt) (w : World) (hl : rBk.rel w S cs b) (_hs : s.length <= 140737488355328) :
  Calls Tryz.prog 48 #[.agg cs.toArray, sq s] w fun e w' => e = .returned (.tuple #[.agg #[.string ⟨(dmOf (findD b.doms s)).name.toArray⟩, .int .i64 (dmOf (findD b.doms s)).lo, .int .i64 (dmOf (findD b.doms s)).hi], .bool (findD b.doms s).isSome]) /\ Bw w w' := by
 obtain ⟨v, u, rfl, hd, ht⟩ := hl
 obtain ⟨A, c, rfl, _, _, hbt, hF⟩ := rSl.elems hd
 obtain ⟨B, d, rfl, _⟩ := rSl.elems ht
 have hlt5 : b.doms.length <= 4398046511104 := by simp only [rDm] at hbt; omega
 obtain ⟨W1, e1, hb1, k1, f0, f1, f2, z0, z1, z2, hs1⟩ : ∃ W1, (w.alloc (.cells #[.slice A b.doms.length c, .slice B b.tabs.length d] 38)).alloc (.cells #[.string ⟨#[]⟩, .int .i64 0, .int .i64 0] 63) = W1 /\ Bw w W1 /\
   W1.cell? (zn w.heap.size 0) = some (.slice A b.doms.length c) /\ W1.cell? (zn (w.heap.size + 1) 0) = some (.string ⟨#[]⟩) /\ W1.cell? (zn (w.heap.size + 1) 1) = some (.int .i64 0) /\ W1.cell? (zn (w.heap.size + 1) 2) = some (.int .i64 0) /\
   W1.frozen? (zn (w.heap.size + 1) 0) = false /\ W1.frozen? (zn (w.heap.size + 1) 1) = false /\ W1.frozen? (zn (w.heap.size + 1) 2) = false /\ w.heap.size + 1 < W1.heap.size := by
  have e : (w.alloc (.cells #[.slice A b.doms.length c, .slice B b.tabs.length d] 38)).heap.size = w.heap.size + 1 := by simp
  refine ⟨_, rfl, bA.alloc (by simp) _, (L0j _ _ _ (by simp)).trans (L0b _ _ _ _), ?_, ?_, ?_, ?_, ?_, ?_, by simp⟩ <;> rw [<- e] <;> first | exact L0b _ _ _ _ | simp
 clear hd ht hbt
 go_enter Tryz.func48, Tryz.ntmps48
 go_wp2
 clear e1
 try unfold Bw at *
 generalize hq4 : w.heap.size + 1 = q4 at *
 have hq5 : w.heap.size <= q4 := by omega
 clear hq4
 go_loopw [11] (fun i wr => ∃ k : Nat, k <= b.doms.length /\ i = .int .i64 k /\ Hid (findD b.doms s = (b.doms.drop k).find? fun t => t.name == s) /\ Hid (Bw W1 wr)) (fun i _ => b.doms.length - (intOf i).toNat)
 exact ⟨0, L0o _, rfl, L0 rfl, L0 (L0m _ _)⟩
 obtain ⟨k, hk, rfl, HI, HB⟩ := hrel
 have hbw := hb1.trans (HB.o.mono hb1.size)
 by_cases hlt : k < b.doms.length
 ·obtain ⟨bB, off, x, rfl, hbB, hx, hr, g0, g1, g2⟩ := hF.dm hlt
  rw [<- hbw.ce _ hbB] at g0 g1 g2
  have hik : (k : Int) < b.doms.length := by omega
  have HAT := L0 (Y15 (p := fun t : Dm => t.name == s) hx)
  clear hx hr
  cases hnm : (x.name == s)
  ·have HI' := L0 (HI.o.trans (by rw [HAT.o, if_neg (by simp [hnm])]))
   obtain ⟨W3, e3, HB3⟩ : ∃ W3, wr.alloc (.cells #[sq x.name, .int .i64 x.lo, .int .i64 x.hi] 63) = W3 /\ Hid (Bw W1 W3) := ⟨_, rfl, L0 (HB.o.alloc HB.o.size _)⟩; have j0 := ac0 e3
   go_wp2
   go_roundw
   exact ⟨k + 1, by omega, by go_num, HI', HB3⟩
   simp [intOf]; omega
  have HF : Hid (findD b.doms s = some x) := L0 (HI.o.trans (by rw [HAT.o, if_pos hnm]))
  obtain ⟨W3, e3, HB3, hw3⟩ : ∃ W3, wr.alloc (.cells #[sq x.name, .int .i64 x.lo, .int .i64 x.hi] 63) = W3 /\ Hid (Bw W1 W3) /\ Hid (Bw w W3) := ⟨_, rfl, L0 (HB.o.alloc HB.o.size _), L0 (hbw.alloc hbw.size _)⟩; have j0 := ac0 e3; have j1 := ac1 e3; have j2 := ac2 e3
  have y0 : W3.frozen? (zn q4 0) = false := (HB3.o.fr 0 hs1).trans z0
  have y1 : W3.frozen? (zn q4 1) = false := (HB3.o.fr 1 hs1).trans z1
  have y2 : W3.frozen? (zn q4 2) = false := (HB3.o.fr 2 hs1).trans z2
  have p0 := (HB3.o.ce 0 hs1).trans f0
  have p1 := (HB3.o.ce 1 hs1).trans f1
  have p2 := (HB3.o.ce 2 hs1).trans f2
  obtain ⟨W4, e4, hB4, n0, n1, n2⟩ := Y95 (sq x.name) (.int .i64 x.lo) (.int .i64 x.hi) p0 p1 p2
  have HB4 := L0 (hB4 _ hq5 _ hw3.out)
  clear hB4
  go_wp2
  refine bodyPost_ret (by simp [results, Tryz.results48, go_sem, n0, n1, n2]; rfl) rfl ?_
  exact ⟨by rw [HF.o]; rfl, HB4.o⟩
 have HF : Hid (findD b.doms s = none) := L0 (by rw [HI.o, L0u (by omega)]; rfl)
 have y0 : wr.frozen? (zn q4 0) = false := (HB.o.fr 0 hs1).trans z0
 have y1 : wr.frozen? (zn q4 1) = false := (HB.o.fr 1 hs1).trans z1
 have y2 : wr.frozen? (zn q4 2) = false := (HB.o.fr 2 hs1).trans z2
 have p0 := (HB.o.ce 0 hs1).trans f0
 have p1 := (HB.o.ce 1 hs1).trans f1
 have p2 := (HB.o.ce 2 hs1).trans f2
 obtain ⟨W4, e4, hB4, n0, n1, n2⟩ := Y95 (.string ⟨#[]⟩) (.int .i64 0) (.int .i64 0) p0 p1 p2
 have HB4 := L0 (hB4 _ hq5 _ hbw)
 clear hB4
 go_wp2
 refine bodyPost_ret (by simp [results, Tryz.results48, go_sem, n0, n1, n2]; rfl) rfl ?_
 exact ⟨by rw [HF.o]; rfl, HB4.o⟩
abbrev Bx := List (List Rg)
def rBx : Rd Bx := rSl (rSl rRg)
def Z5t (s : List Rg) : Bool := decide (0 < s.length) && Z3w s
def Z06 (b : Bx) (n : Int) : Bool := b.all Z5t && (decide ((b.length : Int) = n) && (decide (0 <= n) && decide (n <= 3)))
theorem goodBx_iff {b : Bx} {n : Int} : Z06 b n = true ↔ (∀ s ∈ b, 0 < s.length /\ Z2w s) /\ (b.length : Int) = n /\ n <= 3 := by
 unfold Z06 Z5t
 simp only [L0t, L1t, decide_eq_true_iff, Y81]
 constructor
 ·rintro ⟨h1, h2, h3, h4⟩; exact ⟨h1, h2, h4⟩
 rintro ⟨h1, h2, h4⟩; exact ⟨h1, h2, by omega, h4⟩
section
variable {α : Type} {R : Rd α} {w : World} {S : Nat -> Prop} {A : Option Addr}
theorem Elems.sl {l : List (List α)} (h : Elems (rSl R) w S A l) {i : Nat} (hi : i < l.length) : ∃ b off v x, A = some (zn b off) /\ S b /\ b < w.heap.size /\ l[i]? = some x /\ (rSl R).rel w S [v] x /\ w.cell? (zn b (off + i)) = some v := by
 obtain ⟨b, off, es, hA, hS, hb, hr, hc⟩ := h i l[i] (L0f hi)
 obtain ⟨A1, c1, rfl, hr2⟩ := hr
 exact ⟨b, off, _, l[i], hA, hS, hb, L0f hi, ⟨A1, c1, rfl, hr2⟩, by have := hc 0 _ rfl; simpa [rSl] using this⟩
theorem rSl.lenle {α : Type} {R : Rd α} {v : Value} {l : List α} (h : (rSl R).rel w S [v] l) (hb : 8 <= R.bytes) : l.length <= 17592186044416 := by
 obtain ⟨_, _, _, _, _, h3, _⟩ := h
 have := Nat.mul_le_mul_left l.length hb
 omega
end
theorem X16 {S : Nat -> Prop} {v : Value} {l : List Rg} {b : Bool} (w : World) (hl : (rSl rRg).rel w S [v] l) (h : Z3w l = b) :
  Calls Tryz.prog 108 #[v] w fun e w' => e = .returned (.bool b) /\ Bw w w' := h ▸ Y5u w hl
theorem Z3m {S : Nat -> Prop} {v : Value} {b : Bx} (n : Int) (w : World) (hl : rBx.rel w S [v] b) :
  Calls Tryz.prog 118 #[v, .int .i64 n] w fun e w' => e = .returned (.bool (Z06 b n)) /\ Bw w w' := by
 have hbl := rSl.lenle hl (by decide)
 obtain ⟨A, c, rfl, _, _, _, hE⟩ := rSl.elems hl
 clear hl
 go_enter Tryz.func118, Tryz.ntmps118
 go_wp2
 go_loopw [9] (fun i wr => ∃ k : Nat, k <= b.length /\ i = .int .i64 k /\ Hid ((b.take k).all Z5t = true) /\ Bw w wr) (fun i _ => b.length - (intOf i).toNat)
 exact ⟨0, L0o _, rfl, L0 rfl, L0m _ _⟩
 obtain ⟨k, hk, rfl, HK, hb⟩ := hrel
 by_cases hlt : k < b.length
 ·obtain ⟨p, off, v, s, rfl, _, hp, hx, hs, h1⟩ := hE.sl hlt
  rw [<- hb.ce _ hp] at h1
  have hs' := jB hs hb
  have hik : (k : Int) < b.length := by omega
  obtain ⟨A2, c2, rfl, _, _, hl2, _⟩ := rSl.elems hs'
  have hl2' : s.length <= 8796093022208 := by simp only [rRg] at hl2; omega
  have HF : Hid (Z5t s = false -> Z06 b n = false) := L0 fun h => by
   unfold Z06
   rw [show b.all Z5t = false from jA.2 ⟨s, L0z hx, by simp [h]⟩]; rfl
  have HS : Hid (Z5t s = true -> (b.take (k + 1)).all Z5t = true) := L0 fun h => by rw [Z0c hx, List.all_append, HK.o]; simp [h]
  have hg : Z5t s = (decide (0 < s.length) && Z3w s) := rfl
  generalize s.length = m at *
  have HG := L0 hg
  clear hx hs hl2 HK hE hg
  rcases (show m = 0 \/ (((m : Int) == 0) = false /\ 0 < m) by
   rcases L2p m with h | h
   ·exact .inl h
   exact .inr ⟨by rw [beq_eq_false_iff_ne]; omega, h⟩) with rfl | ⟨hm, hm0⟩
  ·have HFF : Hid (Z06 b n = false) := L0 (HF.o (by rw [HG.o]; rfl))
   go_wp2
   go_ret
   exact ⟨Z0m HFF.o.symm, hb⟩
  cases hset : Z3w s
  ·have HC := L0 (X16 wr hs' hset)
   have HFF : Hid (Z06 b n = false) := L0 (HF.o (by rw [HG.o, hset]; simp))
   clear hset hs'
   go_wp2_with (go_at_call 108; refine HC.o.mono ?_; rintro e w1 ⟨rfl, hb1⟩)
   go_ret
   exact ⟨Z0m HFF.o.symm, hb.trans (hb1.mono hb.size)⟩
  have HC := L0 (X16 wr hs' hset)
  have HSS := L0 (HS.o (by rw [HG.o, hset]; simp [hm0]))
  clear hset hs'
  go_wp2_with (go_at_call 108; refine HC.o.mono ?_; rintro e w1 ⟨rfl, hb1⟩)
  go_roundw
  exact ⟨k + 1, by omega, by go_num, HSS, hb.trans (hb1.mono hb.size)⟩
  simp [intOf]; omega
 have HF : Hid (Z06 b n = (decide ((b.length : Int) = n) && (decide (0 <= n) && decide (n <= 3)))) := L0 (by
  have := HK.o
  rw [L0l (by omega)] at this
  unfold Z06
  rw [this]; rfl)
 clear HK hE
 have hq : ((b.length : Int) == n) = decide ((b.length : Int) = n) := by rw [L3t, beq_iff_eq, decide_eq_true_iff]
 rcases (show ((b.length : Int) == n) = false \/ (((b.length : Int) == n) = true /\ 0 <= n /\ (b.length : Int) = n) by
  by_cases h : (b.length : Int) = n
  ·exact .inr ⟨by simpa using h, by omega, h⟩
  exact .inl (by simpa using h)) with h | ⟨h, h0, h3⟩
 ·rw [h] at hq
  have HQ := L0 hq
  clear hq
  go_wp2
  go_ret
  exact ⟨Z0m (by rw [HF.o, <- HQ.o]; rfl), hb⟩
 rw [h] at hq
 have HQ := L0 hq
 clear hq h3
 go_wp2
 go_ret
 exact ⟨Z0m (by rw [HF.o, <- HQ.o]; simp [h0]), hb⟩
def Z4d (d : Dm) : Bool := Z1e d.name && (decide (-1000000 <= d.lo) && (decide (d.lo <= d.hi) && decide (d.hi <= 1000000)))
theorem Z4a (d : Dm) (w : World) (hs : d.name.length <= 140737488355328) :
  Calls Tryz.prog 77 #[.agg #[sq d.name, .int .i64 d.lo, .int .i64 d.hi]] w fun e w' => e = .returned (.bool (Z4d d)) /\ Bw w w' := by
 have hv : Z4d d = (Z1e d.name && (decide (-1000000 <= d.lo) && (decide (d.lo <= d.hi) && decide (d.hi <= 1000000)))) := rfl
 obtain ⟨nm, hnm⟩ : ∃ x, Z1e d.name = x := ⟨_, rfl⟩
 have qn := L0 hnm
 rw [hnm] at hv
 have HV := L0 hv
 clear hv hnm
 have hcs : nm = false \/ (nm = true /\ ¬ -1000000 <= d.lo) \/ (nm = true /\ -1000000 <= d.lo /\ ¬ d.lo <= d.hi) \/ (nm = true /\ -1000000 <= d.lo /\ d.lo <= d.hi /\ ¬ d.hi <= 1000000) \/ (nm = true /\ -1000000 <= d.lo /\ d.lo <= d.hi /\ d.hi <= 1000000) := by
  cases nm
  ·exact .inl rfl
  by_cases h1 : -1000000 <= d.lo <;> by_cases h2 : d.lo <= d.hi <;> by_cases h3 : d.hi <= 1000000 <;> simp [h1, h2, h3]
 rcases hcs with rfl | ⟨rfl, h1⟩ | ⟨rfl, h1, h2⟩ | ⟨rfl, h1, h2, h3⟩ | ⟨rfl, h1, h2, h3⟩
 all_goals
  have HF := HV.o
  simp [*] at HF
  have HG := L0 HF
  clear HF HV
  go_enter Tryz.func77, Tryz.ntmps77
  go_wp2_with (go_at_call 33; (with_reducible refine (Z6k qn.out _ hs).mono ?_); rintro e w4 ⟨rfl, rfl⟩)
  go_ret
  exact ⟨by first | (rw [HG.o]; rfl) | (rw [HG.o]; exact Z0m (by simp [h3])), (L0m _ _).alloc (L0g _) _⟩
def Z1b (b : Bx) : List Int := b.filterMap fun s => s.head?.map (·.1)
def X4m : List Rg -> List Int
 | [] => []
 | r :: _ => [r.1]
theorem Y7g {b : Bx} {k : Nat} {s : List Rg} (h : b[k]? = some s) : Z1b (b.take (k + 1)) = Z1b (b.take k) ++ X4m s := by
 unfold Z1b
 rw [Z0c h, List.filterMap_append]
 cases s <;> rfl
theorem Y5i (b : Bx) (k : Nat) : (Z1b (b.take k)).length <= k := by
 unfold Z1b
 refine L0h (List.length_filterMap_le _ _) ?_
 rw [L1i]; omega
theorem Y8c {S : Nat -> Prop} {v : Value} {b : Bx} (w : World) (hl : rBx.rel w S [v] b) :
  Calls Tryz.prog 145 #[v] w fun e w' => ∃ z, e = .returned z /\ Own rInt 3 w' w.heap.size (fun _ => False) z (Z1b b) /\ Bw w w' := by
 have hbl := rSl.lenle hl (by decide)
 obtain ⟨A, c, rfl, _, _, hbb, hE⟩ := rSl.elems hl
 have hbb' : b.length <= 5864062014805 := by simp only [rSl] at hbb; omega
 clear hl hbb
 go_enter Tryz.func145, Tryz.ntmps145
 go_wp2
 go_loopw [3, 8] (fun o i wr => ∃ k : Nat, k <= b.length /\ i = .int .i64 k /\ Own rInt 3 wr w.heap.size (fun _ => False) o (Z1b (b.take k)) /\ Bw w wr) (fun _ i _ => b.length - (intOf i).toNat)
 exact ⟨0, L0o _, rfl, Own.nil _ _ _ _ _, L0m _ _⟩
 obtain ⟨k, hk, rfl, hown, hb⟩ := hrel
 by_cases hlt : k < b.length
 ·obtain ⟨p, off, v, s, rfl, _, hp, hx, hs, h1⟩ := hE.sl hlt
  rw [<- hb.ce _ hp] at h1
  have hik : (k : Int) < b.length := by omega
  have hs' := jB hs hb
  have hpt := Y7g hx
  have hlen := Y5i b k
  obtain ⟨A2, c2, rfl, _, _, hl2, hE2⟩ := rSl.elems hs'
  have hl2' : s.length <= 8796093022208 := by simp only [rRg] at hl2; omega
  clear hx hs hs' hl2 hE
  rcases s with _ | ⟨r, t⟩
  ·have HP : Hid (Z1b (b.take (k + 1)) = Z1b (b.take k)) := L0 (by rw [hpt]; simp [X4m])
   clear hpt
   generalize Z1b (b.take k) = out at *
   go_wp2
   go_roundw
   exact ⟨k + 1, by omega, by go_num, by rw [HP.o]; exact hown, hb⟩
   simp [intOf]; omega
  have HP : Hid (Z1b (b.take (k + 1)) = Z1b (b.take k) ++ [r.1]) := L0 hpt
  obtain ⟨q, off2, lo, up, rfl, _, hq, hx2, hi1, _, g1, _⟩ := hE2.rg (i := 0) (by simp)
  obtain rfl : (lo, up) = r := by simpa using hx2.symm
  rw [Nat.zero_mul, L3x] at g1
  generalize hm : ((lo, up) :: t : List Rg).length = m at *
  have hm0 : 0 < m := by rw [<- hm]; simp
  have hm1 : (0 : Int) < m := by omega
  clear hpt hx2 hE2 hm
  generalize Z1b (b.take k) = out at *
  go_wp2_with (at_builtin; refine Z0a (R := rInt) (x := lo) el_I rfl (.tmp 15) (.tmp 20) rfl rfl hown [.int .i64 lo] rfl rfl (fun _ => False) ⟨rfl, hi1⟩ (fun _ h => h.elim) ?_ hb.size ?_; (((try simp only [rInt]) <;> omega)); intro v9 w9 hown9 hb9 _ _)
  go_roundw
  exact ⟨k + 1, by omega, by go_num, by rw [HP.o]; exact hown9, hb.trans hb9⟩
  simp [intOf]; omega
 obtain ⟨z1, z2, rfl⟩ := hown.value
 have he : b.take k = b := L0l (by omega)
 have HE := L0 (show Z1b b = Z1b (b.take k) by rw [he])
 clear he
 go_wp2
 go_ret
 exact ⟨_, rfl, by rw [HE.o]; exact hown, hb⟩
def cmpL : List Int -> List Int -> Int
 | x :: a, y :: b => if x < y then -1 else if y < x then 1 else cmpL a b
 | _ :: _, [] => 1
 | [], _ :: _ => -1
 | [], [] => 0
theorem X29 {a b : List Int} {k : Nat} {x y : Int} (hx : a[k]? = some x) (hy : b[k]? = some y) :
  cmpL (a.drop k) (b.drop k) = if x < y then -1 else if y < x then 1 else cmpL (a.drop (k + 1)) (b.drop (k + 1)) := by
 rw [Z0p hx, Z0p hy]; rfl
theorem Y4o {S T : Nat -> Prop} {v u : Value} {a b : List Int} (w : World) (hl : (rSl rInt).rel w S [v] a) (hm : (rSl rInt).rel w T [u] b) :
  Calls Tryz.prog 146 #[v, u] w fun e w' => e = .returned (.int .i64 (cmpL a b)) /\ w = w' := by
 have hal := rSl.lenle hl (by decide)
 have hbl := rSl.lenle hm (by decide)
 obtain ⟨A, c, rfl, _, _, _, hE⟩ := rSl.elems hl
 obtain ⟨B, d, rfl, _, _, _, hF⟩ := rSl.elems hm
 clear hl hm
 go_enter Tryz.func146, Tryz.ntmps146
 go_wp2
 go_loopw [11] (fun i wr => ∃ k : Nat, k <= a.length /\ i = .int .i64 k /\ Hid (cmpL a b = cmpL (a.drop k) (b.drop k)) /\ Hid (k <= b.length) /\ w = wr) (fun i _ => a.length - (intOf i).toNat)
 exact ⟨0, L0o _, rfl, L0 rfl, L0 (L0o _), rfl⟩
 obtain ⟨k, hk, rfl, HI, HK, rfl⟩ := hrel
 by_cases hlt : k < a.length
 ·obtain ⟨p, off, x, rfl, _, hp, hx, hxi, g1⟩ := hE.intAt hlt
  have hik : (k : Int) < a.length := by omega
  by_cases hlt2 : k < b.length
  ·obtain ⟨q, off', y, rfl, _, hq, hy, hyi, g2⟩ := hF.intAt hlt2
   have HAT := L0 (X29 hx hy)
   have hik2 : (k : Int) < b.length := by omega
   have hik3 : ¬ (b.length : Int) <= k := by omega
   clear hx hy hE hF
   by_cases h1 : x < y
   ·have HF' : Hid (cmpL a b = -1) := L0 (by rw [HI.o, HAT.o, if_pos h1])
    go_wp2
    go_ret
    exact ⟨by rw [HF'.o]; rfl, rfl⟩
   by_cases h2 : y < x
   ·have HF' : Hid (cmpL a b = 1) := L0 (by rw [HI.o, HAT.o, if_neg h1, if_pos h2])
    go_wp2
    go_ret
    exact ⟨by rw [HF'.o]; rfl, rfl⟩
   have HF' := L0 (HI.o.trans (by rw [HAT.o, if_neg h1, if_neg h2]))
   go_wp2
   go_roundw
   exact ⟨k + 1, by omega, by go_num, HF', L0 (by omega), by trivial⟩
   simp [intOf]; omega
  have hke : k = b.length := by have := HK.o; omega
  have HF' : Hid (cmpL a b = 1) := L0 (by rw [HI.o, show b.drop k = [] from L0u (by omega), Z0p hx]; rfl)
  have hik3 : (b.length : Int) <= k := by omega
  clear hke hx hE hF
  go_wp2
  go_ret
  exact ⟨by rw [HF'.o]; rfl, rfl⟩
 have hke : k = a.length := by omega
 clear hE hF
 have hkb := HK.o
 by_cases h : a.length < b.length
 ·have HF' : Hid (cmpL a b = -1) := L0 (by rw [HI.o, show a.drop k = [] from L0u (by omega), Z0p (l := b) (k := k) (L0f (by omega))]; rfl)
  have h9 : (a.length : Int) < b.length := by omega
  clear hke
  go_wp2
  go_ret
  exact ⟨by rw [HF'.o]; rfl, rfl⟩
 have HF' : Hid (cmpL a b = 0) := L0 (by rw [HI.o, show a.drop k = [] from L0u (by omega), show b.drop k = [] from L0u (by omega)]; rfl)
 have h9 : ¬ (a.length : Int) < b.length := by omega
 clear hke
 go_wp2
 go_ret
 exact ⟨by rw [HF'.o]; rfl, rfl⟩
def New (w : World) (S : Nat -> Prop) : Nat -> Prop := fun q => S q /\ w.heap.size <= q
theorem Y6e {α : Type} {R : Rd α} {w w1 w' : World} {S : Nat -> Prop} {cs : List Value} {x : α} (h : R.rel w' (New w1 S) cs x) (hb : w.heap.size <= w1.heap.size) : R.rel w' (New w S) cs x :=
 R.mono h fun _ hq _ => ⟨hq.1, L0h hb hq.2⟩
theorem X0a {α : Type} {R : Rd α} {w w' : World} {B : Nat} {cs : List Value} {x : α} (h : R.rel w' (Up (fun _ => False) B) cs x) (hb : w.heap.size <= B) : R.rel w' (New w fun _ => True) cs x :=
 R.mono h fun _ hq _ => ⟨trivial, hq.elim (fun h => h.elim) (L0h hb)⟩
def Z9u (o : List Int) (b : Bx) : List Int := if cmpL (Z1b b) o < 0 then Z1b b else o
def Z2b : List Bx -> List Int
 | [] => []
 | b :: l => l.foldl Z9u (Z1b b)
theorem Y5c {l : List Bx} {k : Nat} {b : Bx} (h : l[k]? = some b) (h0 : 0 < k) : Z2b (l.take (k + 1)) = Z9u (Z2b (l.take k)) b := by
 rw [Z0c h]
 have hk : k < l.length := (L0n.1 h).1
 cases hl : l.take k with
 | nil => have := congrArg List.length hl; rw [L1i, L0v] at this; omega
 | cons x l' =>
  show (l' ++ [b]).foldl Z9u (Z1b x) = _
  rw [L1e]; rfl
theorem Y7a {l : List Bx} {b : Bx} (h : l[0]? = some b) : Z2b (l.take (0 + 1)) = Z1b b := by
 rw [Z0c h]; rfl
theorem Z87 {S : Nat -> Prop} {v : Value} {b : Bx} {p : List Int} (w : World) (hl : rBx.rel w S [v] b) (h : Z1b b = p) :
  Calls Tryz.prog 145 #[v] w fun e w' => ∃ z, e = .returned z /\ Own rInt 3 w' w.heap.size (fun _ => False) z p /\ Bw w w' := h ▸ Y8c w hl
theorem Y0r {S T : Nat -> Prop} {v u : Value} {a b : List Int} {n : Int} (w : World) (hl : (rSl rInt).rel w S [v] a) (hm : (rSl rInt).rel w T [u] b) (h : cmpL a b = n) :
  Calls Tryz.prog 146 #[v, u] w fun e w' => e = .returned (.int .i64 n) /\ w = w' := h ▸ Y4o w hl hm
theorem Y3w {S : Nat -> Prop} {v : Value} {l : List Bx} (w : World) (hl : (rSl rBx).rel w S [v] l) :
  Calls Tryz.prog 121 #[v] w fun e w' => ∃ z S', e = .returned (.tuple #[z, .bool (decide (0 < l.length))]) /\ (rSl rInt).rel w' (New w S') [z] (Z2b l) /\ Bw w w' := by
 have hal := rSl.lenle hl (by decide)
 obtain ⟨A, c, rfl, _, _, _, hE⟩ := rSl.elems hl
 clear hl
 go_enter Tryz.func121, Tryz.ntmps121
 go_wp2
 go_loopw [4, 10] (fun o i wr => ∃ (k : Nat) (out : List Int) (Ao : Option Addr) (co : Nat), k <= l.length /\ i = .int .i64 k /\ o = .slice Ao out.length co /\ Hid (Z2b (l.take k) = out) /\ Hid (∃ S', (rSl rInt).rel wr (New w S') [.slice Ao out.length co] out) /\ Bw w wr) (fun _ i _ => l.length - (intOf i).toNat)
 exact ⟨0, [], none, 0, L0o _, rfl, rfl, L0 rfl, L0 ⟨fun _ => True, none, 0, rfl, L0g _, by decide, by decide, fun i x hx => by simp at hx⟩, L0m _ _⟩
 obtain ⟨k, out, Ao, co, hk, rfl, rfl, HI, HS, hb⟩ := hrel
 by_cases hlt : k < l.length
 ·obtain ⟨p, off, v', b, rfl, _, hp, hx, hs, g1⟩ := Elems.sl (R := rSl rRg) hE hlt
  rw [<- hb.ce _ hp] at g1
  have hik : (k : Int) < l.length := by omega
  have HX := L0 (show rBx.rel wr _ _ _ from jB hs hb)
  have HXX := L0 hx
  obtain ⟨A2, c2, rfl, _⟩ := rSl.elems hs
  generalize hpp : Z1b b = pp at *
  have HP := L0 hpp
  clear hx hs hpp
  rcases L2p k with h0 | h0
  ·subst h0
   simp only [L3x] at g1
   have HQ : Hid (Z2b (l.take (0 + 1)) = pp) := L0 ((Y7a HXX.o).trans HP.o)
   go_wp2_with (go_at_call 145; (with_reducible refine (Z87 wr HX.o HP.o).mono ?_); rintro e w4 ⟨z4, rfl, how4, hb4⟩; obtain ⟨A4, c4, rfl⟩ := how4.value)
   go_roundw
   exact ⟨1, pp, A4, c4, by omega, by go_num, rfl, HQ, L0 ⟨_, X0a (how4.rel (by decide)) hb.size⟩, hb.trans (hb4.mono hb.size)⟩
   simp [intOf]; omega
  have HQ : Hid (Z2b (l.take (k + 1)) = if cmpL pp out < 0 then pp else out) := L0 (by rw [Y5c HXX.o h0, HI.o, <- HP.o]; rfl)
  have hk0 : ((k : Int) == 0) = false := by rw [beq_eq_false_iff_ne]; omega
  obtain ⟨S9, hS9⟩ := HS.o
  have HS9 := L0 hS9
  clear hS9
  generalize hcm : cmpL pp out = cm at *
  have HC := L0 hcm
  clear hcm
  by_cases hc : cm < 0
  ·have HQ' : Hid (Z2b (l.take (k + 1)) = pp) := L0 (by rw [HQ.o, if_pos hc])
   go_wp2_with (first | (go_at_call 145; (with_reducible refine (Z87 wr HX.o HP.o).mono ?_); rintro e w4 ⟨z4, rfl, how4, hb4⟩; obtain ⟨A4, c4, rfl⟩ := how4.value; have hr4 := how4.rel (by decide)) | (go_at_call 146; (with_reducible refine (Y0r w4 hr4 (jB HS9.o hb4) HC.o).mono ?_); rintro e w5 ⟨rfl, rfl⟩))
   go_roundw
   exact ⟨k + 1, pp, A4, c4, by omega, by go_num, rfl, HQ', L0 ⟨_, X0a hr4 hb.size⟩, hb.trans (hb4.mono hb.size)⟩
   simp [intOf]; omega
  have HQ' : Hid (Z2b (l.take (k + 1)) = out) := L0 (by rw [HQ.o, if_neg hc])
  go_wp2_with (first | (go_at_call 145; (with_reducible refine (Z87 wr HX.o HP.o).mono ?_); rintro e w4 ⟨z4, rfl, how4, hb4⟩; obtain ⟨A4, c4, rfl⟩ := how4.value; have hr4 := how4.rel (by decide)) | (go_at_call 146; (with_reducible refine (Y0r w4 hr4 (jB HS9.o hb4) HC.o).mono ?_); rintro e w5 ⟨rfl, rfl⟩))
  go_roundw
  exact ⟨k + 1, out, Ao, co, by omega, by go_num, rfl, HQ', L0 ⟨_, jB HS9.o hb4⟩, hb.trans (hb4.mono hb.size)⟩
  simp [intOf]; omega
 have HQ : Hid (Z2b l = out) := L0 (by rw [<- HI.o, L0l (by omega)])
 obtain ⟨S9, hS9⟩ := HS.o
 have HD : Hid (decide ((0 : Int) < l.length) = decide (0 < l.length)) := L0 (by rw [decide_eq_decide]; omega)
 go_wp2
 go_ret2
 exact ⟨_, S9, by rw [<- HD.o]; rfl, by rw [HQ.o]; exact hS9, hb⟩
