import Derived.Laws.Cover1
import Derived.Test.YtlopccnehgolnacGreatDoorGK18
import Derived.Test.YtlopccnehgolnacGreatDoorGK11
import Derived.Test.YtlopccnehgolnacGreatDoorBookB
import Derived.Test.YtlopccnehgolnacGreatDoorAreas
import Derived.Test.YtlopccnehgolnacGreatDoorGK25
namespace Go.Proofs.YtlopccnehgolnacGreatDoor
open Go.RowKit Rb
open List renaming range -> jA
open Go.Op renaming bytesLess -> jB
open Rd renaming below -> jC
set_option maxRecDepth 100000
set_option maxHeartbeats 1600000
def Y9a (l : List Dm) (k : Nat) : Txt := match l[k]? with | some d => d.name | none => []
def Y9b (l : List Tb) (k : Nat) : Txt := match l[k]? with | some d => d.name | none => []
def Y11 (l : List Dm) (k : Nat) : Bool := match l[k]? with | some d => Z4d d && (decide (k = 0) || jB (Y9a l (k - 1)) d.name) | none => true
def Y0t (l : List Dm) : Bool := (jA l.length).all (Y11 l)
def Y0m (b : Bk) (k : Nat) : Bool := match b.tabs[k]? with | some t => Z0s t && !(findD b.doms t.name).isSome && (decide (k = 0) || jB (Y9b b.tabs (k - 1)) t.name) | none => true
def Z7l (b : Bk) : Bool := (jA b.tabs.length).all (Y0m b)
def bxOf (b : Bk) (t : Tb) : Bx := Z3a (Z5f b t)
def Z03 (b : Bk) : List Tb -> Txt × List Int × Int
 | [] => ([], [], 0)
 | t :: l => if 0 < (Z2k t (bxOf b t)).length then (t.name, Z2b (Z2k t (bxOf b t)), 8)
  else if 0 < (gapB t (bxOf b t)).length /\ t.comp = true then (t.name, Z2b (gapB t (bxOf b t)), 7) else Z03 b l
def Z0j (b : Bk) : Txt × List Int × Int :=
 if 4 < b.doms.length \/ 4 < b.tabs.length then ([], [], 11)
 else if Y0t b.doms = false then ([], [], 1)
 else if Z7l b = false then ([], [], 1)
 else match b.tabs.find? fun t => !Z1i (Z5f b t) with
  | some t => (t.name, [], 3)
  | none => if (Z3d b).isSome = false then ([], [], 6) else Z03 b b.tabs
theorem Z3n {p : Nat -> Bool} {n k : Nat} (hk : k < n) (h : p k = false) : (jA n).all p = false := by
 rw [List.all_eq_false]
 exact ⟨k, L2k.2 hk, by simp [h]⟩
theorem Z4b {p : Nat -> Bool} {n k : Nat} (hk : ¬ k < n) (h : ∀ j, j < k -> p j = true) : (jA n).all p = true := by
 rw [L1t]
 intro x hx
 rw [L2k] at hx
 exact h x (by omega)
theorem Z50 {p : Nat -> Bool} {k : Nat} (h : ∀ j, j < k -> p j = true) (hk : p k = true) : ∀ j, j < k + 1 -> p j = true := by
 intro j hj
 rcases L4t.1 hj with h1 | rfl
 ·exact h j h1
 exact hk
theorem Y3f {l : List Dm} {k : Nat} (hk : k < l.length) (h : Y11 l k = false) : Y0t l = false := Z3n hk h
theorem Y0c {b : Bk} {k : Nat} (hk : k < b.tabs.length) (h : Y0m b k = false) : Z7l b = false := Z3n hk h
theorem SmallT.good {t : Tb} (h : Z0s t = true) : SmallT t := ⟨(Z00 h).2.2.2.2.2, fun _ hr => Z9l h hr⟩
theorem Z3u {b : Bk} (h : Z7l b = true) : ∀ t ∈ b.tabs, Z0s t = true := by
 intro t ht
 obtain ⟨i, hi, rfl⟩ := L1u ht
 have := L1t.1 h i (L2k.2 hi)
 unfold Y0m at this
 rw [L0f hi] at this
 simp only [L0t] at this
 exact this.1.1
theorem SmallB.good {b : Bk} (h : Z7l b = true) : SmallB b := fun t ht => .good (Z3u h t ht)
theorem Y1n {d : Dm} {r : Bool} (w : World) (hs : d.name.length <= 140737488355328) (h : Z4d d = r) :
  Calls Tryz.prog 77 #[.agg #[sq d.name, .int .i64 d.lo, .int .i64 d.hi]] w fun e w' => e = .returned (.bool r) /\ Bw w w' := h ▸ Z4a d w hs
theorem Y1h {S T : Nat -> Prop} {bs cs : List Value} {b : Bk} {t : Tb} {o : Option Bx} (w : World) (hb : rBk.rel w S bs b) (ht : rTb.rel w T cs t) (hsm : SmallB b) (h3 : t.ins.length <= 3) (h : Z5f b t = o) :
  Calls Tryz.prog 96 #[.agg bs.toArray, .agg cs.toArray] w fun e w' => ∃ z, e = .returned (.tuple #[z, .bool (Z1i o)]) /\ Own (rSl rRg) 70 w' w.heap.size (fun _ => False) z (Z3a o) /\ Bw w w' := h ▸ Y7w w hb ht hsm h3
theorem Y1q {S : Nat -> Prop} {bs : List Value} {b : Bk} {o : Option (List Txt)} (w : World) (hl : rBk.rel w S bs b) (h : Z3d b = o) :
  Calls Tryz.prog 85 #[.agg bs.toArray] w fun e w' => ∃ z, e = .returned (.tuple #[z, .bool o.isSome]) /\ (rSl rStr).rel w' (Up (fun _ => False) w.heap.size) [z] (o.getD []) /\ Bw w w' := h ▸ Y79 w hl
theorem Y5r {S T : Nat -> Prop} {cs : List Value} {t : Tb} {u : Value} {all : Bx} {l : List Bx} (w : World) (hl : rTb.rel w S cs t) (hm : rBx.rel w T [u] all) (h : Z2k t all = l) :
  Calls Tryz.prog 97 #[.agg cs.toArray, u] w fun e w' => ∃ z S', e = .returned (.tuple #[z, .bool (decide (0 < l.length))]) /\ (rSl rInt).rel w' (New w S') [z] (Z2b l) /\ Bw w w' := h ▸ Y7z w hl hm
theorem X38 {S T : Nat -> Prop} {cs : List Value} {t : Tb} {u : Value} {all : Bx} {l : List Bx} (w : World) (hl : rTb.rel w S cs t) (hm : rBx.rel w T [u] all) (h : gapB t all = l) :
  Calls Tryz.prog 98 #[.agg cs.toArray, u] w fun e w' => ∃ z S', e = .returned (.tuple #[z, .bool (decide (0 < l.length))]) /\ (rSl rInt).rel w' (New w S') [z] (Z2b l) /\ Bw w w' := h ▸ X2w w hl hm
theorem X1c {S : Nat -> Prop} (w : World) : (rSl rInt).rel w S [nl] [] := ⟨none, 0, rfl, L0g _, by decide, by simp, fun i x hx => by simp at hx⟩
def Y3b (b : Bk) (w : World) (e : Ending) (w' : World) : Prop := ∃ z S', e = .returned (.tuple #[.string ⟨(Z0j b).1.toArray⟩, z, .int .i64 (Z0j b).2.2]) /\ (rSl rInt).rel w' (New w S') [z] (Z0j b).2.1 /\ Bw w w'
theorem Y7y {S : Nat -> Prop} {bs : List Value} {b : Bk} (w : World) (hl : rBk.rel w S bs b) :
  Calls Tryz.prog 64 #[.agg bs.toArray] w fun e w' => Y3b b w e w' := by
 have hl' := hl
 obtain ⟨v0, u0, rfl, hd, htb⟩ := hl
 obtain ⟨A, c, rfl, _, _, hbd, hD⟩ := rSl.elems hd
 obtain ⟨B, d, rfl, _, _, hbt, hF⟩ := rSl.elems htb
 have hld : b.doms.length <= 4398046511104 := by simp only [rDm] at hbd; omega
 have hlt5 : b.tabs.length <= 1759218604441 := by simp only [rTb] at hbt; omega
 obtain ⟨W0, e0, HB0, hs0, HBK⟩ : ∃ W0, w.alloc (.cells #[.slice A b.doms.length c, .slice B b.tabs.length d] 38) = W0 /\ Hid (Bw w W0) /\ w.heap.size < W0.heap.size /\ Hid (rBk.rel W0 S [.slice A b.doms.length c, .slice B b.tabs.length d] b) := ⟨_, rfl, L0 bA, by simp, L0 (Rd.alloc hl' _)⟩; have c0 := ac0 e0; have c1 := ac1 e0
 clear hl' hd htb hbd hbt
 have HD := L0 hD
 have HF := L0 hF
 clear hD hF
 have HZ : Hid (∀ (e : Ending) (w' : World) (r : Txt × List Int × Int), Z0j b = r -> e = .returned (.tuple #[sq r.1, nl, .int .i64 r.2.2]) -> r.2.1 = [] -> Bw W0 w' -> Y3b b w e w') := L0 (by
  rintro e w' r rfl rfl h h2
  exact ⟨_, fun _ => True, rfl, by rw [h]; exact X1c _, HB0.o.trans (h2.mono HB0.o.size)⟩)
 go_enter Tryz.func64, Tryz.ntmps64
 by_cases hm1 : 4 < b.doms.length
 ·have hi1 : (4 : Int) < b.doms.length := by omega
  have HC : Hid (Z0j b = ([], [], 11)) := L0 (by unfold Z0j; rw [if_pos (.inl hm1)])
  go_wp2
  go_ret3
  exact HZ.o _ _ _ HC.o rfl rfl (L0m _ _)
 have hi1 : ¬ (4 : Int) < b.doms.length := by omega
 by_cases hm2 : 4 < b.tabs.length
 ·have hi2 : (4 : Int) < b.tabs.length := by omega
  have HC : Hid (Z0j b = ([], [], 11)) := L0 (by unfold Z0j; rw [if_pos (.inr hm2)])
  go_wp2
  go_ret3
  exact HZ.o _ _ _ HC.o rfl rfl (L0m _ _)
 have hi2 : ¬ (4 : Int) < b.tabs.length := by omega
 have HC1 : Hid (Z0j b = if Y0t b.doms = false then ([], [], 1) else if Z7l b = false then ([], [], 1) else match b.tabs.find? fun t => !Z1i (Z5f b t) with
  | some t => (t.name, [], 3) | none => if (Z3d b).isSome = false then ([], [], 6) else Z03 b b.tabs) := L0 (by unfold Z0j; rw [if_neg (by omega)])
 clear hm1 hm2
 go_wp2
 clear e0 hi1 hi2
 go_loopw [38] (fun i wr => ∃ k : Nat, k <= b.doms.length /\ i = .int .i64 k /\ Hid (∀ j, j < k -> Y11 b.doms j = true) /\ Hid (Bw W0 wr)) (fun i _ => b.doms.length - (intOf i).toNat)
 exact ⟨0, L0o _, rfl, L0 (by omega), L0 (L0m _ _)⟩
 obtain ⟨k, hk, rfl, HK, HB⟩ := hrel
 by_cases hlt : k < b.doms.length
 ·obtain ⟨bB, off, x, rfl, hbB, hx, ⟨hxl, _⟩, g0, g1, g2⟩ := HD.o.dm hlt
  have hbw := HB0.o.trans (HB.o.mono HB0.o.size)
  rw [<- hbw.ce _ hbB] at g0 g1 g2
  have hik : (k : Int) < b.doms.length := by omega
  have HDK : Hid (Y11 b.doms k = (Z4d x && (decide (k = 0) || jB (Y9a b.doms (k - 1)) x.name))) := L0 (by unfold Y11; rw [hx])
  have HX := L0 hx
  obtain ⟨gd, hgd⟩ : ∃ r, Z4d x = r := ⟨_, rfl⟩
  have HGD := L0 hgd
  obtain ⟨W3, e3, HB3, q0, q3⟩ : ∃ W3, wr.alloc (.cells #[sq x.name, .int .i64 x.lo, .int .i64 x.hi] 63) = W3 /\ Hid (Bw W0 W3) /\ W3.cell? (zn w.heap.size 0) = some (.slice (some (zn bB off)) b.doms.length c) /\ wr.heap.size < W3.heap.size := ⟨_, rfl, L0 (HB.o.alloc HB.o.size _), ((HB.o.alloc HB.o.size _).ce 0 hs0).trans c0, by simp⟩; have j0 := ac0 e3; have j1 := ac1 e3; have j2 := ac2 e3
  have hq0 : w.heap.size < W3.heap.size := L0c hs0 HB3.o.size
  have HCG := L0 fun w' (_ : Bw W3 w') => Y1n w' hxl hgd
  clear hx hgd hbw
  cases gd
  ·have HC : Hid (Z0j b = ([], [], 1)) := L0 (by rw [HC1.o, if_pos (Y3f hlt (by rw [HDK.o, HGD.o]; rfl))])
   go_wp2
   refine wp_region_quiet_below (by kernel_rfl) (by kernel_rfl) ?_
   repeat (go_big_quiet_step (exact Calls.inBelow HCG.o _ _))
   refine wpQuiet_nil ?_
   intro _ hw'
   obtain ⟨⟨dq, osq⟩, hw''⟩ := hw'
   subst hw''
   go_wp2
   go_ret3
   exact HZ.o _ _ _ HC.o rfl rfl (HB3.o.trans ((below_regrown _ _ _).mono HB3.o.size))
  by_cases hk0 : k = 0
  ·have hz : decide ((0 : Int) < k) = false := decide_eq_false (by omega)
   have hz2 : decide (0 < k) = false := decide_eq_false (by omega)
   have HS := L0 (Z50 HK.o (by rw [HDK.o, HGD.o, decide_eq_true hk0]; rfl))
   clear hk0
   go_wp2
   refine wp_region_quiet_below (by kernel_rfl) (by kernel_rfl) ?_
   repeat (go_big_quiet_step (exact Calls.inBelow HCG.o _ _))
   refine wpQuiet_nil ?_
   intro _ hw'
   obtain ⟨⟨dq, osq⟩, hw''⟩ := hw'
   subst hw''
   go_wp2
   go_roundw
   exact ⟨k + 1, by omega, by go_num, HS, L0 (HB3.o.trans ((below_regrown _ _ _).mono HB3.o.size))⟩
   simp [intOf]; omega
  have hz : decide ((0 : Int) < k) = true := decide_eq_true (by omega)
  have hz2 : decide (0 < k) = true := decide_eq_true (by omega)
  obtain ⟨m, hm⟩ : ∃ m, k = m + 1 := ⟨k - 1, by omega⟩
  have him : (k : Int) - 1 = (m : Int) := by omega
  have hml : (m : Int) < b.doms.length := by omega
  obtain ⟨bB', off', y, hA', hbB', hy, _, y0, _, _⟩ := HD.o.dm (show m < b.doms.length by omega)
  obtain ⟨rfl, rfl⟩ : bB = bB' /\ off = off' := by simpa using hA'
  rw [<- (HB0.o.trans (HB3.o.mono HB0.o.size)).ce _ hbB] at y0
  have hbb : bB < W3.heap.size := L0c (L0c hbB HB0.o.size) HB3.o.size
  obtain ⟨lt, hlt'⟩ : ∃ r, jB y.name x.name = r := ⟨_, rfl⟩
  have HDK' : Hid (Y11 b.doms k = lt) := L0 (by
   rw [HDK.o, HGD.o, decide_eq_false hk0, show k - 1 = m by omega]
   simp [Y9a, hy, hlt'])
  clear hm hy hA' hk0
  cases lt
  ·have HC : Hid (Z0j b = ([], [], 1)) := L0 (by rw [HC1.o, if_pos (Y3f hlt HDK'.o)])
   go_wp2
   refine wp_region_quiet_below (by kernel_rfl) (by kernel_rfl) ?_
   repeat (go_big_quiet_step (exact Calls.inBelow HCG.o _ _))
   refine wpQuiet_nil ?_
   intro _ hw'
   obtain ⟨⟨dq, osq⟩, hw''⟩ := hw'
   subst hw''
   go_wp2
   go_ret3
   exact HZ.o _ _ _ HC.o rfl rfl (HB3.o.trans ((below_regrown _ _ _).mono HB3.o.size))
  have HS := L0 (Z50 HK.o HDK'.o)
  go_wp2
  refine wp_region_quiet_below (by kernel_rfl) (by kernel_rfl) ?_
  repeat (go_big_quiet_step (exact Calls.inBelow HCG.o _ _))
  refine wpQuiet_nil ?_
  intro _ hw'
  obtain ⟨⟨dq, osq⟩, hw''⟩ := hw'
  subst hw''
  go_wp2
  go_roundw
  exact ⟨k + 1, by omega, by go_num, HS, L0 (HB3.o.trans ((below_regrown _ _ _).mono HB3.o.size))⟩
  simp [intOf]; omega
 have HC2 := L0 (HC1.o.trans (if_neg (by rw [show Y0t b.doms = true from Z4b hlt HK.o]; decide)))
 clear HK HC1 hk
 obtain ⟨w1, hw1⟩ : ∃ x, x = wr := ⟨_, rfl⟩
 subst hw1
 have c11 := (HB.o.ce 1 hs0).trans c1
 go_wp2
 clear c11 hlt
 have HBw1 := HB
 clear HB
 go_loopw [66] (fun i wr => ∃ k : Nat, k <= b.tabs.length /\ i = .int .i64 k /\ Hid (∀ j, j < k -> Y0m b j = true) /\ Hid (Bw W0 wr)) (fun i _ => b.tabs.length - (intOf i).toNat)
 exact ⟨0, L0o _, rfl, L0 (by omega), HBw1⟩
 obtain ⟨k, hk, rfl, HK, HB⟩ := hrel
 by_cases hlt : k < b.tabs.length
 ·obtain ⟨bB, off, x, A1, ca, A2, cb, rfl, hbB, hx, hr, g0, g1, g2, g3, g4⟩ := HF.o.tb hlt
  have hbw := HB0.o.trans (HB.o.mono HB0.o.size)
  rw [<- hbw.ce _ hbB] at g0 g1 g2 g3 g4
  have hik : (k : Int) < b.tabs.length := by omega
  have HX := L0 hx
  have hxl : x.name.length <= 140737488355328 := by obtain ⟨_, _, _, h, _⟩ := hr; exact h
  have HTK : Hid (Y0m b k = (Z0s x && !(findD b.doms x.name).isSome && (decide (k = 0) || jB (Y9b b.tabs (k - 1)) x.name))) := L0 (by unfold Y0m; rw [hx])
  obtain ⟨gt, hgt⟩ : ∃ r, Z0s x = r := ⟨_, rfl⟩
  obtain ⟨fd, hfd⟩ : ∃ r, (findD b.doms x.name).isSome = r := ⟨_, rfl⟩
  obtain ⟨dm, hdm⟩ : ∃ r, dmOf (findD b.doms x.name) = r := ⟨_, rfl⟩
  have HGT := L0 hgt
  have HD1 := L0 hdm
  have HD2 := L0 hfd
  obtain ⟨W3, e3, HB3, j0, j1, j2, j3, j4, q0, q1, HR3, HK3, hw3s⟩ : ∃ W3, wr.alloc (.cells #[sq x.name, .int .i64 x.pol, .bool x.comp, .slice A1 x.ins.length ca, .slice A2 x.rules.length cb] 66) = W3 /\ Hid (Bw W0 W3) /\ W3.cell? (zn wr.heap.size 0) = some (sq x.name) /\ W3.cell? (zn wr.heap.size 1) = some (.int .i64 x.pol) /\ W3.cell? (zn wr.heap.size 2) = some (.bool x.comp) /\ W3.cell? (zn wr.heap.size 3) = some (.slice A1 x.ins.length ca) /\ W3.cell? (zn wr.heap.size 4) = some (.slice A2 x.rules.length cb) /\
    W3.cell? (zn w.heap.size 0) = some (.slice A b.doms.length c) /\ W3.cell? (zn w.heap.size 1) = some (.slice (some (zn bB off)) b.tabs.length d) /\ Hid (rTb.rel W3 S [sq x.name, .int .i64 x.pol, .bool x.comp, .slice A1 x.ins.length ca, .slice A2 x.rules.length cb] x) /\ Hid (rBk.rel W3 S [.slice A b.doms.length c, .slice (some (zn bB off)) b.tabs.length d] b) /\ wr.heap.size < W3.heap.size :=
   ⟨_, rfl, L0 (HB.o.alloc HB.o.size _), L0b _ _ _ _, L0b _ _ _ _, L0b _ _ _ _, L0b _ _ _ _, L0b _ _ _ _,
    ((HB.o.alloc HB.o.size _).ce 0 hs0).trans c0, ((HB.o.alloc HB.o.size _).ce 1 hs0).trans c1, L0 (jC hr (hbw.alloc hbw.size _)), L0 (jC HBK.o (HB.o.alloc HB.o.size _)), by simp⟩
  have HS3 := L0 (L0c hs0 HB3.o.size)
  clear hx hr hgt hdm hfd hbw
  go_wp2_with (go_at_call 48; (with_reducible refine (Z2h W3 HK3.o hxl HD1.o HD2.o).mono ?_); rintro e w4 ⟨rfl, hb4⟩; obtain ⟨W5, e5, HB5, l0, l1, p0, HR5, hw5s, hws5, HB35⟩ : ∃ W5, w4.alloc (.cells #[sq dm.name, .int .i64 dm.lo, .int .i64 dm.hi] 63) = W5 /\ Hid (Bw W0 W5) /\ W5.cell? (zn wr.heap.size 0) = some (sq x.name) /\ W5.cell? (zn w.heap.size 1) = some (.slice (some (zn bB off)) b.tabs.length d) /\ (W5.cell? (zn wr.heap.size 1) = some (.int .i64 x.pol) /\ W5.cell? (zn wr.heap.size 2) = some (.bool x.comp) /\ W5.cell? (zn wr.heap.size 3) = some (.slice A1 x.ins.length ca) /\ W5.cell? (zn wr.heap.size 4) = some (.slice A2 x.rules.length cb)) /\ Hid (rTb.rel W5 S [sq x.name, .int .i64 x.pol, .bool x.comp, .slice A1 x.ins.length ca, .slice A2 x.rules.length cb] x) /\ wr.heap.size < W5.heap.size /\ w.heap.size < W5.heap.size /\ Hid (Bw W3 W5) := ⟨_, rfl, L0 (HB3.o.trans ((hb4.alloc hb4.size _).mono HB3.o.size)), ((hb4.alloc hb4.size _).ce 0 hw3s).trans j0, ((hb4.alloc hb4.size _).ce 1 HS3.o).trans q1, ⟨((hb4.alloc hb4.size _).ce 1 hw3s).trans j1, ((hb4.alloc hb4.size _).ce 2 hw3s).trans j2, ((hb4.alloc hb4.size _).ce 3 hw3s).trans j3, ((hb4.alloc hb4.size _).ce 4 hw3s).trans j4⟩, L0 (jC HR3.o (hb4.alloc hb4.size _)), L0c hw3s (by simp; exact L0h hb4.size (L1m _)), L0c HS3.o (by simp; exact L0h hb4.size (L1m _)), L0 (hb4.alloc hb4.size _)⟩; obtain ⟨p1, p2, p3, p4⟩ := p0; have HCG := L0 fun w' (hb : Bw W5 w') => Z88 w' (jC HR5.o hb) HGT.o; clear hb4)
  cases gt
  ·have HC : Hid (Z0j b = ([], [], 1)) := L0 (by rw [HC2.o, if_pos (Y0c hlt (by rw [HTK.o, HGT.o]; rfl))])
   refine wp_region_quiet_below (by kernel_rfl) (by kernel_rfl) ?_
   repeat (go_big_quiet_step (exact Calls.inBelow HCG.o _ _))
   refine wpQuiet_nil ?_
   intro _ hw'
   obtain ⟨⟨dq, osq⟩, hw''⟩ := hw'
   subst hw''
   go_wp2
   go_ret3
   exact HZ.o _ _ _ HC.o rfl rfl (HB5.o.trans ((below_regrown _ _ _).mono HB5.o.size))
  cases fd
  ·by_cases hk0 : k = 0
   ·have hz : decide ((0 : Int) < k) = false := decide_eq_false (by omega)
    have hz2 : decide (0 < k) = false := decide_eq_false (by omega)
    have HS := L0 (Z50 HK.o (by rw [HTK.o, HGT.o, HD2.o, decide_eq_true hk0]; rfl))
    clear hk0
    refine wp_region_quiet_below (by kernel_rfl) (by kernel_rfl) ?_
    repeat (go_big_quiet_step (exact Calls.inBelow HCG.o _ _))
    refine wpQuiet_nil ?_
    intro _ hw'
    obtain ⟨⟨dq, osq⟩, hw''⟩ := hw'
    subst hw''
    go_wp2
    go_roundw
    exact ⟨k + 1, by omega, by go_num, HS, L0 (HB5.o.trans ((below_regrown _ _ _).mono HB5.o.size))⟩
    simp [intOf]; omega
   have hz : decide ((0 : Int) < k) = true := decide_eq_true (by omega)
   have hz2 : decide (0 < k) = true := decide_eq_true (by omega)
   obtain ⟨m, hm⟩ : ∃ m, k = m + 1 := ⟨k - 1, by omega⟩
   have him : (k : Int) - 1 = (m : Int) := by omega
   have hml : (m : Int) < b.tabs.length := by omega
   obtain ⟨bB', off', y, _, _, _, _, hA', hbB', hy, _, y0, _, _, _, _⟩ := HF.o.tb (show m < b.tabs.length by omega)
   obtain ⟨rfl, rfl⟩ : bB = bB' /\ off = off' := by simpa using hA'
   rw [<- (HB0.o.trans (HB3.o.mono HB0.o.size)).ce _ hbB] at y0
   have HBB := L0 (L0c (L0c hbB HB0.o.size) HB3.o.size)
   obtain ⟨lt, hlt'⟩ : ∃ r, jB y.name x.name = r := ⟨_, rfl⟩
   have HTK' : Hid (Y0m b k = lt) := L0 (by
    rw [HTK.o, HGT.o, HD2.o, decide_eq_false hk0, show k - 1 = m by omega]
    simp [Y9b, hy, hlt'])
   clear hm hy hA' hk0
   cases lt
   ·have HC : Hid (Z0j b = ([], [], 1)) := L0 (by rw [HC2.o, if_pos (Y0c hlt HTK'.o)])
    have z0 := (HB35.o.ce _ HBB.o).trans y0
    have hbb := L0c HBB.o HB35.o.size
    refine wp_region_quiet_below (by kernel_rfl) (by kernel_rfl) ?_
    repeat (go_big_quiet_step (exact Calls.inBelow HCG.o _ _))
    refine wpQuiet_nil ?_
    intro _ hw'
    obtain ⟨⟨dq, osq⟩, hw''⟩ := hw'
    subst hw''
    go_wp2
    go_ret3
    exact HZ.o _ _ _ HC.o rfl rfl (HB5.o.trans ((below_regrown _ _ _).mono HB5.o.size))
   have HS := L0 (Z50 HK.o HTK'.o)
   have z0 := (HB35.o.ce _ HBB.o).trans y0
   have hbb := L0c HBB.o HB35.o.size
   refine wp_region_quiet_below (by kernel_rfl) (by kernel_rfl) ?_
   repeat (go_big_quiet_step (exact Calls.inBelow HCG.o _ _))
   refine wpQuiet_nil ?_
   intro _ hw'
   obtain ⟨⟨dq, osq⟩, hw''⟩ := hw'
   subst hw''
   go_wp2
   go_roundw
   exact ⟨k + 1, by omega, by go_num, HS, L0 (HB5.o.trans ((below_regrown _ _ _).mono HB5.o.size))⟩
   simp [intOf]; omega
  have HC : Hid (Z0j b = ([], [], 1)) := L0 (by rw [HC2.o, if_pos (Y0c hlt (by rw [HTK.o, HGT.o, HD2.o]; rfl))])
  refine wp_region_quiet_below (by kernel_rfl) (by kernel_rfl) ?_
  repeat (go_big_quiet_step (exact Calls.inBelow HCG.o _ _))
  refine wpQuiet_nil ?_
  intro _ hw'
  obtain ⟨⟨dq, osq⟩, hw''⟩ := hw'
  subst hw''
  go_wp2
  go_ret3
  exact HZ.o _ _ _ HC.o rfl rfl (HB5.o.trans ((below_regrown _ _ _).mono HB5.o.size))
 have HTO : Hid (Z7l b = true) := L0 (Z4b hlt HK.o)
 have HC3 := L0 (HC2.o.trans (if_neg (by rw [HTO.o]; decide)))
 clear HK HC2 hk
 obtain ⟨w2, hw2⟩ : ∃ x, x = wr := ⟨_, rfl⟩
 subst hw2
 have c12 := (HB.o.ce 1 hs0).trans c1
 go_wp2
 clear c12 hlt
 have HBw2 := HB
 clear HB
 have HSM := L0 (SmallB.good HTO.o)
 go_loopw [104] (fun i wr => ∃ k : Nat, k <= b.tabs.length /\ i = .int .i64 k /\ Hid ((b.tabs.find? fun t => !Z1i (Z5f b t)) = (b.tabs.drop k).find? fun t => !Z1i (Z5f b t)) /\ Hid (Bw W0 wr)) (fun i _ => b.tabs.length - (intOf i).toNat)
 exact ⟨0, L0o _, rfl, L0 rfl, HBw2⟩
 obtain ⟨k, hk, rfl, HK, HB⟩ := hrel
 by_cases hlt : k < b.tabs.length
 ·obtain ⟨bB, off, x, A1, ca, A2, cb, rfl, hbB, hx, hr, g0, g1, g2, g3, g4⟩ := HF.o.tb hlt
  have hbw := HB0.o.trans (HB.o.mono HB0.o.size)
  rw [<- hbw.ce _ hbB] at g0 g1 g2 g3 g4
  have hik : (k : Int) < b.tabs.length := by omega
  have HX := L0 hx
  have hxl : x.name.length <= 140737488355328 := by obtain ⟨_, _, _, h, _⟩ := hr; exact h
  have HFK := L0 (HK.o.trans (Y15 (p := fun t : Tb => !Z1i (Z5f b t)) hx))
  have HI3 : Hid (x.ins.length <= 3) := L0 (Z00 (Z3u HTO.o x (L0z hx))).2.2.2.1
  obtain ⟨ob, hob⟩ : ∃ o, Z5f b x = o := ⟨_, rfl⟩
  have HO := L0 hob
  obtain ⟨W3, e3, HB3, j0, j1, j2, j3, j4, q0, q1, HR3, HK3, hw3s⟩ : ∃ W3, wr.alloc (.cells #[sq x.name, .int .i64 x.pol, .bool x.comp, .slice A1 x.ins.length ca, .slice A2 x.rules.length cb] 66) = W3 /\ Hid (Bw W0 W3) /\ W3.cell? (zn wr.heap.size 0) = some (sq x.name) /\ W3.cell? (zn wr.heap.size 1) = some (.int .i64 x.pol) /\ W3.cell? (zn wr.heap.size 2) = some (.bool x.comp) /\ W3.cell? (zn wr.heap.size 3) = some (.slice A1 x.ins.length ca) /\ W3.cell? (zn wr.heap.size 4) = some (.slice A2 x.rules.length cb) /\
    W3.cell? (zn w.heap.size 0) = some (.slice A b.doms.length c) /\ W3.cell? (zn w.heap.size 1) = some (.slice (some (zn bB off)) b.tabs.length d) /\ Hid (rTb.rel W3 S [sq x.name, .int .i64 x.pol, .bool x.comp, .slice A1 x.ins.length ca, .slice A2 x.rules.length cb] x) /\ Hid (rBk.rel W3 S [.slice A b.doms.length c, .slice (some (zn bB off)) b.tabs.length d] b) /\ wr.heap.size < W3.heap.size :=
   ⟨_, rfl, L0 (HB.o.alloc HB.o.size _), L0b _ _ _ _, L0b _ _ _ _, L0b _ _ _ _, L0b _ _ _ _, L0b _ _ _ _,
    ((HB.o.alloc HB.o.size _).ce 0 hs0).trans c0, ((HB.o.alloc HB.o.size _).ce 1 hs0).trans c1, L0 (jC hr (hbw.alloc hbw.size _)), L0 (jC HBK.o (HB.o.alloc HB.o.size _)), by simp⟩
  have HS3 := L0 (L0c hs0 HB3.o.size)
  clear hx hr hob hbw
  cases ob
  all_goals go_wp2_with (go_at_call 96; (with_reducible refine (Y1h W3 HK3.o HR3.o HSM.o HI3.o HO.o).mono ?_); rintro e w4 ⟨z4, rfl, hown4, hb4⟩; have HB4 := L0 (HB3.o.trans (hb4.mono HB3.o.size)); have r0 := (hb4.ce 0 hw3s).trans j0; have r1 := (hb4.ce 1 hw3s).trans j1; have r2 := (hb4.ce 2 hw3s).trans j2; have r3 := (hb4.ce 3 hw3s).trans j3; have r4 := (hb4.ce 4 hw3s).trans j4; have HR4 := L0 (jC HR3.o hb4); have HS4 := L0 (L0c hw3s hb4.size); clear hb4 hown4)
  ·have HC : Hid (Z0j b = (x.name, [], 3)) := L0 (by rw [HC3.o, HFK.o, HO.o]; rfl)
   go_ret3
   exact HZ.o _ _ _ HC.o rfl rfl HB4.o
  have HK' := L0 (HFK.o.trans (by rw [HO.o]))
  go_roundw
  exact ⟨k + 1, by omega, by go_num, HK', HB4⟩
  simp [intOf]; omega
 have HFN : Hid ((b.tabs.find? fun t => !Z1i (Z5f b t)) = none) := L0 (by rw [HK.o, L0u (by omega)]; rfl)
 have HC4 := L0 (HC3.o.trans (by rw [HFN.o]))
 clear HK HC3 hk
 obtain ⟨w3, hw3⟩ : ∃ x, x = wr := ⟨_, rfl⟩
 subst hw3
 have c13 := (HB.o.ce 1 hs0).trans c1
 have c03 := (HB.o.ce 0 hs0).trans c0
 have HBKo := L0 (jC HBK.o HB.o)
 obtain ⟨oo, hoo⟩ : ∃ o, Z3d b = o := ⟨_, rfl⟩
 have HOO := L0 hoo
 clear hoo
 cases oo
 ·have HC : Hid (Z0j b = ([], [], 6)) := L0 (by rw [HC4.o, HOO.o]; rfl)
  go_wp2_with (go_at_call 85; (with_reducible refine (Y1q w3 HBKo.o HOO.o).mono ?_); rintro e wo ⟨zo, rfl, _, hbo⟩; have HBo := L0 (HB.o.trans (hbo.mono HB.o.size)))
  go_ret3
  exact HZ.o _ _ _ HC.o rfl rfl HBo.o
 have HC5 : Hid (Z0j b = Z03 b b.tabs) := L0 (by rw [HC4.o, HOO.o]; rfl)
 clear HC4
 go_wp2_with (go_at_call 85; (with_reducible refine (Y1q w3 HBKo.o HOO.o).mono ?_); rintro e wo ⟨zo, rfl, _, hbo⟩; have HBo := L0 (HB.o.trans (hbo.mono HB.o.size)); have c14 := (HBo.o.ce 1 hs0).trans c1; clear hbo c13 c03)
 clear c14 hlt
 go_loopw [129] (fun i wr => ∃ k : Nat, k <= b.tabs.length /\ i = .int .i64 k /\ Hid (Z0j b = Z03 b (b.tabs.drop k)) /\ Hid (Bw W0 wr)) (fun i _ => b.tabs.length - (intOf i).toNat)
 exact ⟨0, L0o _, rfl, L0 HC5.o, HBo⟩
 obtain ⟨k, hk, rfl, HK, HB⟩ := hrel
 by_cases hlt : k < b.tabs.length
 ·obtain ⟨bB, off, x, A1, ca, A2, cb, rfl, hbB, hx, hr, g0, g1, g2, g3, g4⟩ := HF.o.tb hlt
  have hbw := HB0.o.trans (HB.o.mono HB0.o.size)
  rw [<- hbw.ce _ hbB] at g0 g1 g2 g3 g4
  have hik : (k : Int) < b.tabs.length := by omega
  have HX := L0 hx
  have hxl : x.name.length <= 140737488355328 := by obtain ⟨_, _, _, h, _⟩ := hr; exact h
  have HKK : Hid (Z0j b = if 0 < (Z2k x (bxOf b x)).length then (x.name, Z2b (Z2k x (bxOf b x)), 8) else if 0 < (gapB x (bxOf b x)).length /\ x.comp = true then (x.name, Z2b (gapB x (bxOf b x)), 7) else Z03 b (b.tabs.drop (k + 1))) := L0 (by rw [HK.o, Z0p hx, Z03])
  have HI3 : Hid (x.ins.length <= 3) := L0 (Z00 (Z3u HTO.o x (L0z hx))).2.2.2.1
  obtain ⟨ob, hob⟩ : ∃ o, Z5f b x = o := ⟨_, rfl⟩
  obtain ⟨bx, hbx⟩ : ∃ o, Z3a ob = o := ⟨_, rfl⟩
  have HBX : Hid (bxOf b x = Z3a ob) := L0 (by unfold bxOf; rw [hob])
  have HO := L0 hob
  obtain ⟨cl, hcl⟩ : ∃ o, Z2k x (Z3a ob) = o := ⟨_, rfl⟩
  obtain ⟨ga, hga⟩ : ∃ o, gapB x (Z3a ob) = o := ⟨_, rfl⟩
  have HCL := L0 hcl
  have HGA := L0 hga
  obtain ⟨cm, hcm⟩ : ∃ r, x.comp = r := ⟨_, rfl⟩
  have HCM := L0 hcm
  rw [hcm] at hr g2
  obtain ⟨W3, e3, HB3, j0, j1, j2, j3, j4, q0, q1, HR3, HK3, hw3s⟩ : ∃ W3, wr.alloc (.cells #[sq x.name, .int .i64 x.pol, .bool cm, .slice A1 x.ins.length ca, .slice A2 x.rules.length cb] 66) = W3 /\ Hid (Bw W0 W3) /\ W3.cell? (zn wr.heap.size 0) = some (sq x.name) /\ W3.cell? (zn wr.heap.size 1) = some (.int .i64 x.pol) /\ W3.cell? (zn wr.heap.size 2) = some (.bool cm) /\ W3.cell? (zn wr.heap.size 3) = some (.slice A1 x.ins.length ca) /\ W3.cell? (zn wr.heap.size 4) = some (.slice A2 x.rules.length cb) /\
    W3.cell? (zn w.heap.size 0) = some (.slice A b.doms.length c) /\ W3.cell? (zn w.heap.size 1) = some (.slice (some (zn bB off)) b.tabs.length d) /\ Hid (rTb.rel W3 S [sq x.name, .int .i64 x.pol, .bool cm, .slice A1 x.ins.length ca, .slice A2 x.rules.length cb] x) /\ Hid (rBk.rel W3 S [.slice A b.doms.length c, .slice (some (zn bB off)) b.tabs.length d] b) /\ wr.heap.size < W3.heap.size :=
   ⟨_, rfl, L0 (HB.o.alloc HB.o.size _), L0b _ _ _ _, L0b _ _ _ _, L0b _ _ _ _, L0b _ _ _ _, L0b _ _ _ _,
    ((HB.o.alloc HB.o.size _).ce 0 hs0).trans c0, ((HB.o.alloc HB.o.size _).ce 1 hs0).trans c1, L0 (jC hr (hbw.alloc hbw.size _)), L0 (jC HBK.o (HB.o.alloc HB.o.size _)), by simp⟩
  have HS3 := L0 (L0c hs0 HB3.o.size)
  clear hx hr hob hbx hcl hga hbw hcm
  by_cases hc : 0 < cl.length
  ·have HC : Hid (Z0j b = (x.name, Z2b cl, 8)) := L0 (by rw [HKK.o, HBX.o, HCL.o, if_pos hc])
   go_wp2_with (first | (go_at_call 96; (with_reducible refine (Y1h W3 HK3.o HR3.o HSM.o HI3.o HO.o).mono ?_); rintro e w4 ⟨z4, rfl, hown4, hb4⟩; have HB4 := L0 (HB3.o.trans (hb4.mono HB3.o.size)); have r0 := (hb4.ce 0 hw3s).trans j0; have r1 := (hb4.ce 1 hw3s).trans j1; have r2 := (hb4.ce 2 hw3s).trans j2; have r3 := (hb4.ce 3 hw3s).trans j3; have r4 := (hb4.ce 4 hw3s).trans j4; have HR4 := L0 (jC HR3.o hb4); have HS4 := L0 (L0c hw3s hb4.size); have HOW4 : Hid (rBx.rel w4 (Up (fun _ => False) W3.heap.size) [z4] (Z3a ob)) := L0 (hown4.rel (by decide)); obtain ⟨Ab4, cb4, rfl⟩ := hown4.value; clear hb4 hown4) | (go_at_call 97; (with_reducible refine (Y5r w4 HR4.o HOW4.o HCL.o).mono ?_); rintro e w5 ⟨z5, S5, rfl, hz5, hb5⟩; obtain ⟨Az5, cz5, rfl, _⟩ := rSl.elems hz5; have HB5 := L0 (HB4.o.trans (hb5.mono HB4.o.size)); have s0 := (hb5.ce 0 HS4.o).trans r0; have s1 := (hb5.ce 1 HS4.o).trans r1; have s2 := (hb5.ce 2 HS4.o).trans r2; have s3 := (hb5.ce 3 HS4.o).trans r3; have s4 := (hb5.ce 4 HS4.o).trans r4; have HR5 := L0 (jC HR4.o hb5); have HOW5 := L0 (jC HOW4.o hb5); have HS5 := L0 (L0c HS4.o hb5.size); have HZ5 := L0 hz5; clear hb5 hz5))
   go_ret3
   exact ⟨_, S5, by rw [HC.o]; rfl, by rw [HC.o]; exact Y6e HZ5.o (L0h HB0.o.size HB4.o.size), HB0.o.trans (HB5.o.mono HB0.o.size)⟩
  cases cm
  all_goals
   by_cases hg : 0 < ga.length
   all_goals
    go_wp2_with (first | (go_at_call 96; (with_reducible refine (Y1h W3 HK3.o HR3.o HSM.o HI3.o HO.o).mono ?_); rintro e w4 ⟨z4, rfl, hown4, hb4⟩; have HB4 := L0 (HB3.o.trans (hb4.mono HB3.o.size)); have r0 := (hb4.ce 0 hw3s).trans j0; have r1 := (hb4.ce 1 hw3s).trans j1; have r2 := (hb4.ce 2 hw3s).trans j2; have r3 := (hb4.ce 3 hw3s).trans j3; have r4 := (hb4.ce 4 hw3s).trans j4; have HR4 := L0 (jC HR3.o hb4); have HS4 := L0 (L0c hw3s hb4.size); have HOW4 : Hid (rBx.rel w4 (Up (fun _ => False) W3.heap.size) [z4] (Z3a ob)) := L0 (hown4.rel (by decide)); obtain ⟨Ab4, cb4, rfl⟩ := hown4.value; clear hb4 hown4) | (go_at_call 97; (with_reducible refine (Y5r w4 HR4.o HOW4.o HCL.o).mono ?_); rintro e w5 ⟨z5, S5, rfl, hz5, hb5⟩; obtain ⟨Az5, cz5, rfl, _⟩ := rSl.elems hz5; have HB5 := L0 (HB4.o.trans (hb5.mono HB4.o.size)); have s0 := (hb5.ce 0 HS4.o).trans r0; have s1 := (hb5.ce 1 HS4.o).trans r1; have s2 := (hb5.ce 2 HS4.o).trans r2; have s3 := (hb5.ce 3 HS4.o).trans r3; have s4 := (hb5.ce 4 HS4.o).trans r4; have HR5 := L0 (jC HR4.o hb5); have HOW5 := L0 (jC HOW4.o hb5); have HS5 := L0 (L0c HS4.o hb5.size); have HZ5 := L0 hz5; clear hb5 hz5)| (go_at_call 98; (with_reducible refine (X38 w5 HR5.o HOW5.o HGA.o).mono ?_); rintro e w6 ⟨z6, S6, rfl, hz6, hb6⟩; obtain ⟨Az6, cz6, rfl, _⟩ := rSl.elems hz6; have HB6 := L0 (HB5.o.trans (hb6.mono HB5.o.size)); have t0 := (hb6.ce 0 HS5.o).trans s0; have t2 := (hb6.ce 2 HS5.o).trans s2; have HZ6 := L0 hz6; clear hb6 hz6))
  ·have HK' : Hid (Z0j b = Z03 b (b.tabs.drop (k + 1))) := L0 (by rw [HKK.o, HBX.o, HCL.o, if_neg hc, HGA.o, if_neg (by rw [HCM.o]; simp)])
   go_roundw
   exact ⟨k + 1, by omega, by go_num, HK', HB6⟩
   simp [intOf]; omega
  ·have HK' : Hid (Z0j b = Z03 b (b.tabs.drop (k + 1))) := L0 (by rw [HKK.o, HBX.o, HCL.o, if_neg hc, HGA.o, if_neg (by simp [hg])])
   go_roundw
   exact ⟨k + 1, by omega, by go_num, HK', HB6⟩
   simp [intOf]; omega
  ·have HC : Hid (Z0j b = (x.name, Z2b ga, 7)) := L0 (by rw [HKK.o, HBX.o, HCL.o, if_neg hc, HGA.o, if_pos ⟨hg, HCM.o⟩])
   go_ret3
   exact ⟨_, S6, by rw [HC.o]; rfl, by rw [HC.o]; exact Y6e HZ6.o (L0h HB0.o.size HB5.o.size), HB0.o.trans (HB6.o.mono HB0.o.size)⟩
  have HK' : Hid (Z0j b = Z03 b (b.tabs.drop (k + 1))) := L0 (by rw [HKK.o, HBX.o, HCL.o, if_neg hc, HGA.o, if_neg (by simp [hg])])
  go_roundw
  exact ⟨k + 1, by omega, by go_num, HK', HB6⟩
  simp [intOf]; omega
 have HC : Hid (Z0j b = ([], [], 0)) := L0 (by rw [HK.o, L0u (by omega)]; rfl)
 go_wp2
 go_ret3
 exact HZ.o _ _ _ HC.o rfl rfl HB.o
