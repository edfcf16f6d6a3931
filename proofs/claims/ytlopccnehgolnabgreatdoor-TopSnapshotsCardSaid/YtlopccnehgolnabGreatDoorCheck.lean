import Derived.Laws.Cover1
import Derived.Test.YtlopccnehgolnabGreatDoorGK18
import Derived.Test.YtlopccnehgolnabGreatDoorGK11
import Derived.Test.YtlopccnehgolnabGreatDoorBookB
import Derived.Test.YtlopccnehgolnabGreatDoorAreas
import Derived.Test.YtlopccnehgolnabGreatDoorGK25
namespace Go.Proofs.YtlopccnehgolnabGreatDoor
open Go.RowKit Rb
open List renaming range -> jA
open Go.Op renaming bytesLess -> jB
open Rd renaming below -> jC
set_option maxRecDepth 100000
set_option maxHeartbeats 1600000
def Y9l (l : List Dm) (k : Nat) : Txt := match l[k]? with | some d => d.name | none => []
def Y9m (l : List Tb) (k : Nat) : Txt := match l[k]? with | some d => d.name | none => []
def Y3m (l : List Dm) (k : Nat) : Bool := match l[k]? with | some d => Z5u d && (decide (k = 0) || jB (Y9l l (k - 1)) d.name) | none => true
def Z9u (l : List Dm) : Bool := (jA l.length).all (Y3m l)
def Y27 (b : Bk) (k : Nat) : Bool := match b.tabs[k]? with | some t => Z0u t && !(Z2k b.doms t.name).isSome && (decide (k = 0) || jB (Y9m b.tabs (k - 1)) t.name) | none => true
def Z6v (b : Bk) : Bool := (jA b.tabs.length).all (Y27 b)
def bxOf (b : Bk) (t : Tb) : Bx := Z2v (Z4t b t)
def Z0z (b : Bk) : List Tb -> Txt × List Int × Int
 | [] => ([], [], 0)
 | t :: l => if 0 < (Z2b t (bxOf b t)).length then (t.name, Z15 (Z2b t (bxOf b t)), 8)
  else if 0 < (gapB t (bxOf b t)).length /\ t.comp = true then (t.name, Z15 (gapB t (bxOf b t)), 7) else Z0z b l
def Z0i (b : Bk) : Txt × List Int × Int :=
 if 4 < b.doms.length \/ 4 < b.tabs.length then ([], [], 11)
 else if Z9u b.doms = false then ([], [], 1)
 else if Z6v b = false then ([], [], 1)
 else match b.tabs.find? fun t => !Z1d (Z4t b t) with
  | some t => (t.name, [], 3)
  | none => if (Z20 b).isSome = false then ([], [], 6) else Z0z b b.tabs
theorem Z28 {p : Nat -> Bool} {n k : Nat} (hk : k < n) (h : p k = false) : (jA n).all p = false := by
 rw [List.all_eq_false]
 exact ⟨k, L3a.2 hk, by simp [h]⟩
theorem Z3u {p : Nat -> Bool} {n k : Nat} (hk : ¬ k < n) (h : ∀ j, j < k -> p j = true) : (jA n).all p = true := by
 rw [L2e]
 intro x hx
 rw [L3a] at hx
 exact h x (by omega)
theorem Z5f {p : Nat -> Bool} {k : Nat} (h : ∀ j, j < k -> p j = true) (hk : p k = true) : ∀ j, j < k + 1 -> p j = true := by
 intro j hj
 rcases Nat.lt_succ_iff_lt_or_eq.1 hj with h1 | rfl
 ·exact h j h1
 exact hk
theorem Y2a {l : List Dm} {k : Nat} (hk : k < l.length) (h : Y3m l k = false) : Z9u l = false := Z28 hk h
theorem Z9d {b : Bk} {k : Nat} (hk : k < b.tabs.length) (h : Y27 b k = false) : Z6v b = false := Z28 hk h
theorem SmallT.good {t : Tb} (h : Z0u t = true) : SmallT t := ⟨(Z07 h).2.2.2.2.2, fun _ hr => Z8m h hr⟩
theorem Z4l {b : Bk} (h : Z6v b = true) : ∀ t ∈ b.tabs, Z0u t = true := by
 intro t ht
 obtain ⟨i, hi, rfl⟩ := L1z ht
 have := L2e.1 h i (L3a.2 hi)
 unfold Y27 at this
 rw [L0g hi] at this
 simp only [L0y] at this
 exact this.1.1
theorem SmallB.good {b : Bk} (h : Z6v b = true) : SmallB b := fun t ht => .good (Z4l h t ht)
theorem Y0l {d : Dm} {r : Bool} (w : World) (hs : d.name.length <= 140737488355328) (h : Z5u d = r) :
  Calls Tryz.prog 68 #[.agg #[.string ⟨d.name.toArray⟩, .int .i64 d.lo, .int .i64 d.hi]] w fun e w' => e = .returned (.bool r) /\ Below w.heap.size w w' := h ▸ Z3t d w hs
theorem Y0f {S T : Nat -> Prop} {bs cs : List Value} {b : Bk} {t : Tb} {o : Option Bx} (w : World) (hb : rBk.rel w S bs b) (ht : rTb.rel w T cs t) (hsm : SmallB b) (h3 : t.ins.length <= 3) (h : Z4t b t = o) :
  Calls Tryz.prog 70 #[.agg bs.toArray, .agg cs.toArray] w fun e w' => ∃ z, e = .returned (.tuple #[z, .bool (Z1d o)]) /\ Own (rSl rRg) 95 w' w.heap.size (fun _ => False) z (Z2v o) /\ Below w.heap.size w w' := h ▸ Y58 w hb ht hsm h3
theorem Y0o {S : Nat -> Prop} {bs : List Value} {b : Bk} {o : Option (List Txt)} (w : World) (hl : rBk.rel w S bs b) (h : Z20 b = o) :
  Calls Tryz.prog 34 #[.agg bs.toArray] w fun e w' => ∃ z, e = .returned (.tuple #[z, .bool o.isSome]) /\ (rSl rStr).rel w' (Up (fun _ => False) w.heap.size) [z] (o.getD []) /\ Below w.heap.size w w' := h ▸ Y6l w hl
theorem Y39 {S T : Nat -> Prop} {cs : List Value} {t : Tb} {u : Value} {all : Bx} {l : List Bx} (w : World) (hl : rTb.rel w S cs t) (hm : rBx.rel w T [u] all) (h : Z2b t all = l) :
  Calls Tryz.prog 21 #[.agg cs.toArray, u] w fun e w' => ∃ z S', e = .returned (.tuple #[z, .bool (decide (0 < l.length))]) /\ (rSl rInt).rel w' (New w S') [z] (Z15 l) /\ Below w.heap.size w w' := h ▸ Y6b w hl hm
theorem X2f {S T : Nat -> Prop} {cs : List Value} {t : Tb} {u : Value} {all : Bx} {l : List Bx} (w : World) (hl : rTb.rel w S cs t) (hm : rBx.rel w T [u] all) (h : gapB t all = l) :
  Calls Tryz.prog 19 #[.agg cs.toArray, u] w fun e w' => ∃ z S', e = .returned (.tuple #[z, .bool (decide (0 < l.length))]) /\ (rSl rInt).rel w' (New w S') [z] (Z15 l) /\ Below w.heap.size w w' := h ▸ X04 w hl hm
theorem Y9i {S : Nat -> Prop} (w : World) : (rSl rInt).rel w S [.slice none 0 0] [] := ⟨none, 0, rfl, L0f _, by decide, by simp, fun i x hx => by simp at hx⟩
def Y15 (b : Bk) (w : World) (e : Ending) (w' : World) : Prop := ∃ z S', e = .returned (.tuple #[.string ⟨(Z0i b).1.toArray⟩, z, .int .i64 (Z0i b).2.2]) /\ (rSl rInt).rel w' (New w S') [z] (Z0i b).2.1 /\ Below w.heap.size w w'
theorem Y6a {S : Nat -> Prop} {bs : List Value} {b : Bk} (w : World) (hl : rBk.rel w S bs b) :
  Calls Tryz.prog 28 #[.agg bs.toArray] w fun e w' => Y15 b w e w' := by
 have hl' := hl
 obtain ⟨v0, u0, rfl, hd, htb⟩ := hl
 obtain ⟨A, c, rfl, _, _, hbd, hD⟩ := rSl.elems hd
 obtain ⟨B, d, rfl, _, _, hbt, hF⟩ := rSl.elems htb
 have hld : b.doms.length <= 4398046511104 := by simp only [rDm] at hbd; omega
 have hlt5 : b.tabs.length <= 1759218604441 := by simp only [rTb] at hbt; omega
 obtain ⟨W0, e0, HB0, hs0, HBK⟩ : ∃ W0, w.alloc (.cells #[.slice A b.doms.length c, .slice B b.tabs.length d] 33) = W0 /\ Hid (Below w.heap.size w W0) /\ w.heap.size < W0.heap.size /\ Hid (rBk.rel W0 S [.slice A b.doms.length c, .slice B b.tabs.length d] b) := ⟨_, rfl, L0 bA, by simp, L0 (Rd.alloc hl' _)⟩; have c0 := ac0 e0; have c1 := ac1 e0
 clear hl' hd htb hbd hbt
 have HD := L0 hD
 have HF := L0 hF
 clear hD hF
 have HZ : Hid (∀ (e : Ending) (w' : World) (r : Txt × List Int × Int), Z0i b = r -> e = .returned (.tuple #[.string ⟨r.1.toArray⟩, .slice none 0 0, .int .i64 r.2.2]) -> r.2.1 = [] -> Below W0.heap.size W0 w' -> Y15 b w e w') := L0 (by
  rintro e w' r rfl rfl h h2
  exact ⟨_, fun _ => True, rfl, by rw [h]; exact Y9i _, HB0.o.trans (h2.mono HB0.o.size)⟩)
 go_enter Tryz.func28, Tryz.ntmps28
 by_cases hm1 : 4 < b.doms.length
 ·have hi1 : (4 : Int) < (b.doms.length : Int) := by omega
  have HC : Hid (Z0i b = ([], [], 11)) := L0 (by unfold Z0i; rw [if_pos (.inl hm1)])
  go_wp2
  go_ret3
  exact HZ.o _ _ _ HC.o rfl rfl (L0m _ _)
 have hi1 : ¬ (4 : Int) < (b.doms.length : Int) := by omega
 by_cases hm2 : 4 < b.tabs.length
 ·have hi2 : (4 : Int) < (b.tabs.length : Int) := by omega
  have HC : Hid (Z0i b = ([], [], 11)) := L0 (by unfold Z0i; rw [if_pos (.inr hm2)])
  go_wp2
  go_ret3
  exact HZ.o _ _ _ HC.o rfl rfl (L0m _ _)
 have hi2 : ¬ (4 : Int) < (b.tabs.length : Int) := by omega
 have HC1 : Hid (Z0i b = if Z9u b.doms = false then ([], [], 1) else if Z6v b = false then ([], [], 1) else match b.tabs.find? fun t => !Z1d (Z4t b t) with
  | some t => (t.name, [], 3) | none => if (Z20 b).isSome = false then ([], [], 6) else Z0z b b.tabs) := L0 (by unfold Z0i; rw [if_neg (by omega)])
 clear hm1 hm2
 go_wp2
 clear e0 hi1 hi2
 go_loopw [38] (fun i wr => ∃ k : Nat, k <= b.doms.length /\ i = .int .i64 k /\ Hid (∀ j, j < k -> Y3m b.doms j = true) /\ Hid (Below W0.heap.size W0 wr)) (fun i _ => b.doms.length - (intOf i).toNat)
 exact ⟨0, L0o _, rfl, L0 (by omega), L0 (L0m _ _)⟩
 obtain ⟨k, hk, rfl, HK, HB⟩ := hrel
 by_cases hlt : k < b.doms.length
 ·obtain ⟨bB, off, x, rfl, hbB, hx, ⟨hxl, _⟩, g0, g1, g2⟩ := HD.o.dm hlt
  have hbw := HB0.o.trans (HB.o.mono HB0.o.size)
  rw [<- hbw.ce _ hbB] at g0 g1 g2
  have hik : (k : Int) < (b.doms.length : Int) := by omega
  have HDK : Hid (Y3m b.doms k = (Z5u x && (decide (k = 0) || jB (Y9l b.doms (k - 1)) x.name))) := L0 (by unfold Y3m; rw [hx])
  have HX := L0 hx
  obtain ⟨gd, hgd⟩ : ∃ r, Z5u x = r := ⟨_, rfl⟩
  have HGD := L0 hgd
  obtain ⟨W3, e3, HB3, q0, q3⟩ : ∃ W3, wr.alloc (.cells #[.string ⟨x.name.toArray⟩, .int .i64 x.lo, .int .i64 x.hi] 44) = W3 /\ Hid (Below W0.heap.size W0 W3) /\ W3.cell? ⟨w.heap.size, 0, none⟩ = some (.slice (some ⟨bB, off, none⟩) b.doms.length c) /\ wr.heap.size < W3.heap.size := ⟨_, rfl, L0 (HB.o.alloc HB.o.size _), ((HB.o.alloc HB.o.size _).ce 0 hs0).trans c0, by simp⟩; have j0 := ac0 e3; have j1 := ac1 e3; have j2 := ac2 e3
  have hq0 : w.heap.size < W3.heap.size := L0c hs0 HB3.o.size
  have HCG := L0 fun w' (_ : Below W3.heap.size W3 w') => Y0l w' hxl hgd
  clear hx hgd hbw
  cases gd
  ·have HC : Hid (Z0i b = ([], [], 1)) := L0 (by rw [HC1.o, if_pos (Y2a hlt (by rw [HDK.o, HGD.o]; rfl))])
   go_wp2
   refine wp_region_quiet_below (by kernel_rfl) (by kernel_rfl) ?_
   repeat (go_big_quiet_step (exact Calls.inBelow HCG.o _ _))
   refine wpQuiet_nil ?_
   intro _ hw'
   obtain ⟨⟨dq, osq⟩, hw''⟩ := hw'
   subst hw''
   go_wp2
   go_ret3
   exact HZ.o _ _ _ HC.o rfl rfl (HB3.o.trans ((below_regrown _ _ _).mono HB3.o.size))
  by_cases hk0 : k = 0
  ·have hz : decide ((0 : Int) < (k : Int)) = false := decide_eq_false (by omega)
   have hz2 : decide (0 < k) = false := decide_eq_false (by omega)
   have HS := L0 (Z5f HK.o (by rw [HDK.o, HGD.o, decide_eq_true hk0]; rfl))
   clear hk0
   go_wp2
   refine wp_region_quiet_below (by kernel_rfl) (by kernel_rfl) ?_
   repeat (go_big_quiet_step (exact Calls.inBelow HCG.o _ _))
   refine wpQuiet_nil ?_
   intro _ hw'
   obtain ⟨⟨dq, osq⟩, hw''⟩ := hw'
   subst hw''
   go_wp2
   go_roundw
   exact ⟨k + 1, by omega, by go_num, HS, L0 (HB3.o.trans ((below_regrown _ _ _).mono HB3.o.size))⟩
   simp [intOf]; omega
  have hz : decide ((0 : Int) < (k : Int)) = true := decide_eq_true (by omega)
  have hz2 : decide (0 < k) = true := decide_eq_true (by omega)
  obtain ⟨m, hm⟩ : ∃ m, k = m + 1 := ⟨k - 1, by omega⟩
  have him : (k : Int) - 1 = (m : Int) := by omega
  have hml : (m : Int) < (b.doms.length : Int) := by omega
  obtain ⟨bB', off', y, hA', hbB', hy, _, y0, _, _⟩ := HD.o.dm (show m < b.doms.length by omega)
  obtain ⟨rfl, rfl⟩ : bB = bB' /\ off = off' := by simpa using hA'
  rw [<- (HB0.o.trans (HB3.o.mono HB0.o.size)).ce _ hbB] at y0
  have hbb : bB < W3.heap.size := L0c (L0c hbB HB0.o.size) HB3.o.size
  obtain ⟨lt, hlt'⟩ : ∃ r, jB y.name x.name = r := ⟨_, rfl⟩
  have HDK' : Hid (Y3m b.doms k = lt) := L0 (by
   rw [HDK.o, HGD.o, decide_eq_false hk0, show k - 1 = m by omega]
   simp [Y9l, hy, hlt'])
  clear hm hy hA' hk0
  cases lt
  ·have HC : Hid (Z0i b = ([], [], 1)) := L0 (by rw [HC1.o, if_pos (Y2a hlt HDK'.o)])
   go_wp2
   refine wp_region_quiet_below (by kernel_rfl) (by kernel_rfl) ?_
   repeat (go_big_quiet_step (exact Calls.inBelow HCG.o _ _))
   refine wpQuiet_nil ?_
   intro _ hw'
   obtain ⟨⟨dq, osq⟩, hw''⟩ := hw'
   subst hw''
   go_wp2
   go_ret3
   exact HZ.o _ _ _ HC.o rfl rfl (HB3.o.trans ((below_regrown _ _ _).mono HB3.o.size))
  have HS := L0 (Z5f HK.o HDK'.o)
  go_wp2
  refine wp_region_quiet_below (by kernel_rfl) (by kernel_rfl) ?_
  repeat (go_big_quiet_step (exact Calls.inBelow HCG.o _ _))
  refine wpQuiet_nil ?_
  intro _ hw'
  obtain ⟨⟨dq, osq⟩, hw''⟩ := hw'
  subst hw''
  go_wp2
  go_roundw
  exact ⟨k + 1, by omega, by go_num, HS, L0 (HB3.o.trans ((below_regrown _ _ _).mono HB3.o.size))⟩
  simp [intOf]; omega
 have HC2 := L0 (HC1.o.trans (if_neg (by rw [show Z9u b.doms = true from Z3u hlt HK.o]; decide)))
 clear HK HC1 hk
 obtain ⟨w1, hw1⟩ : ∃ x, x = wr := ⟨_, rfl⟩
 subst hw1
 have c11 := (HB.o.ce 1 hs0).trans c1
 go_wp2
 clear c11 hlt
 have HBw1 := HB
 clear HB
 go_loopw [66] (fun i wr => ∃ k : Nat, k <= b.tabs.length /\ i = .int .i64 k /\ Hid (∀ j, j < k -> Y27 b j = true) /\ Hid (Below W0.heap.size W0 wr)) (fun i _ => b.tabs.length - (intOf i).toNat)
 exact ⟨0, L0o _, rfl, L0 (by omega), HBw1⟩
 obtain ⟨k, hk, rfl, HK, HB⟩ := hrel
 by_cases hlt : k < b.tabs.length
 ·obtain ⟨bB, off, x, A1, ca, A2, cb, rfl, hbB, hx, hr, g0, g1, g2, g3, g4⟩ := HF.o.tb hlt
  have hbw := HB0.o.trans (HB.o.mono HB0.o.size)
  rw [<- hbw.ce _ hbB] at g0 g1 g2 g3 g4
  have hik : (k : Int) < (b.tabs.length : Int) := by omega
  have HX := L0 hx
  have hxl : x.name.length <= 140737488355328 := by obtain ⟨_, _, _, h, _⟩ := hr; exact h
  have HTK : Hid (Y27 b k = (Z0u x && !(Z2k b.doms x.name).isSome && (decide (k = 0) || jB (Y9m b.tabs (k - 1)) x.name))) := L0 (by unfold Y27; rw [hx])
  obtain ⟨gt, hgt⟩ : ∃ r, Z0u x = r := ⟨_, rfl⟩
  obtain ⟨fd, hfd⟩ : ∃ r, (Z2k b.doms x.name).isSome = r := ⟨_, rfl⟩
  obtain ⟨dm, hdm⟩ : ∃ r, dmOf (Z2k b.doms x.name) = r := ⟨_, rfl⟩
  have HGT := L0 hgt
  have HD1 := L0 hdm
  have HD2 := L0 hfd
  obtain ⟨W3, e3, HB3, j0, j1, j2, j3, j4, q0, q1, HR3, HK3, hw3s⟩ : ∃ W3, wr.alloc (.cells #[.string ⟨x.name.toArray⟩, .int .i64 x.pol, .bool x.comp, .slice A1 x.ins.length ca, .slice A2 x.rules.length cb] 42) = W3 /\ Hid (Below W0.heap.size W0 W3) /\ W3.cell? ⟨wr.heap.size, 0, none⟩ = some (.string ⟨x.name.toArray⟩) /\ W3.cell? ⟨wr.heap.size, 1, none⟩ = some (.int .i64 x.pol) /\ W3.cell? ⟨wr.heap.size, 2, none⟩ = some (.bool x.comp) /\ W3.cell? ⟨wr.heap.size, 3, none⟩ = some (.slice A1 x.ins.length ca) /\ W3.cell? ⟨wr.heap.size, 4, none⟩ = some (.slice A2 x.rules.length cb) /\
    W3.cell? ⟨w.heap.size, 0, none⟩ = some (.slice A b.doms.length c) /\ W3.cell? ⟨w.heap.size, 1, none⟩ = some (.slice (some ⟨bB, off, none⟩) b.tabs.length d) /\ Hid (rTb.rel W3 S [.string ⟨x.name.toArray⟩, .int .i64 x.pol, .bool x.comp, .slice A1 x.ins.length ca, .slice A2 x.rules.length cb] x) /\ Hid (rBk.rel W3 S [.slice A b.doms.length c, .slice (some ⟨bB, off, none⟩) b.tabs.length d] b) /\ wr.heap.size < W3.heap.size :=
   ⟨_, rfl, L0 (HB.o.alloc HB.o.size _), L0b _ _ _ _, L0b _ _ _ _, L0b _ _ _ _, L0b _ _ _ _, L0b _ _ _ _,
    ((HB.o.alloc HB.o.size _).ce 0 hs0).trans c0, ((HB.o.alloc HB.o.size _).ce 1 hs0).trans c1, L0 (jC hr (hbw.alloc hbw.size _)), L0 (jC HBK.o (HB.o.alloc HB.o.size _)), by simp⟩
  have HS3 := L0 (L0c hs0 HB3.o.size)
  clear hx hr hgt hdm hfd hbw
  go_wp2_with (go_at_call 69; (with_reducible refine (Z19 W3 HK3.o hxl HD1.o HD2.o).mono ?_); rintro e w4 ⟨rfl, hb4⟩; obtain ⟨W5, e5, HB5, l0, l1, p0, HR5, hw5s, hws5, HB35⟩ : ∃ W5, w4.alloc (.cells #[.string ⟨dm.name.toArray⟩, .int .i64 dm.lo, .int .i64 dm.hi] 44) = W5 /\ Hid (Below W0.heap.size W0 W5) /\ W5.cell? ⟨wr.heap.size, 0, none⟩ = some (.string ⟨x.name.toArray⟩) /\ W5.cell? ⟨w.heap.size, 1, none⟩ = some (.slice (some ⟨bB, off, none⟩) b.tabs.length d) /\ (W5.cell? ⟨wr.heap.size, 1, none⟩ = some (.int .i64 x.pol) /\ W5.cell? ⟨wr.heap.size, 2, none⟩ = some (.bool x.comp) /\ W5.cell? ⟨wr.heap.size, 3, none⟩ = some (.slice A1 x.ins.length ca) /\ W5.cell? ⟨wr.heap.size, 4, none⟩ = some (.slice A2 x.rules.length cb)) /\ Hid (rTb.rel W5 S [.string ⟨x.name.toArray⟩, .int .i64 x.pol, .bool x.comp, .slice A1 x.ins.length ca, .slice A2 x.rules.length cb] x) /\ wr.heap.size < W5.heap.size /\ w.heap.size < W5.heap.size /\ Hid (Below W3.heap.size W3 W5) := ⟨_, rfl, L0 (HB3.o.trans ((hb4.alloc hb4.size _).mono HB3.o.size)), ((hb4.alloc hb4.size _).ce 0 hw3s).trans j0, ((hb4.alloc hb4.size _).ce 1 HS3.o).trans q1, ⟨((hb4.alloc hb4.size _).ce 1 hw3s).trans j1, ((hb4.alloc hb4.size _).ce 2 hw3s).trans j2, ((hb4.alloc hb4.size _).ce 3 hw3s).trans j3, ((hb4.alloc hb4.size _).ce 4 hw3s).trans j4⟩, L0 (jC HR3.o (hb4.alloc hb4.size _)), L0c hw3s (by simp; exact L0h hb4.size (L1m _)), L0c HS3.o (by simp; exact L0h hb4.size (L1m _)), L0 (hb4.alloc hb4.size _)⟩; obtain ⟨p1, p2, p3, p4⟩ := p0; have HCG := L0 fun w' (hb : Below W5.heap.size W5 w') => Z79 w' (jC HR5.o hb) HGT.o; clear hb4)
  cases gt
  ·have HC : Hid (Z0i b = ([], [], 1)) := L0 (by rw [HC2.o, if_pos (Z9d hlt (by rw [HTK.o, HGT.o]; rfl))])
   refine wp_region_quiet_below (by kernel_rfl) (by kernel_rfl) ?_
   repeat (go_big_quiet_step (exact Calls.inBelow HCG.o _ _))
   refine wpQuiet_nil ?_
   intro _ hw'
   obtain ⟨⟨dq, osq⟩, hw''⟩ := hw'
   subst hw''
   go_wp2
   go_ret3
   exact HZ.o _ _ _ HC.o rfl rfl (HB5.o.trans ((below_regrown _ _ _).mono HB5.o.size))
  cases fd
  ·by_cases hk0 : k = 0
   ·have hz : decide ((0 : Int) < (k : Int)) = false := decide_eq_false (by omega)
    have hz2 : decide (0 < k) = false := decide_eq_false (by omega)
    have HS := L0 (Z5f HK.o (by rw [HTK.o, HGT.o, HD2.o, decide_eq_true hk0]; rfl))
    clear hk0
    refine wp_region_quiet_below (by kernel_rfl) (by kernel_rfl) ?_
    repeat (go_big_quiet_step (exact Calls.inBelow HCG.o _ _))
    refine wpQuiet_nil ?_
    intro _ hw'
    obtain ⟨⟨dq, osq⟩, hw''⟩ := hw'
    subst hw''
    go_wp2
    go_roundw
    exact ⟨k + 1, by omega, by go_num, HS, L0 (HB5.o.trans ((below_regrown _ _ _).mono HB5.o.size))⟩
    simp [intOf]; omega
   have hz : decide ((0 : Int) < (k : Int)) = true := decide_eq_true (by omega)
   have hz2 : decide (0 < k) = true := decide_eq_true (by omega)
   obtain ⟨m, hm⟩ : ∃ m, k = m + 1 := ⟨k - 1, by omega⟩
   have him : (k : Int) - 1 = (m : Int) := by omega
   have hml : (m : Int) < (b.tabs.length : Int) := by omega
   obtain ⟨bB', off', y, _, _, _, _, hA', hbB', hy, _, y0, _, _, _, _⟩ := HF.o.tb (show m < b.tabs.length by omega)
   obtain ⟨rfl, rfl⟩ : bB = bB' /\ off = off' := by simpa using hA'
   rw [<- (HB0.o.trans (HB3.o.mono HB0.o.size)).ce _ hbB] at y0
   have HBB := L0 (L0c (L0c hbB HB0.o.size) HB3.o.size)
   obtain ⟨lt, hlt'⟩ : ∃ r, jB y.name x.name = r := ⟨_, rfl⟩
   have HTK' : Hid (Y27 b k = lt) := L0 (by
    rw [HTK.o, HGT.o, HD2.o, decide_eq_false hk0, show k - 1 = m by omega]
    simp [Y9m, hy, hlt'])
   clear hm hy hA' hk0
   cases lt
   ·have HC : Hid (Z0i b = ([], [], 1)) := L0 (by rw [HC2.o, if_pos (Z9d hlt HTK'.o)])
    have z0 := (HB35.o.ce _ HBB.o).trans y0
    have hbb := L0c HBB.o HB35.o.size
    refine wp_region_quiet_below (by kernel_rfl) (by kernel_rfl) ?_
    repeat (go_big_quiet_step (exact Calls.inBelow HCG.o _ _))
    refine wpQuiet_nil ?_
    intro _ hw'
    obtain ⟨⟨dq, osq⟩, hw''⟩ := hw'
    subst hw''
    go_wp2
    go_ret3
    exact HZ.o _ _ _ HC.o rfl rfl (HB5.o.trans ((below_regrown _ _ _).mono HB5.o.size))
   have HS := L0 (Z5f HK.o HTK'.o)
   have z0 := (HB35.o.ce _ HBB.o).trans y0
   have hbb := L0c HBB.o HB35.o.size
   refine wp_region_quiet_below (by kernel_rfl) (by kernel_rfl) ?_
   repeat (go_big_quiet_step (exact Calls.inBelow HCG.o _ _))
   refine wpQuiet_nil ?_
   intro _ hw'
   obtain ⟨⟨dq, osq⟩, hw''⟩ := hw'
   subst hw''
   go_wp2
   go_roundw
   exact ⟨k + 1, by omega, by go_num, HS, L0 (HB5.o.trans ((below_regrown _ _ _).mono HB5.o.size))⟩
   simp [intOf]; omega
  have HC : Hid (Z0i b = ([], [], 1)) := L0 (by rw [HC2.o, if_pos (Z9d hlt (by rw [HTK.o, HGT.o, HD2.o]; rfl))])
  refine wp_region_quiet_below (by kernel_rfl) (by kernel_rfl) ?_
  repeat (go_big_quiet_step (exact Calls.inBelow HCG.o _ _))
  refine wpQuiet_nil ?_
  intro _ hw'
  obtain ⟨⟨dq, osq⟩, hw''⟩ := hw'
  subst hw''
  go_wp2
  go_ret3
  exact HZ.o _ _ _ HC.o rfl rfl (HB5.o.trans ((below_regrown _ _ _).mono HB5.o.size))
 have HTO : Hid (Z6v b = true) := L0 (Z3u hlt HK.o)
 have HC3 := L0 (HC2.o.trans (if_neg (by rw [HTO.o]; decide)))
 clear HK HC2 hk
 obtain ⟨w2, hw2⟩ : ∃ x, x = wr := ⟨_, rfl⟩
 subst hw2
 have c12 := (HB.o.ce 1 hs0).trans c1
 go_wp2
 clear c12 hlt
 have HBw2 := HB
 clear HB
 have HSM := L0 (SmallB.good HTO.o)
 go_loopw [104] (fun i wr => ∃ k : Nat, k <= b.tabs.length /\ i = .int .i64 k /\ Hid ((b.tabs.find? fun t => !Z1d (Z4t b t)) = (b.tabs.drop k).find? fun t => !Z1d (Z4t b t)) /\ Hid (Below W0.heap.size W0 wr)) (fun i _ => b.tabs.length - (intOf i).toNat)
 exact ⟨0, L0o _, rfl, L0 rfl, HBw2⟩
 obtain ⟨k, hk, rfl, HK, HB⟩ := hrel
 by_cases hlt : k < b.tabs.length
 ·obtain ⟨bB, off, x, A1, ca, A2, cb, rfl, hbB, hx, hr, g0, g1, g2, g3, g4⟩ := HF.o.tb hlt
  have hbw := HB0.o.trans (HB.o.mono HB0.o.size)
  rw [<- hbw.ce _ hbB] at g0 g1 g2 g3 g4
  have hik : (k : Int) < (b.tabs.length : Int) := by omega
  have HX := L0 hx
  have hxl : x.name.length <= 140737488355328 := by obtain ⟨_, _, _, h, _⟩ := hr; exact h
  have HFK := L0 (HK.o.trans (Y02 (p := fun t : Tb => !Z1d (Z4t b t)) hx))
  have HI3 : Hid (x.ins.length <= 3) := L0 (Z07 (Z4l HTO.o x (L0z hx))).2.2.2.1
  obtain ⟨ob, hob⟩ : ∃ o, Z4t b x = o := ⟨_, rfl⟩
  have HO := L0 hob
  obtain ⟨W3, e3, HB3, j0, j1, j2, j3, j4, q0, q1, HR3, HK3, hw3s⟩ : ∃ W3, wr.alloc (.cells #[.string ⟨x.name.toArray⟩, .int .i64 x.pol, .bool x.comp, .slice A1 x.ins.length ca, .slice A2 x.rules.length cb] 42) = W3 /\ Hid (Below W0.heap.size W0 W3) /\ W3.cell? ⟨wr.heap.size, 0, none⟩ = some (.string ⟨x.name.toArray⟩) /\ W3.cell? ⟨wr.heap.size, 1, none⟩ = some (.int .i64 x.pol) /\ W3.cell? ⟨wr.heap.size, 2, none⟩ = some (.bool x.comp) /\ W3.cell? ⟨wr.heap.size, 3, none⟩ = some (.slice A1 x.ins.length ca) /\ W3.cell? ⟨wr.heap.size, 4, none⟩ = some (.slice A2 x.rules.length cb) /\
    W3.cell? ⟨w.heap.size, 0, none⟩ = some (.slice A b.doms.length c) /\ W3.cell? ⟨w.heap.size, 1, none⟩ = some (.slice (some ⟨bB, off, none⟩) b.tabs.length d) /\ Hid (rTb.rel W3 S [.string ⟨x.name.toArray⟩, .int .i64 x.pol, .bool x.comp, .slice A1 x.ins.length ca, .slice A2 x.rules.length cb] x) /\ Hid (rBk.rel W3 S [.slice A b.doms.length c, .slice (some ⟨bB, off, none⟩) b.tabs.length d] b) /\ wr.heap.size < W3.heap.size :=
   ⟨_, rfl, L0 (HB.o.alloc HB.o.size _), L0b _ _ _ _, L0b _ _ _ _, L0b _ _ _ _, L0b _ _ _ _, L0b _ _ _ _,
    ((HB.o.alloc HB.o.size _).ce 0 hs0).trans c0, ((HB.o.alloc HB.o.size _).ce 1 hs0).trans c1, L0 (jC hr (hbw.alloc hbw.size _)), L0 (jC HBK.o (HB.o.alloc HB.o.size _)), by simp⟩
  have HS3 := L0 (L0c hs0 HB3.o.size)
  clear hx hr hob hbw
  cases ob
  all_goals go_wp2_with (go_at_call 70; (with_reducible refine (Y0f W3 HK3.o HR3.o HSM.o HI3.o HO.o).mono ?_); rintro e w4 ⟨z4, rfl, hown4, hb4⟩; have HB4 := L0 (HB3.o.trans (hb4.mono HB3.o.size)); have r0 := (hb4.ce 0 hw3s).trans j0; have r1 := (hb4.ce 1 hw3s).trans j1; have r2 := (hb4.ce 2 hw3s).trans j2; have r3 := (hb4.ce 3 hw3s).trans j3; have r4 := (hb4.ce 4 hw3s).trans j4; have HR4 := L0 (jC HR3.o hb4); have HS4 := L0 (L0c hw3s hb4.size); clear hb4 hown4)
  ·have HC : Hid (Z0i b = (x.name, [], 3)) := L0 (by rw [HC3.o, HFK.o, HO.o]; rfl)
   go_ret3
   exact HZ.o _ _ _ HC.o rfl rfl HB4.o
  have HK' := L0 (HFK.o.trans (by rw [HO.o]))
  go_roundw
  exact ⟨k + 1, by omega, by go_num, HK', HB4⟩
  simp [intOf]; omega
 have HFN : Hid ((b.tabs.find? fun t => !Z1d (Z4t b t)) = none) := L0 (by rw [HK.o, L0t (by omega)]; rfl)
 have HC4 := L0 (HC3.o.trans (by rw [HFN.o]))
 clear HK HC3 hk
 obtain ⟨w3, hw3⟩ : ∃ x, x = wr := ⟨_, rfl⟩
 subst hw3
 have c13 := (HB.o.ce 1 hs0).trans c1
 have c03 := (HB.o.ce 0 hs0).trans c0
 have HBKo := L0 (jC HBK.o HB.o)
 obtain ⟨oo, hoo⟩ : ∃ o, Z20 b = o := ⟨_, rfl⟩
 have HOO := L0 hoo
 clear hoo
 cases oo
 ·have HC : Hid (Z0i b = ([], [], 6)) := L0 (by rw [HC4.o, HOO.o]; rfl)
  go_wp2_with (go_at_call 34; (with_reducible refine (Y0o w3 HBKo.o HOO.o).mono ?_); rintro e wo ⟨zo, rfl, _, hbo⟩; have HBo := L0 (HB.o.trans (hbo.mono HB.o.size)))
  go_ret3
  exact HZ.o _ _ _ HC.o rfl rfl HBo.o
 have HC5 : Hid (Z0i b = Z0z b b.tabs) := L0 (by rw [HC4.o, HOO.o]; rfl)
 clear HC4
 go_wp2_with (go_at_call 34; (with_reducible refine (Y0o w3 HBKo.o HOO.o).mono ?_); rintro e wo ⟨zo, rfl, _, hbo⟩; have HBo := L0 (HB.o.trans (hbo.mono HB.o.size)); have c14 := (HBo.o.ce 1 hs0).trans c1; clear hbo c13 c03)
 clear c14 hlt
 go_loopw [129] (fun i wr => ∃ k : Nat, k <= b.tabs.length /\ i = .int .i64 k /\ Hid (Z0i b = Z0z b (b.tabs.drop k)) /\ Hid (Below W0.heap.size W0 wr)) (fun i _ => b.tabs.length - (intOf i).toNat)
 exact ⟨0, L0o _, rfl, L0 HC5.o, HBo⟩
 obtain ⟨k, hk, rfl, HK, HB⟩ := hrel
 by_cases hlt : k < b.tabs.length
 ·obtain ⟨bB, off, x, A1, ca, A2, cb, rfl, hbB, hx, hr, g0, g1, g2, g3, g4⟩ := HF.o.tb hlt
  have hbw := HB0.o.trans (HB.o.mono HB0.o.size)
  rw [<- hbw.ce _ hbB] at g0 g1 g2 g3 g4
  have hik : (k : Int) < (b.tabs.length : Int) := by omega
  have HX := L0 hx
  have hxl : x.name.length <= 140737488355328 := by obtain ⟨_, _, _, h, _⟩ := hr; exact h
  have HKK : Hid (Z0i b = if 0 < (Z2b x (bxOf b x)).length then (x.name, Z15 (Z2b x (bxOf b x)), 8) else if 0 < (gapB x (bxOf b x)).length /\ x.comp = true then (x.name, Z15 (gapB x (bxOf b x)), 7) else Z0z b (b.tabs.drop (k + 1))) := L0 (by rw [HK.o, Z0n hx, Z0z])
  have HI3 : Hid (x.ins.length <= 3) := L0 (Z07 (Z4l HTO.o x (L0z hx))).2.2.2.1
  obtain ⟨ob, hob⟩ : ∃ o, Z4t b x = o := ⟨_, rfl⟩
  obtain ⟨bx, hbx⟩ : ∃ o, Z2v ob = o := ⟨_, rfl⟩
  have HBX : Hid (bxOf b x = Z2v ob) := L0 (by unfold bxOf; rw [hob])
  have HO := L0 hob
  obtain ⟨cl, hcl⟩ : ∃ o, Z2b x (Z2v ob) = o := ⟨_, rfl⟩
  obtain ⟨ga, hga⟩ : ∃ o, gapB x (Z2v ob) = o := ⟨_, rfl⟩
  have HCL := L0 hcl
  have HGA := L0 hga
  obtain ⟨cm, hcm⟩ : ∃ r, x.comp = r := ⟨_, rfl⟩
  have HCM := L0 hcm
  rw [hcm] at hr g2
  obtain ⟨W3, e3, HB3, j0, j1, j2, j3, j4, q0, q1, HR3, HK3, hw3s⟩ : ∃ W3, wr.alloc (.cells #[.string ⟨x.name.toArray⟩, .int .i64 x.pol, .bool cm, .slice A1 x.ins.length ca, .slice A2 x.rules.length cb] 42) = W3 /\ Hid (Below W0.heap.size W0 W3) /\ W3.cell? ⟨wr.heap.size, 0, none⟩ = some (.string ⟨x.name.toArray⟩) /\ W3.cell? ⟨wr.heap.size, 1, none⟩ = some (.int .i64 x.pol) /\ W3.cell? ⟨wr.heap.size, 2, none⟩ = some (.bool cm) /\ W3.cell? ⟨wr.heap.size, 3, none⟩ = some (.slice A1 x.ins.length ca) /\ W3.cell? ⟨wr.heap.size, 4, none⟩ = some (.slice A2 x.rules.length cb) /\
    W3.cell? ⟨w.heap.size, 0, none⟩ = some (.slice A b.doms.length c) /\ W3.cell? ⟨w.heap.size, 1, none⟩ = some (.slice (some ⟨bB, off, none⟩) b.tabs.length d) /\ Hid (rTb.rel W3 S [.string ⟨x.name.toArray⟩, .int .i64 x.pol, .bool cm, .slice A1 x.ins.length ca, .slice A2 x.rules.length cb] x) /\ Hid (rBk.rel W3 S [.slice A b.doms.length c, .slice (some ⟨bB, off, none⟩) b.tabs.length d] b) /\ wr.heap.size < W3.heap.size :=
   ⟨_, rfl, L0 (HB.o.alloc HB.o.size _), L0b _ _ _ _, L0b _ _ _ _, L0b _ _ _ _, L0b _ _ _ _, L0b _ _ _ _,
    ((HB.o.alloc HB.o.size _).ce 0 hs0).trans c0, ((HB.o.alloc HB.o.size _).ce 1 hs0).trans c1, L0 (jC hr (hbw.alloc hbw.size _)), L0 (jC HBK.o (HB.o.alloc HB.o.size _)), by simp⟩
  have HS3 := L0 (L0c hs0 HB3.o.size)
  clear hx hr hob hbx hcl hga hbw hcm
  by_cases hc : 0 < cl.length
  ·have HC : Hid (Z0i b = (x.name, Z15 cl, 8)) := L0 (by rw [HKK.o, HBX.o, HCL.o, if_pos hc])
   go_wp2_with (first | (go_at_call 70; (with_reducible refine (Y0f W3 HK3.o HR3.o HSM.o HI3.o HO.o).mono ?_); rintro e w4 ⟨z4, rfl, hown4, hb4⟩; have HB4 := L0 (HB3.o.trans (hb4.mono HB3.o.size)); have r0 := (hb4.ce 0 hw3s).trans j0; have r1 := (hb4.ce 1 hw3s).trans j1; have r2 := (hb4.ce 2 hw3s).trans j2; have r3 := (hb4.ce 3 hw3s).trans j3; have r4 := (hb4.ce 4 hw3s).trans j4; have HR4 := L0 (jC HR3.o hb4); have HS4 := L0 (L0c hw3s hb4.size); have HOW4 : Hid (rBx.rel w4 (Up (fun _ => False) W3.heap.size) [z4] (Z2v ob)) := L0 (hown4.rel (by decide)); obtain ⟨Ab4, cb4, rfl⟩ := hown4.value; clear hb4 hown4) | (go_at_call 21; (with_reducible refine (Y39 w4 HR4.o HOW4.o HCL.o).mono ?_); rintro e w5 ⟨z5, S5, rfl, hz5, hb5⟩; obtain ⟨Az5, cz5, rfl, _⟩ := rSl.elems hz5; have HB5 := L0 (HB4.o.trans (hb5.mono HB4.o.size)); have s0 := (hb5.ce 0 HS4.o).trans r0; have s1 := (hb5.ce 1 HS4.o).trans r1; have s2 := (hb5.ce 2 HS4.o).trans r2; have s3 := (hb5.ce 3 HS4.o).trans r3; have s4 := (hb5.ce 4 HS4.o).trans r4; have HR5 := L0 (jC HR4.o hb5); have HOW5 := L0 (jC HOW4.o hb5); have HS5 := L0 (L0c HS4.o hb5.size); have HZ5 := L0 hz5; clear hb5 hz5))
   go_ret3
   exact ⟨_, S5, by rw [HC.o]; rfl, by rw [HC.o]; exact Y4v HZ5.o (L0h HB0.o.size HB4.o.size), HB0.o.trans (HB5.o.mono HB0.o.size)⟩
  cases cm
  all_goals
   by_cases hg : 0 < ga.length
   all_goals
    go_wp2_with (first | (go_at_call 70; (with_reducible refine (Y0f W3 HK3.o HR3.o HSM.o HI3.o HO.o).mono ?_); rintro e w4 ⟨z4, rfl, hown4, hb4⟩; have HB4 := L0 (HB3.o.trans (hb4.mono HB3.o.size)); have r0 := (hb4.ce 0 hw3s).trans j0; have r1 := (hb4.ce 1 hw3s).trans j1; have r2 := (hb4.ce 2 hw3s).trans j2; have r3 := (hb4.ce 3 hw3s).trans j3; have r4 := (hb4.ce 4 hw3s).trans j4; have HR4 := L0 (jC HR3.o hb4); have HS4 := L0 (L0c hw3s hb4.size); have HOW4 : Hid (rBx.rel w4 (Up (fun _ => False) W3.heap.size) [z4] (Z2v ob)) := L0 (hown4.rel (by decide)); obtain ⟨Ab4, cb4, rfl⟩ := hown4.value; clear hb4 hown4) | (go_at_call 21; (with_reducible refine (Y39 w4 HR4.o HOW4.o HCL.o).mono ?_); rintro e w5 ⟨z5, S5, rfl, hz5, hb5⟩; obtain ⟨Az5, cz5, rfl, _⟩ := rSl.elems hz5; have HB5 := L0 (HB4.o.trans (hb5.mono HB4.o.size)); have s0 := (hb5.ce 0 HS4.o).trans r0; have s1 := (hb5.ce 1 HS4.o).trans r1; have s2 := (hb5.ce 2 HS4.o).trans r2; have s3 := (hb5.ce 3 HS4.o).trans r3; have s4 := (hb5.ce 4 HS4.o).trans r4; have HR5 := L0 (jC HR4.o hb5); have HOW5 := L0 (jC HOW4.o hb5); have HS5 := L0 (L0c HS4.o hb5.size); have HZ5 := L0 hz5; clear hb5 hz5)| (go_at_call 19; (with_reducible refine (X2f w5 HR5.o HOW5.o HGA.o).mono ?_); rintro e w6 ⟨z6, S6, rfl, hz6, hb6⟩; obtain ⟨Az6, cz6, rfl, _⟩ := rSl.elems hz6; have HB6 := L0 (HB5.o.trans (hb6.mono HB5.o.size)); have t0 := (hb6.ce 0 HS5.o).trans s0; have t2 := (hb6.ce 2 HS5.o).trans s2; have HZ6 := L0 hz6; clear hb6 hz6))
  ·have HK' : Hid (Z0i b = Z0z b (b.tabs.drop (k + 1))) := L0 (by rw [HKK.o, HBX.o, HCL.o, if_neg hc, HGA.o, if_neg (by rw [HCM.o]; simp)])
   go_roundw
   exact ⟨k + 1, by omega, by go_num, HK', HB6⟩
   simp [intOf]; omega
  ·have HK' : Hid (Z0i b = Z0z b (b.tabs.drop (k + 1))) := L0 (by rw [HKK.o, HBX.o, HCL.o, if_neg hc, HGA.o, if_neg (by simp [hg])])
   go_roundw
   exact ⟨k + 1, by omega, by go_num, HK', HB6⟩
   simp [intOf]; omega
  ·have HC : Hid (Z0i b = (x.name, Z15 ga, 7)) := L0 (by rw [HKK.o, HBX.o, HCL.o, if_neg hc, HGA.o, if_pos ⟨hg, HCM.o⟩])
   go_ret3
   exact ⟨_, S6, by rw [HC.o]; rfl, by rw [HC.o]; exact Y4v HZ6.o (L0h HB0.o.size HB5.o.size), HB0.o.trans (HB6.o.mono HB0.o.size)⟩
  have HK' : Hid (Z0i b = Z0z b (b.tabs.drop (k + 1))) := L0 (by rw [HKK.o, HBX.o, HCL.o, if_neg hc, HGA.o, if_neg (by simp [hg])])
  go_roundw
  exact ⟨k + 1, by omega, by go_num, HK', HB6⟩
  simp [intOf]; omega
 have HC : Hid (Z0i b = ([], [], 0)) := L0 (by rw [HK.o, L0t (by omega)]; rfl)
 go_wp2
 go_ret3
 exact HZ.o _ _ _ HC.o rfl rfl HB.o
