import Derived.Laws.Cover1
import Derived.Test.YtlopccnehgolnacGreatDoorGL18
import Derived.Test.YtlopccnehgolnacGreatDoorGL11
import Derived.Test.YtlopccnehgolnacGreatDoorBookB
import Derived.Test.YtlopccnehgolnacGreatDoorAreas
import Derived.Test.YtlopccnehgolnacGreatDoorGL25
namespace Go.Proofs.YtlopccnehgolnacGreatDoor
open Go.RowKit Rb
open List renaming range -> jA
open Go.Op renaming bytesLess -> jB
open Rd renaming below -> jC
set_option maxRecDepth 100000
set_option maxHeartbeats 1600000
def Y9b (l : List Dm) (k : Nat) : Txt := match l[k]? with | some d => d.name | none => []
def Y9c (l : List Tb) (k : Nat) : Txt := match l[k]? with | some d => d.name | none => []
def Y3c (l : List Dm) (k : Nat) : Bool := match l[k]? with | some d => Z5j d && (decide (k = 0) || jB (Y9b l (k - 1)) d.name) | none => true
def Z9j (l : List Dm) : Bool := (jA l.length).all (Y3c l)
def Y2w (b : Bk) (k : Nat) : Bool := match b.tabs[k]? with | some t => Z0r t && !(Z2g b.doms t.name).isSome && (decide (k = 0) || jB (Y9c b.tabs (k - 1)) t.name) | none => true
def Z6o (b : Bk) : Bool := (jA b.tabs.length).all (Y2w b)
def bxOf (b : Bk) (t : Tb) : Bx := Z2s (Z4n b t)
def Z0x (b : Bk) : List Tb -> Txt × List Int × Int
 | [] => ([], [], 0)
 | t :: l => if 0 < (Z16 t (bxOf b t)).length then (t.name, Z10 (Z16 t (bxOf b t)), 8)
  else if 0 < (gapB t (bxOf b t)).length /\ t.comp = true then (t.name, Z10 (gapB t (bxOf b t)), 7) else Z0x b l
def Z0g (b : Bk) : Txt × List Int × Int :=
 if 4 < b.doms.length \/ 4 < b.tabs.length then ([], [], 11)
 else if Z9j b.doms = false then ([], [], 1)
 else if Z6o b = false then ([], [], 1)
 else match b.tabs.find? fun t => !Z1d (Z4n b t) with
  | some t => (t.name, [], 3)
  | none => if (Z2w b).isSome = false then ([], [], 6) else Z0x b b.tabs
theorem Z25 {p : Nat -> Bool} {n k : Nat} (hk : k < n) (h : p k = false) : (jA n).all p = false := by
 rw [List.all_eq_false]
 exact ⟨k, L3b.2 hk, by simp [h]⟩
theorem Z3r {p : Nat -> Bool} {n k : Nat} (hk : ¬ k < n) (h : ∀ j, j < k -> p j = true) : (jA n).all p = true := by
 rw [L2c]
 intro x hx
 rw [L3b] at hx
 exact h x (by omega)
theorem Z47 {p : Nat -> Bool} {k : Nat} (h : ∀ j, j < k -> p j = true) (hk : p k = true) : ∀ j, j < k + 1 -> p j = true := by
 intro j hj
 rcases Nat.lt_succ_iff_lt_or_eq.1 hj with h1 | rfl
 ·exact h j h1
 ·exact hk
theorem Y10 {l : List Dm} {k : Nat} (hk : k < l.length) (h : Y3c l k = false) : Z9j l = false := Z25 hk h
theorem Z82 {b : Bk} {k : Nat} (hk : k < b.tabs.length) (h : Y2w b k = false) : Z6o b = false := Z25 hk h
theorem SmallT.good {t : Tb} (h : Z0r t = true) : SmallT t := ⟨(Z05 h).2.2.2.2.2, fun _ hr => Z8d h hr⟩
theorem Z4f {b : Bk} (h : Z6o b = true) : ∀ t ∈ b.tabs, Z0r t = true := by
 intro t ht
 obtain ⟨i, hi, rfl⟩ := L1x ht
 have := L2c.1 h i (L3b.2 hi)
 unfold Y2w at this
 rw [L0g hi] at this
 simp only [L0z] at this
 exact this.1.1
theorem SmallB.good {b : Bk} (h : Z6o b = true) : SmallB b := fun t ht => .good (Z4f h t ht)
theorem Y0b {d : Dm} {r : Bool} (w : World) (hs : d.name.length <= 140737488355328) (h : Z5j d = r) :
  Calls Tryz.prog 77 #[.agg #[.string ⟨d.name.toArray⟩, .int .i64 d.lo, .int .i64 d.hi]] w fun e w' => e = .returned (.bool r) /\ Below w.heap.size w w' := h ▸ Z3q d w hs
theorem Z95 {S T : Nat -> Prop} {bs cs : List Value} {b : Bk} {t : Tb} {o : Option Bx} (w : World) (hb : rBk.rel w S bs b) (ht : rTb.rel w T cs t) (hsm : SmallB b) (h3 : t.ins.length <= 3) (h : Z4n b t = o) :
  Calls Tryz.prog 96 #[.agg bs.toArray, .agg cs.toArray] w fun e w' => ∃ z, e = .returned (.tuple #[z, .bool (Z1d o)]) /\ Own (rSl rRg) 70 w' w.heap.size (fun _ => False) z (Z2s o) /\ Below w.heap.size w w' := h ▸ Y50 w hb ht hsm h3
theorem Y0e {S : Nat -> Prop} {bs : List Value} {b : Bk} {o : Option (List Txt)} (w : World) (hl : rBk.rel w S bs b) (h : Z2w b = o) :
  Calls Tryz.prog 85 #[.agg bs.toArray] w fun e w' => ∃ z, e = .returned (.tuple #[z, .bool o.isSome]) /\ (rSl rStr).rel w' (Up (fun _ => False) w.heap.size) [z] (o.getD []) /\ Below w.heap.size w w' := h ▸ Y6e w hl
theorem Y3y {S T : Nat -> Prop} {cs : List Value} {t : Tb} {u : Value} {all : Bx} {l : List Bx} (w : World) (hl : rTb.rel w S cs t) (hm : rBx.rel w T [u] all) (h : Z16 t all = l) :
  Calls Tryz.prog 97 #[.agg cs.toArray, u] w fun e w' => ∃ z S', e = .returned (.tuple #[z, .bool (decide (0 < l.length))]) /\ (rSl rInt).rel w' (New w S') [z] (Z10 l) /\ Below w.heap.size w w' := h ▸ Y53 w hl hm
theorem X1y {S T : Nat -> Prop} {cs : List Value} {t : Tb} {u : Value} {all : Bx} {l : List Bx} (w : World) (hl : rTb.rel w S cs t) (hm : rBx.rel w T [u] all) (h : gapB t all = l) :
  Calls Tryz.prog 98 #[.agg cs.toArray, u] w fun e w' => ∃ z S', e = .returned (.tuple #[z, .bool (decide (0 < l.length))]) /\ (rSl rInt).rel w' (New w S') [z] (Z10 l) /\ Below w.heap.size w w' := h ▸ X0p w hl hm
theorem Y88 {S : Nat -> Prop} (w : World) : (rSl rInt).rel w S [.slice none 0 0] [] := ⟨none, 0, rfl, L0f _, by decide, by simp, fun i x hx => by simp at hx⟩
def Y1v (b : Bk) (w : World) (e : Ending) (w' : World) : Prop := ∃ z S', e = .returned (.tuple #[.string ⟨(Z0g b).1.toArray⟩, z, .int .i64 (Z0g b).2.2]) /\ (rSl rInt).rel w' (New w S') [z] (Z0g b).2.1 /\ Below w.heap.size w w'
theorem Y52 {S : Nat -> Prop} {bs : List Value} {b : Bk} (w : World) (hl : rBk.rel w S bs b) :
  Calls Tryz.prog 64 #[.agg bs.toArray] w fun e w' => Y1v b w e w' := by
 have hl' := hl
 obtain ⟨v0, u0, rfl, hd, htb⟩ := hl
 obtain ⟨A, c, rfl, _, _, hbd, hD⟩ := rSl.elems hd
 obtain ⟨B, d, rfl, _, _, hbt, hF⟩ := rSl.elems htb
 have hld : b.doms.length <= 4398046511104 := by simp only [rDm] at hbd; omega
 have hlt5 : b.tabs.length <= 1759218604441 := by simp only [rTb] at hbt; omega
 obtain ⟨W0, e0, HB0, hs0, HBK⟩ : ∃ W0, w.alloc (.cells #[.slice A b.doms.length c, .slice B b.tabs.length d] 38) = W0 /\ Hid (Below w.heap.size w W0) /\ w.heap.size < W0.heap.size /\ Hid (rBk.rel W0 S [.slice A b.doms.length c, .slice B b.tabs.length d] b) := ⟨_, rfl, L0 bA, by simp, L0 (Rd.alloc hl' _)⟩; have c0 := ac0 e0; have c1 := ac1 e0
 clear hl' hd htb hbd hbt
 have HD := L0 hD
 have HF := L0 hF
 clear hD hF
 have HZ : Hid (∀ (e : Ending) (w' : World) (r : Txt × List Int × Int), Z0g b = r -> e = .returned (.tuple #[.string ⟨r.1.toArray⟩, .slice none 0 0, .int .i64 r.2.2]) -> r.2.1 = [] -> Below W0.heap.size W0 w' -> Y1v b w e w') := L0 (by
  rintro e w' r rfl rfl h h2
  exact ⟨_, fun _ => True, rfl, by rw [h]; exact Y88 _, HB0.out.trans (h2.mono HB0.out.size)⟩)
 go_enter Tryz.func64, Tryz.ntmps64
 by_cases hm1 : 4 < b.doms.length
 ·have hi1 : (4 : Int) < (b.doms.length : Int) := by omega
  have HC : Hid (Z0g b = ([], [], 11)) := L0 (by unfold Z0g; rw [if_pos (.inl hm1)])
  go_wp2
  go_ret3
  exact HZ.out _ _ _ HC.out rfl rfl (L0m _ _)
 have hi1 : ¬ (4 : Int) < (b.doms.length : Int) := by omega
 by_cases hm2 : 4 < b.tabs.length
 ·have hi2 : (4 : Int) < (b.tabs.length : Int) := by omega
  have HC : Hid (Z0g b = ([], [], 11)) := L0 (by unfold Z0g; rw [if_pos (.inr hm2)])
  go_wp2
  go_ret3
  exact HZ.out _ _ _ HC.out rfl rfl (L0m _ _)
 have hi2 : ¬ (4 : Int) < (b.tabs.length : Int) := by omega
 have HC1 : Hid (Z0g b = if Z9j b.doms = false then ([], [], 1) else if Z6o b = false then ([], [], 1) else match b.tabs.find? fun t => !Z1d (Z4n b t) with
  | some t => (t.name, [], 3) | none => if (Z2w b).isSome = false then ([], [], 6) else Z0x b b.tabs) := L0 (by unfold Z0g; rw [if_neg (by omega)])
 clear hm1 hm2
 go_wp2
 clear e0 hi1 hi2
 go_loopw [38] (fun i wr => ∃ k : Nat, k <= b.doms.length /\ i = .int .i64 k /\ Hid (∀ j, j < k -> Y3c b.doms j = true) /\ Hid (Below W0.heap.size W0 wr)) (fun i _ => b.doms.length - (intOf i).toNat)
 case atStart => exact ⟨0, L0o _, rfl, L0 (by omega), L0 (L0m _ _)⟩
 case round =>
  obtain ⟨k, hk, rfl, HK, HB⟩ := hrel
  by_cases hlt : k < b.doms.length
  ·obtain ⟨bB, off, x, rfl, hbB, hx, ⟨hxl, _⟩, g0, g1, g2⟩ := HD.out.dm hlt
   have hbw := HB0.out.trans (HB.out.mono HB0.out.size)
   rw [<- hbw.ce _ hbB] at g0 g1 g2
   have hik : (k : Int) < (b.doms.length : Int) := by omega
   have HDK : Hid (Y3c b.doms k = (Z5j x && (decide (k = 0) || jB (Y9b b.doms (k - 1)) x.name))) := L0 (by unfold Y3c; rw [hx])
   have HX := L0 hx
   obtain ⟨gd, hgd⟩ : ∃ r, Z5j x = r := ⟨_, rfl⟩
   have HGD := L0 hgd
   obtain ⟨W3, e3, HB3, q0, q3⟩ : ∃ W3, wr.alloc (.cells #[.string ⟨x.name.toArray⟩, .int .i64 x.lo, .int .i64 x.hi] 63) = W3 /\ Hid (Below W0.heap.size W0 W3) /\ W3.cell? ⟨w.heap.size, 0, none⟩ = some (.slice (some ⟨bB, off, none⟩) b.doms.length c) /\ wr.heap.size < W3.heap.size := ⟨_, rfl, L0 (HB.out.alloc HB.out.size _), ((HB.out.alloc HB.out.size _).ce 0 hs0).trans c0, by simp⟩; have j0 := ac0 e3; have j1 := ac1 e3; have j2 := ac2 e3
   have hq0 : w.heap.size < W3.heap.size := L0c hs0 HB3.out.size
   have HCG := L0 fun w' (_ : Below W3.heap.size W3 w') => Y0b w' hxl hgd
   clear hx hgd hbw
   cases gd
   ·have HC : Hid (Z0g b = ([], [], 1)) := L0 (by rw [HC1.out, if_pos (Y10 hlt (by rw [HDK.out, HGD.out]; rfl))])
    go_wp2
    refine wp_region_quiet_below (by kernel_rfl) (by kernel_rfl) ?_
    repeat (go_big_quiet_step (exact Calls.inBelow HCG.out _ _))
    refine wpQuiet_nil ?_
    intro _ hw'
    obtain ⟨⟨dq, osq⟩, hw''⟩ := hw'
    subst hw''
    go_wp2
    go_ret3
    exact HZ.out _ _ _ HC.out rfl rfl (HB3.out.trans ((below_regrown _ _ _).mono HB3.out.size))
   ·by_cases hk0 : k = 0
    ·have hz : decide ((0 : Int) < (k : Int)) = false := decide_eq_false (by omega)
     have hz2 : decide (0 < k) = false := decide_eq_false (by omega)
     have HS := L0 (Z47 HK.out (by rw [HDK.out, HGD.out, decide_eq_true hk0]; rfl))
     clear hk0
     go_wp2
     refine wp_region_quiet_below (by kernel_rfl) (by kernel_rfl) ?_
     repeat (go_big_quiet_step (exact Calls.inBelow HCG.out _ _))
     refine wpQuiet_nil ?_
     intro _ hw'
     obtain ⟨⟨dq, osq⟩, hw''⟩ := hw'
     subst hw''
     go_wp2
     go_roundw
     case rel => exact ⟨k + 1, by omega, by go_num, HS, L0 (HB3.out.trans ((below_regrown _ _ _).mono HB3.out.size))⟩
     case measure => simp [intOf]; omega
    ·have hz : decide ((0 : Int) < (k : Int)) = true := decide_eq_true (by omega)
     have hz2 : decide (0 < k) = true := decide_eq_true (by omega)
     obtain ⟨m, hm⟩ : ∃ m, k = m + 1 := ⟨k - 1, by omega⟩
     have him : (k : Int) - 1 = (m : Int) := by omega
     have hml : (m : Int) < (b.doms.length : Int) := by omega
     obtain ⟨bB', off', y, hA', hbB', hy, _, y0, _, _⟩ := HD.out.dm (show m < b.doms.length by omega)
     obtain ⟨rfl, rfl⟩ : bB = bB' /\ off = off' := by simpa using hA'
     rw [<- (HB0.out.trans (HB3.out.mono HB0.out.size)).ce _ hbB] at y0
     have hbb : bB < W3.heap.size := L0c (L0c hbB HB0.out.size) HB3.out.size
     obtain ⟨lt, hlt'⟩ : ∃ r, jB y.name x.name = r := ⟨_, rfl⟩
     have HDK' : Hid (Y3c b.doms k = lt) := L0 (by
      rw [HDK.out, HGD.out, decide_eq_false hk0, show k - 1 = m by omega]
      simp [Y9b, hy, hlt'])
     clear hm hy hA' hk0
     cases lt
     ·have HC : Hid (Z0g b = ([], [], 1)) := L0 (by rw [HC1.out, if_pos (Y10 hlt HDK'.out)])
      go_wp2
      refine wp_region_quiet_below (by kernel_rfl) (by kernel_rfl) ?_
      repeat (go_big_quiet_step (exact Calls.inBelow HCG.out _ _))
      refine wpQuiet_nil ?_
      intro _ hw'
      obtain ⟨⟨dq, osq⟩, hw''⟩ := hw'
      subst hw''
      go_wp2
      go_ret3
      exact HZ.out _ _ _ HC.out rfl rfl (HB3.out.trans ((below_regrown _ _ _).mono HB3.out.size))
     ·have HS := L0 (Z47 HK.out HDK'.out)
      go_wp2
      refine wp_region_quiet_below (by kernel_rfl) (by kernel_rfl) ?_
      repeat (go_big_quiet_step (exact Calls.inBelow HCG.out _ _))
      refine wpQuiet_nil ?_
      intro _ hw'
      obtain ⟨⟨dq, osq⟩, hw''⟩ := hw'
      subst hw''
      go_wp2
      go_roundw
      case rel => exact ⟨k + 1, by omega, by go_num, HS, L0 (HB3.out.trans ((below_regrown _ _ _).mono HB3.out.size))⟩
      case measure => simp [intOf]; omega
  ·have HC2 := L0 (HC1.out.trans (if_neg (by rw [show Z9j b.doms = true from Z3r hlt HK.out]; decide)))
   clear HK HC1 hk
   obtain ⟨w1, hw1⟩ : ∃ x, x = wr := ⟨_, rfl⟩
   subst hw1
   have c11 := (HB.out.ce 1 hs0).trans c1
   go_wp2
   clear c11 hlt
   have HBw1 := HB
   clear HB
   go_loopw [66] (fun i wr => ∃ k : Nat, k <= b.tabs.length /\ i = .int .i64 k /\ Hid (∀ j, j < k -> Y2w b j = true) /\ Hid (Below W0.heap.size W0 wr)) (fun i _ => b.tabs.length - (intOf i).toNat)
   case atStart => exact ⟨0, L0o _, rfl, L0 (by omega), HBw1⟩
   case round =>
    obtain ⟨k, hk, rfl, HK, HB⟩ := hrel
    by_cases hlt : k < b.tabs.length
    ·obtain ⟨bB, off, x, A1, ca, A2, cb, rfl, hbB, hx, hr, g0, g1, g2, g3, g4⟩ := HF.out.tb hlt
     have hbw := HB0.out.trans (HB.out.mono HB0.out.size)
     rw [<- hbw.ce _ hbB] at g0 g1 g2 g3 g4
     have hik : (k : Int) < (b.tabs.length : Int) := by omega
     have HX := L0 hx
     have hxl : x.name.length <= 140737488355328 := by obtain ⟨_, _, _, h, _⟩ := hr; exact h
     have HTK : Hid (Y2w b k = (Z0r x && !(Z2g b.doms x.name).isSome && (decide (k = 0) || jB (Y9c b.tabs (k - 1)) x.name))) := L0 (by unfold Y2w; rw [hx])
     obtain ⟨gt, hgt⟩ : ∃ r, Z0r x = r := ⟨_, rfl⟩
     obtain ⟨fd, hfd⟩ : ∃ r, (Z2g b.doms x.name).isSome = r := ⟨_, rfl⟩
     obtain ⟨dm, hdm⟩ : ∃ r, dmOf (Z2g b.doms x.name) = r := ⟨_, rfl⟩
     have HGT := L0 hgt
     have HD1 := L0 hdm
     have HD2 := L0 hfd
     obtain ⟨W3, e3, HB3, j0, j1, j2, j3, j4, q0, q1, HR3, HK3, hw3s⟩ : ∃ W3, wr.alloc (.cells #[.string ⟨x.name.toArray⟩, .int .i64 x.pol, .bool x.comp, .slice A1 x.ins.length ca, .slice A2 x.rules.length cb] 66) = W3 /\ Hid (Below W0.heap.size W0 W3) /\ W3.cell? ⟨wr.heap.size, 0, none⟩ = some (.string ⟨x.name.toArray⟩) /\ W3.cell? ⟨wr.heap.size, 1, none⟩ = some (.int .i64 x.pol) /\ W3.cell? ⟨wr.heap.size, 2, none⟩ = some (.bool x.comp) /\ W3.cell? ⟨wr.heap.size, 3, none⟩ = some (.slice A1 x.ins.length ca) /\ W3.cell? ⟨wr.heap.size, 4, none⟩ = some (.slice A2 x.rules.length cb) /\
       W3.cell? ⟨w.heap.size, 0, none⟩ = some (.slice A b.doms.length c) /\ W3.cell? ⟨w.heap.size, 1, none⟩ = some (.slice (some ⟨bB, off, none⟩) b.tabs.length d) /\ Hid (rTb.rel W3 S [.string ⟨x.name.toArray⟩, .int .i64 x.pol, .bool x.comp, .slice A1 x.ins.length ca, .slice A2 x.rules.length cb] x) /\ Hid (rBk.rel W3 S [.slice A b.doms.length c, .slice (some ⟨bB, off, none⟩) b.tabs.length d] b) /\ wr.heap.size < W3.heap.size :=
      ⟨_, rfl, L0 (HB.out.alloc HB.out.size _), L0b _ _ _ _, L0b _ _ _ _, L0b _ _ _ _, L0b _ _ _ _, L0b _ _ _ _,
       ((HB.out.alloc HB.out.size _).ce 0 hs0).trans c0, ((HB.out.alloc HB.out.size _).ce 1 hs0).trans c1, L0 (jC hr (hbw.alloc hbw.size _)), L0 (jC HBK.out (HB.out.alloc HB.out.size _)), by simp⟩
     have HS3 := L0 (L0c hs0 HB3.out.size)
     clear hx hr hgt hdm hfd hbw
     go_wp2_with (go_at_call 48; (with_reducible refine (Z14 W3 HK3.out hxl HD1.out HD2.out).mono ?_); rintro e w4 ⟨rfl, hb4⟩; obtain ⟨W5, e5, HB5, l0, l1, p0, HR5, hw5s, hws5, HB35⟩ : ∃ W5, w4.alloc (.cells #[.string ⟨dm.name.toArray⟩, .int .i64 dm.lo, .int .i64 dm.hi] 63) = W5 /\ Hid (Below W0.heap.size W0 W5) /\ W5.cell? ⟨wr.heap.size, 0, none⟩ = some (.string ⟨x.name.toArray⟩) /\ W5.cell? ⟨w.heap.size, 1, none⟩ = some (.slice (some ⟨bB, off, none⟩) b.tabs.length d) /\ (W5.cell? ⟨wr.heap.size, 1, none⟩ = some (.int .i64 x.pol) /\ W5.cell? ⟨wr.heap.size, 2, none⟩ = some (.bool x.comp) /\ W5.cell? ⟨wr.heap.size, 3, none⟩ = some (.slice A1 x.ins.length ca) /\ W5.cell? ⟨wr.heap.size, 4, none⟩ = some (.slice A2 x.rules.length cb)) /\ Hid (rTb.rel W5 S [.string ⟨x.name.toArray⟩, .int .i64 x.pol, .bool x.comp, .slice A1 x.ins.length ca, .slice A2 x.rules.length cb] x) /\ wr.heap.size < W5.heap.size /\ w.heap.size < W5.heap.size /\ Hid (Below W3.heap.size W3 W5) := ⟨_, rfl, L0 (HB3.out.trans ((hb4.alloc hb4.size _).mono HB3.out.size)), ((hb4.alloc hb4.size _).ce 0 hw3s).trans j0, ((hb4.alloc hb4.size _).ce 1 HS3.out).trans q1, ⟨((hb4.alloc hb4.size _).ce 1 hw3s).trans j1, ((hb4.alloc hb4.size _).ce 2 hw3s).trans j2, ((hb4.alloc hb4.size _).ce 3 hw3s).trans j3, ((hb4.alloc hb4.size _).ce 4 hw3s).trans j4⟩, L0 (jC HR3.out (hb4.alloc hb4.size _)), L0c hw3s (by simp; exact L0i hb4.size (L2s _)), L0c HS3.out (by simp; exact L0i hb4.size (L2s _)), L0 (hb4.alloc hb4.size _)⟩; obtain ⟨p1, p2, p3, p4⟩ := p0; have HCG := L0 fun w' (hb : Below W5.heap.size W5 w') => Z71 w' (jC HR5.out hb) HGT.out; clear hb4)
     cases gt
     ·have HC : Hid (Z0g b = ([], [], 1)) := L0 (by rw [HC2.out, if_pos (Z82 hlt (by rw [HTK.out, HGT.out]; rfl))])
      refine wp_region_quiet_below (by kernel_rfl) (by kernel_rfl) ?_
      repeat (go_big_quiet_step (exact Calls.inBelow HCG.out _ _))
      refine wpQuiet_nil ?_
      intro _ hw'
      obtain ⟨⟨dq, osq⟩, hw''⟩ := hw'
      subst hw''
      go_wp2
      go_ret3
      exact HZ.out _ _ _ HC.out rfl rfl (HB5.out.trans ((below_regrown _ _ _).mono HB5.out.size))
     ·cases fd
      ·by_cases hk0 : k = 0
       ·have hz : decide ((0 : Int) < (k : Int)) = false := decide_eq_false (by omega)
        have hz2 : decide (0 < k) = false := decide_eq_false (by omega)
        have HS := L0 (Z47 HK.out (by rw [HTK.out, HGT.out, HD2.out, decide_eq_true hk0]; rfl))
        clear hk0
        refine wp_region_quiet_below (by kernel_rfl) (by kernel_rfl) ?_
        repeat (go_big_quiet_step (exact Calls.inBelow HCG.out _ _))
        refine wpQuiet_nil ?_
        intro _ hw'
        obtain ⟨⟨dq, osq⟩, hw''⟩ := hw'
        subst hw''
        go_wp2
        go_roundw
        case rel => exact ⟨k + 1, by omega, by go_num, HS, L0 (HB5.out.trans ((below_regrown _ _ _).mono HB5.out.size))⟩
        case measure => simp [intOf]; omega
       ·have hz : decide ((0 : Int) < (k : Int)) = true := decide_eq_true (by omega)
        have hz2 : decide (0 < k) = true := decide_eq_true (by omega)
        obtain ⟨m, hm⟩ : ∃ m, k = m + 1 := ⟨k - 1, by omega⟩
        have him : (k : Int) - 1 = (m : Int) := by omega
        have hml : (m : Int) < (b.tabs.length : Int) := by omega
        obtain ⟨bB', off', y, _, _, _, _, hA', hbB', hy, _, y0, _, _, _, _⟩ := HF.out.tb (show m < b.tabs.length by omega)
        obtain ⟨rfl, rfl⟩ : bB = bB' /\ off = off' := by simpa using hA'
        rw [<- (HB0.out.trans (HB3.out.mono HB0.out.size)).ce _ hbB] at y0
        have HBB := L0 (L0c (L0c hbB HB0.out.size) HB3.out.size)
        obtain ⟨lt, hlt'⟩ : ∃ r, jB y.name x.name = r := ⟨_, rfl⟩
        have HTK' : Hid (Y2w b k = lt) := L0 (by
         rw [HTK.out, HGT.out, HD2.out, decide_eq_false hk0, show k - 1 = m by omega]
         simp [Y9c, hy, hlt'])
        clear hm hy hA' hk0
        cases lt
        ·have HC : Hid (Z0g b = ([], [], 1)) := L0 (by rw [HC2.out, if_pos (Z82 hlt HTK'.out)])
         have z0 := (HB35.out.ce _ HBB.out).trans y0
         have hbb := L0c HBB.out HB35.out.size
         refine wp_region_quiet_below (by kernel_rfl) (by kernel_rfl) ?_
         repeat (go_big_quiet_step (exact Calls.inBelow HCG.out _ _))
         refine wpQuiet_nil ?_
         intro _ hw'
         obtain ⟨⟨dq, osq⟩, hw''⟩ := hw'
         subst hw''
         go_wp2
         go_ret3
         exact HZ.out _ _ _ HC.out rfl rfl (HB5.out.trans ((below_regrown _ _ _).mono HB5.out.size))
        ·have HS := L0 (Z47 HK.out HTK'.out)
         have z0 := (HB35.out.ce _ HBB.out).trans y0
         have hbb := L0c HBB.out HB35.out.size
         refine wp_region_quiet_below (by kernel_rfl) (by kernel_rfl) ?_
         repeat (go_big_quiet_step (exact Calls.inBelow HCG.out _ _))
         refine wpQuiet_nil ?_
         intro _ hw'
         obtain ⟨⟨dq, osq⟩, hw''⟩ := hw'
         subst hw''
         go_wp2
         go_roundw
         case rel => exact ⟨k + 1, by omega, by go_num, HS, L0 (HB5.out.trans ((below_regrown _ _ _).mono HB5.out.size))⟩
         case measure => simp [intOf]; omega
      ·have HC : Hid (Z0g b = ([], [], 1)) := L0 (by rw [HC2.out, if_pos (Z82 hlt (by rw [HTK.out, HGT.out, HD2.out]; rfl))])
       refine wp_region_quiet_below (by kernel_rfl) (by kernel_rfl) ?_
       repeat (go_big_quiet_step (exact Calls.inBelow HCG.out _ _))
       refine wpQuiet_nil ?_
       intro _ hw'
       obtain ⟨⟨dq, osq⟩, hw''⟩ := hw'
       subst hw''
       go_wp2
       go_ret3
       exact HZ.out _ _ _ HC.out rfl rfl (HB5.out.trans ((below_regrown _ _ _).mono HB5.out.size))
    ·have HTO : Hid (Z6o b = true) := L0 (Z3r hlt HK.out)
     have HC3 := L0 (HC2.out.trans (if_neg (by rw [HTO.out]; decide)))
     clear HK HC2 hk
     obtain ⟨w2, hw2⟩ : ∃ x, x = wr := ⟨_, rfl⟩
     subst hw2
     have c12 := (HB.out.ce 1 hs0).trans c1
     go_wp2
     clear c12 hlt
     have HBw2 := HB
     clear HB
     have HSM := L0 (SmallB.good HTO.out)
     go_loopw [104] (fun i wr => ∃ k : Nat, k <= b.tabs.length /\ i = .int .i64 k /\ Hid ((b.tabs.find? fun t => !Z1d (Z4n b t)) = (b.tabs.drop k).find? fun t => !Z1d (Z4n b t)) /\ Hid (Below W0.heap.size W0 wr)) (fun i _ => b.tabs.length - (intOf i).toNat)
     case atStart => exact ⟨0, L0o _, rfl, L0 rfl, HBw2⟩
     case round =>
      obtain ⟨k, hk, rfl, HK, HB⟩ := hrel
      by_cases hlt : k < b.tabs.length
      ·obtain ⟨bB, off, x, A1, ca, A2, cb, rfl, hbB, hx, hr, g0, g1, g2, g3, g4⟩ := HF.out.tb hlt
       have hbw := HB0.out.trans (HB.out.mono HB0.out.size)
       rw [<- hbw.ce _ hbB] at g0 g1 g2 g3 g4
       have hik : (k : Int) < (b.tabs.length : Int) := by omega
       have HX := L0 hx
       have hxl : x.name.length <= 140737488355328 := by obtain ⟨_, _, _, h, _⟩ := hr; exact h
       have HFK := L0 (HK.out.trans (Y0r (p := fun t : Tb => !Z1d (Z4n b t)) hx))
       have HI3 : Hid (x.ins.length <= 3) := L0 (Z05 (Z4f HTO.out x (L0v hx))).2.2.2.1
       obtain ⟨ob, hob⟩ : ∃ o, Z4n b x = o := ⟨_, rfl⟩
       have HO := L0 hob
       obtain ⟨W3, e3, HB3, j0, j1, j2, j3, j4, q0, q1, HR3, HK3, hw3s⟩ : ∃ W3, wr.alloc (.cells #[.string ⟨x.name.toArray⟩, .int .i64 x.pol, .bool x.comp, .slice A1 x.ins.length ca, .slice A2 x.rules.length cb] 66) = W3 /\ Hid (Below W0.heap.size W0 W3) /\ W3.cell? ⟨wr.heap.size, 0, none⟩ = some (.string ⟨x.name.toArray⟩) /\ W3.cell? ⟨wr.heap.size, 1, none⟩ = some (.int .i64 x.pol) /\ W3.cell? ⟨wr.heap.size, 2, none⟩ = some (.bool x.comp) /\ W3.cell? ⟨wr.heap.size, 3, none⟩ = some (.slice A1 x.ins.length ca) /\ W3.cell? ⟨wr.heap.size, 4, none⟩ = some (.slice A2 x.rules.length cb) /\
         W3.cell? ⟨w.heap.size, 0, none⟩ = some (.slice A b.doms.length c) /\ W3.cell? ⟨w.heap.size, 1, none⟩ = some (.slice (some ⟨bB, off, none⟩) b.tabs.length d) /\ Hid (rTb.rel W3 S [.string ⟨x.name.toArray⟩, .int .i64 x.pol, .bool x.comp, .slice A1 x.ins.length ca, .slice A2 x.rules.length cb] x) /\ Hid (rBk.rel W3 S [.slice A b.doms.length c, .slice (some ⟨bB, off, none⟩) b.tabs.length d] b) /\ wr.heap.size < W3.heap.size :=
        ⟨_, rfl, L0 (HB.out.alloc HB.out.size _), L0b _ _ _ _, L0b _ _ _ _, L0b _ _ _ _, L0b _ _ _ _, L0b _ _ _ _,
         ((HB.out.alloc HB.out.size _).ce 0 hs0).trans c0, ((HB.out.alloc HB.out.size _).ce 1 hs0).trans c1, L0 (jC hr (hbw.alloc hbw.size _)), L0 (jC HBK.out (HB.out.alloc HB.out.size _)), by simp⟩
       have HS3 := L0 (L0c hs0 HB3.out.size)
       clear hx hr hob hbw
       cases ob
       all_goals go_wp2_with (go_at_call 96; (with_reducible refine (Z95 W3 HK3.out HR3.out HSM.out HI3.out HO.out).mono ?_); rintro e w4 ⟨z4, rfl, hown4, hb4⟩; have HB4 := L0 (HB3.out.trans (hb4.mono HB3.out.size)); have r0 := (hb4.ce 0 hw3s).trans j0; have r1 := (hb4.ce 1 hw3s).trans j1; have r2 := (hb4.ce 2 hw3s).trans j2; have r3 := (hb4.ce 3 hw3s).trans j3; have r4 := (hb4.ce 4 hw3s).trans j4; have HR4 := L0 (jC HR3.out hb4); have HS4 := L0 (L0c hw3s hb4.size); clear hb4 hown4)
       ·have HC : Hid (Z0g b = (x.name, [], 3)) := L0 (by rw [HC3.out, HFK.out, HO.out]; rfl)
        go_ret3
        exact HZ.out _ _ _ HC.out rfl rfl HB4.out
       ·have HK' := L0 (HFK.out.trans (by rw [HO.out]))
        go_roundw
        case rel => exact ⟨k + 1, by omega, by go_num, HK', HB4⟩
        case measure => simp [intOf]; omega
      ·have HFN : Hid ((b.tabs.find? fun t => !Z1d (Z4n b t)) = none) := L0 (by rw [HK.out, L0t (by omega)]; rfl)
       have HC4 := L0 (HC3.out.trans (by rw [HFN.out]))
       clear HK HC3 hk
       obtain ⟨w3, hw3⟩ : ∃ x, x = wr := ⟨_, rfl⟩
       subst hw3
       have c13 := (HB.out.ce 1 hs0).trans c1
       have c03 := (HB.out.ce 0 hs0).trans c0
       have HBKo := L0 (jC HBK.out HB.out)
       obtain ⟨oo, hoo⟩ : ∃ o, Z2w b = o := ⟨_, rfl⟩
       have HOO := L0 hoo
       clear hoo
       cases oo
       ·have HC : Hid (Z0g b = ([], [], 6)) := L0 (by rw [HC4.out, HOO.out]; rfl)
        go_wp2_with (go_at_call 85; (with_reducible refine (Y0e w3 HBKo.out HOO.out).mono ?_); rintro e wo ⟨zo, rfl, _, hbo⟩; have HBo := L0 (HB.out.trans (hbo.mono HB.out.size)))
        go_ret3
        exact HZ.out _ _ _ HC.out rfl rfl HBo.out
       have HC5 : Hid (Z0g b = Z0x b b.tabs) := L0 (by rw [HC4.out, HOO.out]; rfl)
       clear HC4
       go_wp2_with (go_at_call 85; (with_reducible refine (Y0e w3 HBKo.out HOO.out).mono ?_); rintro e wo ⟨zo, rfl, _, hbo⟩; have HBo := L0 (HB.out.trans (hbo.mono HB.out.size)); have c14 := (HBo.out.ce 1 hs0).trans c1; clear hbo c13 c03)
       clear c14 hlt
       go_loopw [129] (fun i wr => ∃ k : Nat, k <= b.tabs.length /\ i = .int .i64 k /\ Hid (Z0g b = Z0x b (b.tabs.drop k)) /\ Hid (Below W0.heap.size W0 wr)) (fun i _ => b.tabs.length - (intOf i).toNat)
       case atStart => exact ⟨0, L0o _, rfl, L0 HC5.out, HBo⟩
       case round =>
        obtain ⟨k, hk, rfl, HK, HB⟩ := hrel
        by_cases hlt : k < b.tabs.length
        ·obtain ⟨bB, off, x, A1, ca, A2, cb, rfl, hbB, hx, hr, g0, g1, g2, g3, g4⟩ := HF.out.tb hlt
         have hbw := HB0.out.trans (HB.out.mono HB0.out.size)
         rw [<- hbw.ce _ hbB] at g0 g1 g2 g3 g4
         have hik : (k : Int) < (b.tabs.length : Int) := by omega
         have HX := L0 hx
         have hxl : x.name.length <= 140737488355328 := by obtain ⟨_, _, _, h, _⟩ := hr; exact h
         have HKK : Hid (Z0g b = if 0 < (Z16 x (bxOf b x)).length then (x.name, Z10 (Z16 x (bxOf b x)), 8) else if 0 < (gapB x (bxOf b x)).length /\ x.comp = true then (x.name, Z10 (gapB x (bxOf b x)), 7) else Z0x b (b.tabs.drop (k + 1))) := L0 (by rw [HK.out, Z0l hx, Z0x])
         have HI3 : Hid (x.ins.length <= 3) := L0 (Z05 (Z4f HTO.out x (L0v hx))).2.2.2.1
         obtain ⟨ob, hob⟩ : ∃ o, Z4n b x = o := ⟨_, rfl⟩
         obtain ⟨bx, hbx⟩ : ∃ o, Z2s ob = o := ⟨_, rfl⟩
         have HBX : Hid (bxOf b x = Z2s ob) := L0 (by unfold bxOf; rw [hob])
         have HO := L0 hob
         obtain ⟨cl, hcl⟩ : ∃ o, Z16 x (Z2s ob) = o := ⟨_, rfl⟩
         obtain ⟨ga, hga⟩ : ∃ o, gapB x (Z2s ob) = o := ⟨_, rfl⟩
         have HCL := L0 hcl
         have HGA := L0 hga
         obtain ⟨cm, hcm⟩ : ∃ r, x.comp = r := ⟨_, rfl⟩
         have HCM := L0 hcm
         rw [hcm] at hr g2
         obtain ⟨W3, e3, HB3, j0, j1, j2, j3, j4, q0, q1, HR3, HK3, hw3s⟩ : ∃ W3, wr.alloc (.cells #[.string ⟨x.name.toArray⟩, .int .i64 x.pol, .bool cm, .slice A1 x.ins.length ca, .slice A2 x.rules.length cb] 66) = W3 /\ Hid (Below W0.heap.size W0 W3) /\ W3.cell? ⟨wr.heap.size, 0, none⟩ = some (.string ⟨x.name.toArray⟩) /\ W3.cell? ⟨wr.heap.size, 1, none⟩ = some (.int .i64 x.pol) /\ W3.cell? ⟨wr.heap.size, 2, none⟩ = some (.bool cm) /\ W3.cell? ⟨wr.heap.size, 3, none⟩ = some (.slice A1 x.ins.length ca) /\ W3.cell? ⟨wr.heap.size, 4, none⟩ = some (.slice A2 x.rules.length cb) /\
           W3.cell? ⟨w.heap.size, 0, none⟩ = some (.slice A b.doms.length c) /\ W3.cell? ⟨w.heap.size, 1, none⟩ = some (.slice (some ⟨bB, off, none⟩) b.tabs.length d) /\ Hid (rTb.rel W3 S [.string ⟨x.name.toArray⟩, .int .i64 x.pol, .bool cm, .slice A1 x.ins.length ca, .slice A2 x.rules.length cb] x) /\ Hid (rBk.rel W3 S [.slice A b.doms.length c, .slice (some ⟨bB, off, none⟩) b.tabs.length d] b) /\ wr.heap.size < W3.heap.size :=
          ⟨_, rfl, L0 (HB.out.alloc HB.out.size _), L0b _ _ _ _, L0b _ _ _ _, L0b _ _ _ _, L0b _ _ _ _, L0b _ _ _ _,
           ((HB.out.alloc HB.out.size _).ce 0 hs0).trans c0, ((HB.out.alloc HB.out.size _).ce 1 hs0).trans c1, L0 (jC hr (hbw.alloc hbw.size _)), L0 (jC HBK.out (HB.out.alloc HB.out.size _)), by simp⟩
         have HS3 := L0 (L0c hs0 HB3.out.size)
         clear hx hr hob hbx hcl hga hbw hcm
         by_cases hc : 0 < cl.length
         ·have HC : Hid (Z0g b = (x.name, Z10 cl, 8)) := L0 (by rw [HKK.out, HBX.out, HCL.out, if_pos hc])
          go_wp2_with (first | (go_at_call 96; (with_reducible refine (Z95 W3 HK3.out HR3.out HSM.out HI3.out HO.out).mono ?_); rintro e w4 ⟨z4, rfl, hown4, hb4⟩; have HB4 := L0 (HB3.out.trans (hb4.mono HB3.out.size)); have r0 := (hb4.ce 0 hw3s).trans j0; have r1 := (hb4.ce 1 hw3s).trans j1; have r2 := (hb4.ce 2 hw3s).trans j2; have r3 := (hb4.ce 3 hw3s).trans j3; have r4 := (hb4.ce 4 hw3s).trans j4; have HR4 := L0 (jC HR3.out hb4); have HS4 := L0 (L0c hw3s hb4.size); have HOW4 : Hid (rBx.rel w4 (Up (fun _ => False) W3.heap.size) [z4] (Z2s ob)) := L0 (hown4.rel (by decide)); obtain ⟨Ab4, cb4, rfl⟩ := hown4.value; clear hb4 hown4) | (go_at_call 97; (with_reducible refine (Y3y w4 HR4.out HOW4.out HCL.out).mono ?_); rintro e w5 ⟨z5, S5, rfl, hz5, hb5⟩; obtain ⟨Az5, cz5, rfl, _⟩ := rSl.elems hz5; have HB5 := L0 (HB4.out.trans (hb5.mono HB4.out.size)); have s0 := (hb5.ce 0 HS4.out).trans r0; have s1 := (hb5.ce 1 HS4.out).trans r1; have s2 := (hb5.ce 2 HS4.out).trans r2; have s3 := (hb5.ce 3 HS4.out).trans r3; have s4 := (hb5.ce 4 HS4.out).trans r4; have HR5 := L0 (jC HR4.out hb5); have HOW5 := L0 (jC HOW4.out hb5); have HS5 := L0 (L0c HS4.out hb5.size); have HZ5 := L0 hz5; clear hb5 hz5))
          go_ret3
          exact ⟨_, S5, by rw [HC.out]; rfl, by rw [HC.out]; exact Y4l HZ5.out (L0i HB0.out.size HB4.out.size), HB0.out.trans (HB5.out.mono HB0.out.size)⟩
         ·cases cm
          all_goals
           by_cases hg : 0 < ga.length
           all_goals
            go_wp2_with (first | (go_at_call 96; (with_reducible refine (Z95 W3 HK3.out HR3.out HSM.out HI3.out HO.out).mono ?_); rintro e w4 ⟨z4, rfl, hown4, hb4⟩; have HB4 := L0 (HB3.out.trans (hb4.mono HB3.out.size)); have r0 := (hb4.ce 0 hw3s).trans j0; have r1 := (hb4.ce 1 hw3s).trans j1; have r2 := (hb4.ce 2 hw3s).trans j2; have r3 := (hb4.ce 3 hw3s).trans j3; have r4 := (hb4.ce 4 hw3s).trans j4; have HR4 := L0 (jC HR3.out hb4); have HS4 := L0 (L0c hw3s hb4.size); have HOW4 : Hid (rBx.rel w4 (Up (fun _ => False) W3.heap.size) [z4] (Z2s ob)) := L0 (hown4.rel (by decide)); obtain ⟨Ab4, cb4, rfl⟩ := hown4.value; clear hb4 hown4) | (go_at_call 97; (with_reducible refine (Y3y w4 HR4.out HOW4.out HCL.out).mono ?_); rintro e w5 ⟨z5, S5, rfl, hz5, hb5⟩; obtain ⟨Az5, cz5, rfl, _⟩ := rSl.elems hz5; have HB5 := L0 (HB4.out.trans (hb5.mono HB4.out.size)); have s0 := (hb5.ce 0 HS4.out).trans r0; have s1 := (hb5.ce 1 HS4.out).trans r1; have s2 := (hb5.ce 2 HS4.out).trans r2; have s3 := (hb5.ce 3 HS4.out).trans r3; have s4 := (hb5.ce 4 HS4.out).trans r4; have HR5 := L0 (jC HR4.out hb5); have HOW5 := L0 (jC HOW4.out hb5); have HS5 := L0 (L0c HS4.out hb5.size); have HZ5 := L0 hz5; clear hb5 hz5)| (go_at_call 98; (with_reducible refine (X1y w5 HR5.out HOW5.out HGA.out).mono ?_); rintro e w6 ⟨z6, S6, rfl, hz6, hb6⟩; obtain ⟨Az6, cz6, rfl, _⟩ := rSl.elems hz6; have HB6 := L0 (HB5.out.trans (hb6.mono HB5.out.size)); have t0 := (hb6.ce 0 HS5.out).trans s0; have t2 := (hb6.ce 2 HS5.out).trans s2; have HZ6 := L0 hz6; clear hb6 hz6))
          ·have HK' : Hid (Z0g b = Z0x b (b.tabs.drop (k + 1))) := L0 (by rw [HKK.out, HBX.out, HCL.out, if_neg hc, HGA.out, if_neg (by rw [HCM.out]; simp)])
           go_roundw
           case rel => exact ⟨k + 1, by omega, by go_num, HK', HB6⟩
           case measure => simp [intOf]; omega
          ·have HK' : Hid (Z0g b = Z0x b (b.tabs.drop (k + 1))) := L0 (by rw [HKK.out, HBX.out, HCL.out, if_neg hc, HGA.out, if_neg (by simp [hg])])
           go_roundw
           case rel => exact ⟨k + 1, by omega, by go_num, HK', HB6⟩
           case measure => simp [intOf]; omega
          ·have HC : Hid (Z0g b = (x.name, Z10 ga, 7)) := L0 (by rw [HKK.out, HBX.out, HCL.out, if_neg hc, HGA.out, if_pos ⟨hg, HCM.out⟩])
           go_ret3
           exact ⟨_, S6, by rw [HC.out]; rfl, by rw [HC.out]; exact Y4l HZ6.out (L0i HB0.out.size HB5.out.size), HB0.out.trans (HB6.out.mono HB0.out.size)⟩
          ·have HK' : Hid (Z0g b = Z0x b (b.tabs.drop (k + 1))) := L0 (by rw [HKK.out, HBX.out, HCL.out, if_neg hc, HGA.out, if_neg (by simp [hg])])
           go_roundw
           case rel => exact ⟨k + 1, by omega, by go_num, HK', HB6⟩
           case measure => simp [intOf]; omega
        ·have HC : Hid (Z0g b = ([], [], 0)) := L0 (by rw [HK.out, L0t (by omega)]; rfl)
         go_wp2
         go_ret3
         exact HZ.out _ _ _ HC.out rfl rfl HB.out
