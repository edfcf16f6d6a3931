/- The contract of Clash. BoxRests: the plain law and the walk. -/
import Derived.Test.YtlopccnehgolnabGreatDoorGrP
import Derived.Test.YtlopccnehgolnabGreatDoorGrJ
import Derived.Test.YtlopccnehgolnabGreatDoorGrG
namespace Go.Proofs.YtlopccnehgolnabGreatDoor
open Go.RowKit Rb

/-- The box of inputs of which two rules say two things. -/
def clashOf (pol : Int) (all : Bx) (r s : Rl) : List Bx :=
  if someBx (areaB r all) && someBx (areaB s all) && !(decide (pol = 2) && decide (r.out = s.out)) && someBx (bothBx (optBx (areaB r all)) (optBx (areaB s all))) then [optBx (bothBx (optBx (areaB r all)) (optBx (areaB s all)))] else []
def clashRow (pol : Int) (all : Bx) (r : Rl) (l : List Rl) : List Bx := l.flatMap (clashOf pol all r)
def clashTo (t : Tb) (all : Bx) (k : Nat) : List Bx := (List.range k).flatMap fun i => match t.rules[i]? with | some r => clashRow t.pol all r (t.rules.take i) | none => []
def clashB (t : Tb) (all : Bx) : List Bx := if goodT t && goodBx all (t.ins.length : Int) && decide (t.pol ≤ 2) then clashTo t all t.rules.length else []

theorem clashTo_succ {t : Tb} {all : Bx} {k : Nat} {r : Rl} (h : t.rules[k]? = some r) : clashTo t all (k + 1) = clashTo t all k ++ clashRow t.pol all r (t.rules.take k) := by
  unfold clashTo
  rw [List.range_succ, List.flatMap_append]
  simp [h]
theorem clashRow_succ {pol : Int} {all : Bx} {r s : Rl} {l : List Rl} {j : Nat} (h : l[j]? = some s) : clashRow pol all r (l.take (j + 1)) = clashRow pol all r (l.take j) ++ clashOf pol all r s := by
  unfold clashRow
  rw [take_getElem? h, List.flatMap_append]
  simp
theorem clashRow_none {pol : Int} {all : Bx} {r : Rl} {l : List Rl} (h : someBx (areaB r all) = false) : clashRow pol all r l = [] := by
  unfold clashRow
  rw [List.flatMap_eq_nil_iff]
  intro s _
  unfold clashOf
  rw [h]; rfl

theorem clashOf_some {pol : Int} {all : Bx} {r s : Rl} {a b x : Bx} {f : Bool} (ha : areaB r all = some a) (hb : areaB s all = some b) (hc : pol ≠ 2 ∨ r.out ≠ s.out) (hf : someBx (bothBx a b) = f) (hx : optBx (bothBx a b) = x) : clashOf pol all r s = if f then [x] else [] := by
  subst hf; subst hx
  have h : (decide (pol = 2) && decide (r.out = s.out)) = false := by
    rw [Bool.and_eq_false_iff, decide_eq_false_iff_not, decide_eq_false_iff_not]; exact hc
  have e : optBx (some a) = a ∧ optBx (some b) = b := ⟨rfl, rfl⟩
  unfold clashOf
  rw [ha, hb, h, e.1, e.2]
  simp only [show someBx (some a) = true from rfl, show someBx (some b) = true from rfl, Bool.true_and, Bool.not_false]

theorem nil_rel {α : Type} (R : Rd α) (w : World) : (rSl R).rel w (fun _ => True) [.slice none 0 0] [] := ⟨none, 0, rfl, Nat.le_refl _, by decide, by simp, fun i x hx => by simp at hx⟩

/-- The blocks that an area is read by: old ones, and those laid between two marks. -/
def S9 (m n8 n4 : Nat) : Nat → Prop := fun b => b < m ∨ (n8 < b ∧ b < n4)
structure ClI (W0 : World) (n8 n4 : Nat) (rout : Int) (z9 : Value) (a : Bx) (wr : World) (o : Value) (out : List Bx) : Prop where
  own : Own rBx 59 wr W0.heap.size (fun _ => False) o out
  blk : ∀ b, o.ownBlock = some b → b < n8 ∨ n4 ≤ b
  below : Below W0.heap.size W0 wr
  c1 : wr.cell? ⟨n8, 1, none⟩ = some (.int .i64 rout)
  ra : rBx.rel wr (S9 W0.heap.size n8 n4) [z9] a
  sz : n4 ≤ wr.heap.size
  base : W0.heap.size ≤ n8
  n84 : n8 < n4

theorem ClI.keepB {W0 : World} {n8 n4 : Nat} {rout : Int} {z9 : Value} {a : Bx} {wr w' : World} {o : Value} {out : List Bx} (I : ClI W0 n8 n4 rout z9 a wr o out) (hb : Below wr.heap.size wr w') : ClI W0 n8 n4 rout z9 a w' o out where
  own := I.own.below hb
  blk := I.blk
  below := I.below.trans (hb.mono I.below.size)
  c1 := (hb.cell (p := ⟨n8, 1, none⟩) (Nat.lt_of_lt_of_le I.n84 I.sz)).trans I.c1
  ra := Rd.below I.ra hb
  sz := Nat.le_trans I.sz hb.size
  base := I.base
  n84 := I.n84
theorem ClI.push {W0 : World} {n8 n4 : Nat} {rout : Int} {z9 : Value} {a : Bx} {wr w9 : World} {o o9 : Value} {out : List Bx} {x : Bx} (I : ClI W0 n8 n4 rout z9 a wr o out) (hown : Own rBx 59 w9 W0.heap.size (fun _ => False) o9 (out ++ [x]))
    (hb : Below W0.heap.size wr w9) (hg : wr.grownBy w9 o.ownBlock) (hv : o9.ownBlock = o.ownBlock ∨ o9.ownBlock = some (wr.heap.size + 1)) : ClI W0 n8 n4 rout z9 a w9 o9 (out ++ [x]) where
  own := hown
  blk := fun b h => by
    rcases hv with hv | hv
    · exact I.blk b (hv ▸ h)
    · rw [hv] at h; injection h with h; have := I.sz; right; omega
  below := I.below.trans hb
  c1 := (grownC hg (q := n8) (Nat.lt_of_lt_of_le I.n84 I.sz) (fun h => by have := I.blk _ h; have := I.n84; omega) 1).1.trans I.c1
  ra := rBx.keep I.ra (Keeps.grown hg fun g h hS => by
    have h1 := I.blk g h
    have h2 := (I.own.lt g h).1
    have h3 := I.base
    have h4 := I.n84
    rcases hS with hS | hS <;> omega)
  sz := Nat.le_trans I.sz hg.size
  base := I.base
  n84 := I.n84

theorem Area_at {S T : Nat → Prop} {v u : Value} {r : Rl} {all : Bx} {ar : Option Bx} (w : World) (hl : (rSl rCl).rel w S [v] r.cells) (hm : rBx.rel w T [u] all) (h : areaB r all = ar) :
    Calls Tryz.prog 61 #[.agg #[v, .int .i64 r.out], u] w fun e w' => ∃ z, e = .returned (.tuple #[z, .bool (someBx ar)]) ∧ Own (rSl rRg) 95 w' w.heap.size T z (optBx ar) ∧ Below w.heap.size w w' := h ▸ Area_any w hl hm

theorem Area_some {S T : Nat → Prop} {v u : Value} {r : Rl} {all : Bx} {a : Bx} (w : World) (hl : (rSl rCl).rel w S [v] r.cells) (hm : rBx.rel w T [u] all) (h : areaB r all = some a) :
    Calls Tryz.prog 61 #[.agg #[v, .int .i64 r.out], u] w fun e w' => ∃ z, e = .returned (.tuple #[z, .bool true]) ∧ Own (rSl rRg) 95 w' w.heap.size T z a ∧ Below w.heap.size w w' := Area_at w hl hm h
theorem Area_none {S T : Nat → Prop} {v u : Value} {r : Rl} {all : Bx} (w : World) (hl : (rSl rCl).rel w S [v] r.cells) (hm : rBx.rel w T [u] all) (h : areaB r all = none) :
    Calls Tryz.prog 61 #[.agg #[v, .int .i64 r.out], u] w fun e w' => ∃ z, e = .returned (.tuple #[z, .bool false]) ∧ Below w.heap.size w w' := (Area_at w hl hm h).mono fun _ _ ⟨z, h1, _, h3⟩ => ⟨z, h1, h3⟩

set_option maxRecDepth 100000 in
set_option maxHeartbeats 1600000 in
theorem Clash_any {S T : Nat → Prop} {cs : List Value} {t : Tb} {u : Value} {all : Bx} (w : World) (hl : rTb.rel w S cs t) (hm : rBx.rel w T [u] all) :
    Calls Tryz.prog 21 #[.agg cs.toArray, u] w fun e w' => ∃ z S', e = .returned (.tuple #[z, .bool (decide (0 < (clashB t all).length))]) ∧ (rSl rInt).rel w' S' [z] (leastB (clashB t all)) ∧ Below w.heap.size w w' := by
  have hal := rSl.lenle hm (by decide)
  have HG := Lib.hid fun o => TGood_any (w.alloc o) (Rd.alloc hl o)
  obtain ⟨vi, vr, rfl, hnm, hp, hi, hr⟩ := hl
  obtain ⟨A, c, rfl, hi1, hi2, hi3, hE⟩ := rSl.elems hi
  obtain ⟨B, d, rfl, hr1, hr2, hr3, hF⟩ := rSl.elems hr
  obtain ⟨C, g, rfl, _⟩ := rSl.elems hm
  have HALL := Lib.hid (show rBx.rel w (fun b => T b ∧ b < w.heap.size) _ _ from rBx.mono hm fun b h h' => ⟨h, h'⟩)
  obtain ⟨W0, e0, hb0, c0, c1, c2, c3, c4, hs0⟩ : ∃ W0, w.alloc (.cells #[.string ⟨t.name.toArray⟩, .int .i64 t.pol, .bool t.comp, .slice A t.ins.length c, .slice B t.rules.length d] 42) = W0 ∧ Below w.heap.size w W0 ∧
      W0.cell? ⟨w.heap.size, 0, none⟩ = some (.string ⟨t.name.toArray⟩) ∧ W0.cell? ⟨w.heap.size, 1, none⟩ = some (.int .i64 t.pol) ∧ W0.cell? ⟨w.heap.size, 2, none⟩ = some (.bool t.comp) ∧ W0.cell? ⟨w.heap.size, 3, none⟩ = some (.slice A t.ins.length c) ∧ W0.cell? ⟨w.heap.size, 4, none⟩ = some (.slice B t.rules.length d) ∧ w.heap.size < W0.heap.size :=
    ⟨_, rfl, (Below.refl _ _).alloc (Nat.le_refl _) _, World.cell?_alloc_new _ _ _ _, World.cell?_alloc_new _ _ _ _, World.cell?_alloc_new _ _ _ _, World.cell?_alloc_new _ _ _ _, World.cell?_alloc_new _ _ _ _, by simp⟩
  have HG0 := Lib.hid (by have := HG.out (.cells #[.string ⟨t.name.toArray⟩, .int .i64 t.pol, .bool t.comp, .slice A t.ins.length c, .slice B t.rules.length d] 42); rw [e0] at this; exact this)
  clear hi hr hE hi3 hr3 hm HG
  cases hgt : goodT t
  · have HF : Hid (clashB t all = []) := Lib.hid (by unfold clashB; rw [hgt]; rfl)
    rw [hgt] at HG0
    clear hgt
    go_enter Tryz.func21, Tryz.ntmps21
    go_wp2_with (first | (go_at_call 51; refine HG0.out.mono ?_; rintro e w1 ⟨rfl, hb1⟩))
    go_ret2
    exact ⟨_, fun _ => True, by rw [HF.out]; rfl, by rw [HF.out]; exact nil_rel _ _, hb0.trans (hb1.mono hb0.size)⟩
  rw [hgt] at HG0
  have hrl : t.rules.length ≤ 6 := (goodT_head hgt).2.2.2.2.2
  cases hgb : goodBx all (t.ins.length : Int)
  · have HF : Hid (clashB t all = []) := Lib.hid (by unfold clashB; rw [hgb, Bool.and_false]; rfl)
    have HGB := Lib.hid hgb
    clear hgt hgb
    go_enter Tryz.func21, Tryz.ntmps21
    go_wp2_with (first | (go_at_call 51; refine HG0.out.mono ?_; rintro e w1 ⟨rfl, hb1⟩; have hbx := hb0.trans (hb1.mono hb0.size); have k3 := (hb1.cell (p := ⟨w.heap.size, 3, none⟩) hs0).trans c3) | (go_at_call 52; ((with_reducible refine (BGood_b _ (Rd.below HALL.out hbx) HGB.out).mono ?_); rintro e w2 ⟨rfl, hb2⟩)))
    go_ret2
    exact ⟨_, fun _ => True, by rw [HF.out]; rfl, by rw [HF.out]; exact nil_rel _ _, hbx.trans (hb2.mono hbx.size)⟩
  have HGB := Lib.hid hgb
  by_cases hp2 : t.pol ≤ 2
  case neg =>
    have HF : Hid (clashB t all = []) := Lib.hid (by unfold clashB; rw [decide_eq_false hp2, Bool.and_false]; rfl)
    have hp3 : 2 < t.pol := by omega
    clear hgt hgb
    go_enter Tryz.func21, Tryz.ntmps21
    go_wp2_with (first | (go_at_call 51; refine HG0.out.mono ?_; rintro e w1 ⟨rfl, hb1⟩; have hbx := hb0.trans (hb1.mono hb0.size); have k3 := (hb1.cell (p := ⟨w.heap.size, 3, none⟩) hs0).trans c3; have k1 := (hb1.cell (p := ⟨w.heap.size, 1, none⟩) hs0).trans c1) | (go_at_call 52; ((with_reducible refine (BGood_b _ (Rd.below HALL.out hbx) HGB.out).mono ?_); rintro e w2 ⟨rfl, hb2⟩; have m1 := (hb2.cell (p := ⟨w.heap.size, 1, none⟩) (Nat.lt_of_lt_of_le hs0 hb1.size)).trans k1)))
    go_ret2
    exact ⟨_, fun _ => True, by rw [HF.out]; rfl, by rw [HF.out]; exact nil_rel _ _, hbx.trans (hb2.mono hbx.size)⟩
  have HF : Hid (clashB t all = clashTo t all t.rules.length) := Lib.hid (by unfold clashB; rw [hgt, hgb, decide_eq_true hp2]; rfl)
  have hp3 : ¬ 2 < t.pol := by omega
  clear hgt hgb hp2
  go_enter Tryz.func21, Tryz.ntmps21
  go_wp2_with (first | (go_at_call 51; refine HG0.out.mono ?_; rintro e w1 ⟨rfl, hb1⟩; have hbx := hb0.trans (hb1.mono hb0.size); have k3 := (hb1.cell (p := ⟨w.heap.size, 3, none⟩) hs0).trans c3; have k1 := (hb1.cell (p := ⟨w.heap.size, 1, none⟩) hs0).trans c1; have k4 := (hb1.cell (p := ⟨w.heap.size, 4, none⟩) hs0).trans c4) | (go_at_call 52; ((with_reducible refine (BGood_b _ (Rd.below HALL.out hbx) HGB.out).mono ?_); rintro e w2 ⟨rfl, hb2⟩; have m1 := (hb2.cell (p := ⟨w.heap.size, 1, none⟩) (Nat.lt_of_lt_of_le hs0 hb1.size)).trans k1; have m4 := (hb2.cell (p := ⟨w.heap.size, 4, none⟩) (Nat.lt_of_lt_of_le hs0 hb1.size)).trans k4)))
  have hbw := hb1.trans (hb2.mono hb1.size)
  clear hb1 hb2 hbx k1 k3 k4 m1 m4 e0
  go_loopw [6, 36] (fun o i wr => ∃ (k : Nat) (out : List Bx), k ≤ t.rules.length ∧ i = .int .i64 k ∧ Own rBx 59 wr W0.heap.size (fun _ => False) o out ∧ Hid (out = clashTo t all k) ∧ Hid (out.length ≤ 6 * k) ∧ Below W0.heap.size W0 wr) (fun _ i _ => t.rules.length - (intOf i).toNat)
  case atStart => exact ⟨0, [], Nat.zero_le _, rfl, Own.nil _ _ _ _ _, Lib.hid rfl, Lib.hid (by simp), hbw⟩
  case round =>
    clear hbw HG0 HGB
    obtain ⟨k, out, hk, rfl, hown, HO, HOL, hb⟩ := hrel
    have m1 := (hb.cell (p := ⟨w.heap.size, 1, none⟩) hs0).trans c1
    have m4 := (hb.cell (p := ⟨w.heap.size, 4, none⟩) hs0).trans c4
    have hbw := hb0.trans (hb.mono (Nat.le_of_lt hs0))
    by_cases hlt : k < t.rules.length
    · obtain ⟨bA, off, r, q, rfl, _, hbA, hx, hri, hq, g1, g2⟩ := hF.rl hlt
      rw [← hbw.cell (p := ⟨bA, _, none⟩) hbA] at g1 g2
      have hik : (k : Int) < (t.rules.length : Int) := by omega
      have HT := Lib.hid (clashTo_succ (all := all) hx)
      obtain ⟨A2, l2, rfl, _⟩ := rSl.elems hq
      have HQ := Lib.hid hq
      obtain ⟨W1, e1, hown1, hb1, d0, d1, hs1⟩ : ∃ W1, wr.alloc (.cells #[.slice A2 r.cells.length l2, .int .i64 r.out] 93) = W1 ∧ Own rBx 59 W1 W0.heap.size (fun _ => False) u6 out ∧ Below W0.heap.size W0 W1 ∧
          W1.cell? ⟨wr.heap.size, 0, none⟩ = some (.slice A2 r.cells.length l2) ∧ W1.cell? ⟨wr.heap.size, 1, none⟩ = some (.int .i64 r.out) ∧ W1.heap.size = wr.heap.size + 1 :=
        ⟨_, rfl, hown.alloc _, hb.alloc hb.size _, World.cell?_alloc_new _ _ _ _, World.cell?_alloc_new _ _ _ _, by simp⟩
      have HLT := Lib.hid hown.lt
      have hbw1 := hb0.trans (hb1.mono (Nat.le_of_lt hs0))
      clear hown hx hq
      have HQ1 := Lib.hid (Rd.below HQ.out hbw1)
      have HALL1 := Lib.hid (Rd.below HALL.out hbw1)
      generalize har : areaB r all = ar at *
      have HAR := Lib.hid har
      clear har
      cases ar with
      | none =>
        have HT' : Hid (clashTo t all (k + 1) = out) := Lib.hid (by rw [HT.out, clashRow_none (by rw [HAR.out]; rfl), List.append_nil, HO.out])
        go_wp2_with (first | (go_at_call 61; go_must ((with_reducible refine (Area_none W1 HQ1.out HALL1.out HAR.out).mono ?_); rintro e w4 ⟨z9, rfl, hb4⟩)))
        go_roundw
        case rel => exact ⟨k + 1, out, by omega, by go_num, hown1.below hb4, Lib.hid HT'.out.symm, Lib.hid (by have := HOL.out; omega), hb1.trans (hb4.mono hb1.size)⟩
        case measure => simp [intOf]; omega
      | some a =>
        have HUSE := Lib.hid HLT.out
        have hwr := hb.size
        go_wp2_with (first | (go_at_call 61; go_must ((with_reducible refine (Area_some W1 HQ1.out HALL1.out HAR.out).mono ?_); rintro e w4 ⟨z9, rfl, how4, hb4⟩; obtain ⟨A9, l9, rfl⟩ := how4.value; have n4 := ((hb1.trans (hb4.mono hb1.size)).cell (p := ⟨w.heap.size, 4, none⟩) hs0).trans c4)))
        have HI0 : Hid (ClI W0 wr.heap.size w4.heap.size r.out (.slice A9 a.length l9) a w4 u6 out) := Lib.hid {
          own := hown1.below hb4
          blk := fun b h => .inl (HLT.out b h).2
          below := hb1.trans (hb4.mono hb1.size)
          c1 := (hb4.cell (p := ⟨wr.heap.size, 1, none⟩) (by show wr.heap.size < _; omega)).trans d1
          ra := rBx.mono (show rBx.rel w4 _ _ _ from how4.rel (by decide)) fun b h h' => by
            rcases h with h | h
            · exact .inl (Nat.lt_trans h.2 hs0)
            · exact .inr ⟨by omega, h'⟩
          sz := Nat.le_refl _
          base := hwr
          n84 := by have := hb4.size; omega }
        clear hown1 how4 hb4 d0 d1 n4 hb hbw hb1 hbw1 HQ HQ1 HALL1 HLT HUSE g1 g2 m1 m4 hs1 e1 hwr
        generalize wr.heap.size = n8 at *
        have hik3 : ¬ (k : Int) < 0 := by omega
        go_loopw [6, 54] (fun o i wi => ∃ (j : Nat) (out2 : List Bx), j ≤ k ∧ i = .int .i64 j ∧ Hid (ClI W0 n8 w4.heap.size r.out (.slice A9 a.length l9) a wi o out2) ∧ Hid (out2 = out ++ clashRow t.pol all r (t.rules.take j)) ∧ Hid (out2.length ≤ 6 * k + j)) (fun _ i _ => k - (intOf i).toNat)
        case atStart => exact ⟨0, out, Nat.zero_le _, rfl, HI0, Lib.hid (by simp [clashRow]), HOL⟩
        case round =>
          clear HI0
          obtain ⟨j, out2, hj, rfl, HI, HO2, HOL2⟩ := hrel
          have hbi := HI.out.below
          have hbwi := hb0.trans (hbi.mono (Nat.le_of_lt hs0))
          by_cases hlj : j < k
          · obtain ⟨bA', off', s, q', h9, _, hbA', hx', hri', hq', g1', g2'⟩ := hF.rl (show j < t.rules.length by omega)
            obtain ⟨rfl, rfl⟩ : bA = bA' ∧ off = off' := by simpa using h9
            rw [← hbwi.cell (p := ⟨bA, _, none⟩) hbA] at g1' g2'
            have hij : (j : Int) < (k : Int) := by omega
            have HRS : Hid (out ++ clashRow t.pol all r (t.rules.take (j + 1)) = out ++ (clashRow t.pol all r (t.rules.take j) ++ clashOf t.pol all r s)) := Lib.hid (congrArg (out ++ ·) (clashRow_succ (pol := t.pol) (all := all) (r := r) hx'))
            obtain ⟨A3, l3, rfl, _⟩ := rSl.elems hq'
            have HQ' := Lib.hid hq'
            obtain ⟨W2, e2, hb2, f0, f1, hs2, hs2w⟩ : ∃ W2, wr.alloc (.cells #[.slice A3 s.cells.length l3, .int .i64 s.out] 93) = W2 ∧ Below wr.heap.size wr W2 ∧
                W2.cell? ⟨wr.heap.size, 0, none⟩ = some (.slice A3 s.cells.length l3) ∧ W2.cell? ⟨wr.heap.size, 1, none⟩ = some (.int .i64 s.out) ∧ wr.heap.size < W2.heap.size ∧ Below w.heap.size w W2 :=
              ⟨_, rfl, (Below.refl _ _).alloc (Nat.le_refl _) _, World.cell?_alloc_new _ _ _ _, World.cell?_alloc_new _ _ _ _, by simp, hbwi.alloc hbwi.size _⟩
            have HQ2 := Lib.hid (Rd.below HQ'.out hs2w)
            have HALL2 := Lib.hid (Rd.below HALL.out hs2w)
            have HUP : Hid (∀ w5, Below wr.heap.size wr w5 → ∀ b, Up (fun _ => False) w5.heap.size b → Up (fun _ => False) W0.heap.size b ∧ u6.ownBlock ≠ some b) := Lib.hid (by
              rintro w5 h5 b (h | h)
              · exact h.elim
              · exact ⟨.inr (Nat.le_trans hbi.size (Nat.le_trans h5.size h)), fun e => by have := HI.out.own.lt _ e; have := h5.size; omega⟩)
            have HBY : Hid ((out2.length + 1) * rBx.bytes ≤ 140737488355328) := Lib.hid (by have := HOL2.out; show (_ + _) * 24 ≤ _; omega)
            clear h9 hx' hq' HQ' hbi hbwi
            generalize hbr : areaB s all = br at *
            have HBR := Lib.hid hbr
            clear hbr
            cases br with
            | none =>
              have HC : Hid (clashOf t.pol all r s = []) := Lib.hid (by unfold clashOf; rw [HBR.out]; simp [someBx])
              go_wp2_with (first | (go_at_call 61; go_must ((with_reducible refine (Area_none W2 HQ2.out HALL2.out HBR.out).mono ?_); rintro e w5 ⟨z13, rfl, hb5⟩; have HI5 := Lib.hid (HI.out.keepB (hb2.trans (hb5.mono hb2.size))))))
              go_roundw
              case rel => exact ⟨j + 1, out2, by omega, by go_num, HI5, Lib.hid (by rw [HRS.out, HC.out, List.append_nil, HO2.out]), Lib.hid (by have := HOL2.out; omega)⟩
              case measure => simp [intOf]; omega
            | some b =>
              obtain ⟨xb, hxb⟩ : ∃ x, optBx (bothBx a b) = x := ⟨_, rfl⟩
              obtain ⟨rr, hrr⟩ : ∃ x, someBx (bothBx a b) = x := ⟨_, rfl⟩
              have qo := Lib.hid hxb
              have qr := Lib.hid hrr
              clear hxb hrr
              by_cases hp2 : t.pol = 2
              · by_cases hro : r.out = s.out
                · have HC : Hid (clashOf t.pol all r s = []) := Lib.hid (by unfold clashOf; rw [HBR.out]; simp [hp2, hro])
                  have t1 : (t.pol == 2) = true := by rw [beq_iff_eq]; exact hp2
                  have t2 : (r.out == s.out) = true := by rw [beq_iff_eq]; exact hro
                  clear hp2 hro
                  go_wp2_with (first | (go_at_call 61; go_must ((with_reducible refine (Area_some W2 HQ2.out HALL2.out HBR.out).mono ?_); rintro e w5 ⟨z13, rfl, how5, hb5⟩; obtain ⟨A13, l13, rfl⟩ := how5.value; have HI5 := Lib.hid (HI.out.keepB (hb2.trans (hb5.mono hb2.size))); have p1 := (HI5.out.below.cell (p := ⟨w.heap.size, 1, none⟩) hs0).trans c1; have pr := HI5.out.c1; have ps := (hb5.cell (p := ⟨wr.heap.size, 1, none⟩) hs2).trans f1; have HB5 := Lib.hid (show rBx.rel w5 _ _ _ from how5.rel (by decide)))))
                  go_roundw
                  case rel => exact ⟨j + 1, out2, by omega, by go_num, HI5, Lib.hid (by rw [HRS.out, HC.out, List.append_nil, HO2.out]), Lib.hid (by have := HOL2.out; omega)⟩
                  case measure => simp [intOf]; omega
                · have t1 : (t.pol == 2) = true := by rw [beq_iff_eq]; exact hp2
                  have t2 : (r.out == s.out) = false := by rw [beq_eq_false_iff_ne]; exact hro
                  have hro2 := Lib.hid hro
                  clear hp2 hro
                  cases rr
                  · have HC : Hid (clashOf t.pol all r s = []) := Lib.hid (clashOf_some HAR.out HBR.out (.inr hro2.out) qr.out qo.out)
                    go_wp2_with (first | (go_at_call 61; go_must ((with_reducible refine (Area_some W2 HQ2.out HALL2.out HBR.out).mono ?_); rintro e w5 ⟨z13, rfl, how5, hb5⟩; obtain ⟨A13, l13, rfl⟩ := how5.value; have HI5 := Lib.hid (HI.out.keepB (hb2.trans (hb5.mono hb2.size))); have p1 := (HI5.out.below.cell (p := ⟨w.heap.size, 1, none⟩) hs0).trans c1; have pr := HI5.out.c1; have ps := (hb5.cell (p := ⟨wr.heap.size, 1, none⟩) hs2).trans f1; have HB5 := Lib.hid (show rBx.rel w5 _ _ _ from how5.rel (by decide)))) | (go_at_call 62; go_must ((with_reducible refine (BBoth_at w5 HI5.out.ra HB5.out qr.out qo.out).mono ?_); rintro e w6 ⟨z15, rfl, how6, hb6⟩; obtain ⟨A15, l15, rfl⟩ := how6.value; have HI6 := Lib.hid (HI5.out.keepB hb6))))
                    go_roundw
                    case rel => exact ⟨j + 1, out2, by omega, by go_num, HI6, Lib.hid (by rw [HRS.out, HC.out, List.append_nil, HO2.out]), Lib.hid (by have := HOL2.out; omega)⟩
                    case measure => simp [intOf]; omega
                  · have HC : Hid (clashOf t.pol all r s = [xb]) := Lib.hid (clashOf_some HAR.out HBR.out (.inr hro2.out) qr.out qo.out)
                    go_wp2_with (first | (go_at_call 61; go_must ((with_reducible refine (Area_some W2 HQ2.out HALL2.out HBR.out).mono ?_); rintro e w5 ⟨z13, rfl, how5, hb5⟩; obtain ⟨A13, l13, rfl⟩ := how5.value; have HI5 := Lib.hid (HI.out.keepB (hb2.trans (hb5.mono hb2.size))); have p1 := (HI5.out.below.cell (p := ⟨w.heap.size, 1, none⟩) hs0).trans c1; have pr := HI5.out.c1; have ps := (hb5.cell (p := ⟨wr.heap.size, 1, none⟩) hs2).trans f1; have HB5 := Lib.hid (show rBx.rel w5 _ _ _ from how5.rel (by decide)))) | (go_at_call 62; go_must ((with_reducible refine (BBoth_at w5 HI5.out.ra HB5.out qr.out qo.out).mono ?_); rintro e w6 ⟨z15, rfl, how6, hb6⟩; obtain ⟨A15, l15, rfl⟩ := how6.value; have HI6 := Lib.hid (HI5.out.keepB hb6))) | (at_builtin; go_must (refine wpList_append_new (R := rBx) (x := xb) el_Bxs rfl (.tmp 85) (.tmp 87) rfl rfl HI6.out.own [.slice A15 xb.length l15] rfl rfl (Up (fun _ => False) w5.heap.size) (how6.rel (by decide)) (fun b h _ => HUP.out w5 (hb2.trans (hb5.mono hb2.size)) b h) HBY.out HI6.out.below.size ?_); intro v9 w9 hown9 hb9 hg9 hv9; have HI9 := Lib.hid (HI6.out.push hown9 hb9 hg9 hv9)))
                    go_roundw
                    case rel => exact ⟨j + 1, out2 ++ [xb], by omega, by go_num, HI9, Lib.hid (by rw [HRS.out, HC.out, ← List.append_assoc, ← HO2.out]), Lib.hid (by have := HOL2.out; rw [List.length_append]; simp only [List.length_cons, List.length_nil]; omega)⟩
                    case measure => simp [intOf]; omega
              · have t1 : (t.pol == 2) = false := by rw [beq_eq_false_iff_ne]; exact hp2
                have hpp2 := Lib.hid hp2
                clear hp2
                cases rr
                · have HC : Hid (clashOf t.pol all r s = []) := Lib.hid (clashOf_some HAR.out HBR.out (.inl hpp2.out) qr.out qo.out)
                  go_wp2_with (first | (go_at_call 61; go_must ((with_reducible refine (Area_some W2 HQ2.out HALL2.out HBR.out).mono ?_); rintro e w5 ⟨z13, rfl, how5, hb5⟩; obtain ⟨A13, l13, rfl⟩ := how5.value; have HI5 := Lib.hid (HI.out.keepB (hb2.trans (hb5.mono hb2.size))); have p1 := (HI5.out.below.cell (p := ⟨w.heap.size, 1, none⟩) hs0).trans c1; have pr := HI5.out.c1; have ps := (hb5.cell (p := ⟨wr.heap.size, 1, none⟩) hs2).trans f1; have HB5 := Lib.hid (show rBx.rel w5 _ _ _ from how5.rel (by decide)))) | (go_at_call 62; go_must ((with_reducible refine (BBoth_at w5 HI5.out.ra HB5.out qr.out qo.out).mono ?_); rintro e w6 ⟨z15, rfl, how6, hb6⟩; obtain ⟨A15, l15, rfl⟩ := how6.value; have HI6 := Lib.hid (HI5.out.keepB hb6))))
                  go_roundw
                  case rel => exact ⟨j + 1, out2, by omega, by go_num, HI6, Lib.hid (by rw [HRS.out, HC.out, List.append_nil, HO2.out]), Lib.hid (by have := HOL2.out; omega)⟩
                  case measure => simp [intOf]; omega
                · have HC : Hid (clashOf t.pol all r s = [xb]) := Lib.hid (clashOf_some HAR.out HBR.out (.inl hpp2.out) qr.out qo.out)
                  go_wp2_with (first | (go_at_call 61; go_must ((with_reducible refine (Area_some W2 HQ2.out HALL2.out HBR.out).mono ?_); rintro e w5 ⟨z13, rfl, how5, hb5⟩; obtain ⟨A13, l13, rfl⟩ := how5.value; have HI5 := Lib.hid (HI.out.keepB (hb2.trans (hb5.mono hb2.size))); have p1 := (HI5.out.below.cell (p := ⟨w.heap.size, 1, none⟩) hs0).trans c1; have pr := HI5.out.c1; have ps := (hb5.cell (p := ⟨wr.heap.size, 1, none⟩) hs2).trans f1; have HB5 := Lib.hid (show rBx.rel w5 _ _ _ from how5.rel (by decide)))) | (go_at_call 62; go_must ((with_reducible refine (BBoth_at w5 HI5.out.ra HB5.out qr.out qo.out).mono ?_); rintro e w6 ⟨z15, rfl, how6, hb6⟩; obtain ⟨A15, l15, rfl⟩ := how6.value; have HI6 := Lib.hid (HI5.out.keepB hb6))) | (at_builtin; go_must (refine wpList_append_new (R := rBx) (x := xb) el_Bxs rfl (.tmp 85) (.tmp 87) rfl rfl HI6.out.own [.slice A15 xb.length l15] rfl rfl (Up (fun _ => False) w5.heap.size) (how6.rel (by decide)) (fun b h _ => HUP.out w5 (hb2.trans (hb5.mono hb2.size)) b h) HBY.out HI6.out.below.size ?_); intro v9 w9 hown9 hb9 hg9 hv9; have HI9 := Lib.hid (HI6.out.push hown9 hb9 hg9 hv9)))
                  go_roundw
                  case rel => exact ⟨j + 1, out2 ++ [xb], by omega, by go_num, HI9, Lib.hid (by rw [HRS.out, HC.out, ← List.append_assoc, ← HO2.out]), Lib.hid (by have := HOL2.out; rw [List.length_append]; simp only [List.length_cons, List.length_nil]; omega)⟩
                  case measure => simp [intOf]; omega
          · have hje : j = k := by omega
            have HT' : Hid (clashTo t all (k + 1) = out2) := Lib.hid (by rw [HT.out, ← HO.out, HO2.out, hje])
            clear hF
            go_wp2
            go_roundw
            case rel => exact ⟨k + 1, out2, by omega, by go_num, HI.out.own, Lib.hid HT'.out.symm, Lib.hid (by have := HOL2.out; omega), HI.out.below⟩
            case measure => simp [intOf]; omega
    · have hke : k = t.rules.length := by omega
      have HQ : Hid (clashB t all = out) := Lib.hid (by rw [HF.out, HO.out, hke])
      have HC := Lib.hid (least_any wr (hown.rel (by decide)))
      obtain ⟨A9, l9, rfl⟩ := hown.value
      clear hF hown
      go_wp2_with (first | (go_at_call 53; go_must ((with_reducible refine HC.out.mono ?_); rintro e w9 ⟨z9, S', rfl, hz9, hb9⟩)))
      go_ret2
      exact ⟨z9, S', by rw [HQ.out]; rfl, by rw [HQ.out]; exact hz9, hbw.trans (hb9.mono hbw.size)⟩

end Go.Proofs.YtlopccnehgolnabGreatDoor

namespace Go.Proofs.YtlopccnehgolnabGreatDoor
open Go.RowKit Rb

/-- What Rest must leave of an input: one box, or none. -/
def leftB (a : Bx) (l : List Bx) (ns : List Int) : Nat := if inBx a ns && !(l.any fun b => goodBx b (a.length : Int) && inBx b ns) then 1 else 0

theorem leftB_nil (a : Bx) (ns : List Int) : leftB a [] ns = if inBx a ns then 1 else 0 := by simp [leftB]
theorem leftB_take {a : Bx} {l : List Bx} {ns : List Int} {k : Nat} {x : Bx} (h : l[k]? = some x) :
    leftB a (l.take (k + 1)) ns = if goodBx x (a.length : Int) && inBx x ns then 0 else leftB a (l.take k) ns := by
  rw [take_getElem? h]
  unfold leftB
  simp only [List.any_append, List.any_cons, List.any_nil, Bool.or_false]
  cases (goodBx x (a.length : Int) && inBx x ns) <;> simp
theorem leftB_le (a : Bx) (l : List Bx) (ns : List Int) : leftB a l ns ≤ 1 := by unfold leftB; split <;> omega

/-- All boxes are good, of n sets. -/
def AllG (n : Nat) (out : List Bx) : Prop := ∀ x ∈ out, Sets x ∧ x.length = n

theorem flat_count {out : List Bx} {b : Bx} {n : Nat} (hn : n ≤ 3) (hg : AllG n out) (hb : goodBx b (n : Int) = true) (ns : List Int) :
    cntIn (out.flatMap (lessB · b)) ns = if inBx b ns then 0 else cntIn out ns := by
  induction out with
  | nil => simp [cntIn_nil]
  | cons x out ih =>
    obtain ⟨h1, h2⟩ := hg x (by simp)
    have hx : goodBx x (x.length : Int) = true := goodBx_of h1 rfl (by omega)
    rw [List.flatMap_cons, cntIn_append, cntIn_cons, ih fun y hy => hg y (by simp [hy]), lessB_count hx (by rw [h2]; exact hb)]
    cases inBx b ns <;> cases inBx x ns <;> simp

theorem flat_sum {out : List Bx} {b : Bx} {n : Nat} (hn : n ≤ 3) (hg : AllG n out) (hb : goodBx b (n : Int) = true) : sumSz (out.flatMap (lessB · b)) ≤ sumSz out := by
  induction out with
  | nil => simp
  | cons x out ih =>
    obtain ⟨h1, h2⟩ := hg x (by simp)
    have hx : goodBx x (x.length : Int) = true := goodBx_of h1 rfl (by omega)
    have h3 := lessB_sum hx (b := b) (by rw [h2]; exact hb)
    have h4 := ih fun y hy => hg y (by simp [hy])
    have h5 := sizeBx_bd (optBx (bothBx x b))
    have e : sumSz (x :: out) = sumSz [x] + sumSz out := by rw [← sumSz_append]; rfl
    have e2 : sumSz [x] = sizeBx x := by simp [sumSz]
    rw [List.flatMap_cons, sumSz_append, e, e2]
    split at h3 <;> omega

theorem flat_good {out : List Bx} {b : Bx} {n : Nat} (hn : n ≤ 3) (hg : AllG n out) (hb : goodBx b (n : Int) = true) : AllG n (out.flatMap (lessB · b)) := by
  intro y hy
  rw [List.mem_flatMap] at hy
  obtain ⟨x, hx, hy⟩ := hy
  obtain ⟨h1, h2⟩ := hg x hx
  have := lessB_good (goodBx_of h1 rfl (by omega)) (by rw [h2]; exact hb) y hy
  exact ⟨this.1, by rw [this.2, h2]⟩

theorem fold_law {n : Nat} (hn : n ≤ 3) (ns : List Int) : ∀ (l : List Bx) (out : List Bx) (c : Bool), AllG n out → cntIn out ns = (if c then 1 else 0) →
    AllG n (l.foldl (restStep n) out) ∧ sumSz (l.foldl (restStep n) out) ≤ sumSz out ∧ cntIn (l.foldl (restStep n) out) ns = if c && !(l.any fun b => goodBx b (n : Int) && inBx b ns) then 1 else 0 := by
  intro l
  induction l with
  | nil => intro out c hg hc; exact ⟨hg, Int.le_refl _, by simpa using hc⟩
  | cons b l ih =>
    intro out c hg hc
    rw [List.foldl_cons]
    cases hb : goodBx b (n : Int)
    · have hs : restStep n out b = out := by unfold restStep; rw [hb]; rfl
      rw [hs]
      have := ih out c hg hc
      simpa [hb] using this
    · have hs : restStep n out b = out.flatMap (lessB · b) := by unfold restStep; rw [hb]; rfl
      rw [hs]
      have h1 := ih (out.flatMap (lessB · b)) (c && !inBx b ns) (flat_good hn hg hb) (by rw [flat_count hn hg hb, hc]; cases c <;> cases inBx b ns <;> simp)
      refine ⟨h1.1, Int.le_trans h1.2.1 (flat_sum hn hg hb), ?_⟩
      rw [h1.2.2]
      simp only [List.any_cons, hb, Bool.true_and]
      cases c <;> cases inBx b ns <;> simp

theorem restB_law {a : Bx} (ha : goodBx a (a.length : Int) = true) (l : List Bx) (ns : List Int) :
    AllG a.length (restB a l) ∧ sumSz (restB a l) ≤ sizeBx a ∧ cntIn (restB a l) ns = leftB a l ns := by
  obtain ⟨h1, _, h3⟩ := goodBx_iff.1 ha
  have hf := fold_law (n := a.length) (by omega) ns l [a] (inBx a ns) (fun x hx => by rw [List.mem_singleton] at hx; rw [hx]; exact ⟨h1, rfl⟩) (by rw [cntIn_cons, cntIn_nil]; rfl)
  have e : restB a l = l.foldl (restStep a.length) [a] := by unfold restB; rw [ha]; rfl
  have e2 : sumSz [a] = sizeBx a := by simp [sumSz]
  rw [e]
  exact ⟨hf.1, by rw [← e2]; exact hf.2.1, hf.2.2⟩

theorem restStep_le (n : Nat) : ∀ (l out : List Bx), (l.foldl (restStep n) out).length ≤ 3 ^ l.length * out.length := by
  intro l
  induction l with
  | nil => intro out; simp
  | cons b l ih =>
    intro out
    rw [List.foldl_cons, List.length_cons, Nat.pow_succ]
    have h1 := ih (restStep n out b)
    have h2 := restStep_len n out b
    calc _ ≤ 3 ^ l.length * (restStep n out b).length := h1
      _ ≤ 3 ^ l.length * (3 * out.length) := Nat.mul_le_mul_left _ h2
      _ = 3 ^ l.length * 3 * out.length := by rw [Nat.mul_assoc]

theorem Rest_at {S T : Nat → Prop} {v u : Value} {a : Bx} {l L : List Bx} (w : World) (hl : rBx.rel w S [v] a) (hm : (rSl rBx).rel w T [u] l) (hl6 : l.length ≤ 6) (h : restB a l = L) :
    Calls Tryz.prog 54 #[v, u] w fun e w' => ∃ z S', e = .returned z ∧ (rSl rBx).rel w' S' [z] L ∧ Below w.heap.size w w' := h ▸ Rest_any w hl hm hl6

theorem Point_at {S : Nat → Prop} {v : Value} {b : Bx} {p : List Int} (w : World) (hl : rBx.rel w S [v] b) (h : pointBx b = p) :
    Calls Tryz.prog 112 #[v] w fun e w' => ∃ z, e = .returned z ∧ Own rInt 3 w' w.heap.size (fun _ => False) z p ∧ Below w.heap.size w w' := h ▸ Point_any w hl

end Go.Proofs.YtlopccnehgolnabGreatDoor
