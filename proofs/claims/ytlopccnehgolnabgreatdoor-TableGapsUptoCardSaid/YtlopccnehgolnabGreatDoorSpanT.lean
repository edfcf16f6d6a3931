
/- The contract of Span of tables. -/
import Derived.Test.YtlopccnehgolnabGreatDoorGrL
import Derived.Handy
namespace Go.Proofs.YtlopccnehgolnabGreatDoor
open Go.RowKit Rb

def spanStep (pol : Int) (i : Nat) (r : Int × Int) (o : Int) : Int × Int :=
  if pol = 6 then (if o < 0 then (r.1 + max o (-1000000), r.2) else (r.1, r.2 + min o 1000000))
  else if i = 0 then (o, o) else (min r.1 o, max r.2 o)
def spanAt (pol : Int) : Nat → List Rl → Int × Int → Int × Int
  | _, [], r => r
  | i, x :: l, r => spanAt pol (i + 1) l (spanStep pol i r x.out)
def spanT (t : Tb) : Int × Int := if t.pol = 7 then (0, t.rules.length) else spanAt t.pol 0 t.rules (0, 0)
theorem spanAt_at {pol : Int} {rs : List Rl} {k : Nat} {x : Rl} {r : Int × Int} (h : rs[k]? = some x) : spanAt pol k (rs.drop k) r = spanAt pol (k + 1) (rs.drop (k + 1)) (spanStep pol k r x.out) := by
  rw [drop_cons h]; rfl

set_option maxRecDepth 100000 in
set_option maxHeartbeats 800000 in
theorem Span_gen {S : Nat → Prop} {cs : List Value} {t : Tb} (w : World) (hl : rTb.rel w S cs t) (hr6 : t.rules.length ≤ 6) (hout : ∀ r ∈ t.rules, -1000000 ≤ r.out ∧ r.out ≤ 1000000) :
    Calls Tryz.prog 159 #[.agg cs.toArray] w fun e w' => e = .returned (.agg #[.int .i64 (spanT t).1, .int .i64 (spanT t).2]) ∧ Below w.heap.size w w' := by
  have HOUT := Lib.hid hout
  obtain ⟨vi, vr, rfl, hnm, hp, hi, hr⟩ := hl
  obtain ⟨A, c, rfl, _⟩ := rSl.elems hi
  obtain ⟨B, d, rfl, hr1, hr2, hr3, hF⟩ := rSl.elems hr
  obtain ⟨W0, e0, hb0, c1, c4, hs0⟩ : ∃ W0, w.alloc (.cells #[.string ⟨t.name.toArray⟩, .int .i64 t.pol, .bool t.comp, .slice A t.ins.length c, .slice B t.rules.length d] 42) = W0 ∧ Below w.heap.size w W0 ∧
      W0.cell? ⟨w.heap.size, 1, none⟩ = some (.int .i64 t.pol) ∧ W0.cell? ⟨w.heap.size, 4, none⟩ = some (.slice B t.rules.length d) ∧ w.heap.size < W0.heap.size :=
    ⟨_, rfl, (Below.refl _ _).alloc (Nat.le_refl _) _, World.cell?_alloc_new _ _ _ _, World.cell?_alloc_new _ _ _ _, by simp⟩
  obtain ⟨W1, e1, hb1, k1, k4, f0, f1, z0, z1, hs1⟩ : ∃ W1, W0.alloc (.cells #[.int .i64 0, .int .i64 0] 123) = W1 ∧ Below W0.heap.size W0 W1 ∧ W1.cell? ⟨w.heap.size, 1, none⟩ = some (.int .i64 t.pol) ∧ W1.cell? ⟨w.heap.size, 4, none⟩ = some (.slice B t.rules.length d) ∧
      W1.cell? ⟨W0.heap.size, 0, none⟩ = some (.int .i64 0) ∧ W1.cell? ⟨W0.heap.size, 1, none⟩ = some (.int .i64 0) ∧ W1.frozen? ⟨W0.heap.size, 0, none⟩ = false ∧ W1.frozen? ⟨W0.heap.size, 1, none⟩ = false ∧ W1.heap.size = W0.heap.size + 1 :=
    ⟨_, rfl, (Below.refl _ _).alloc (Nat.le_refl _) _, (World.cell?_alloc_lt _ _ _ hs0).trans c1, (World.cell?_alloc_lt _ _ _ hs0).trans c4, World.cell?_alloc_new _ _ _ _, World.cell?_alloc_new _ _ _ _, by simp, by simp, by simp⟩
  clear hi hr hr3 hnm hp hout
  by_cases h7 : t.pol = 7
  · have hq7 : (t.pol == 7) = true := by rw [beq_iff_eq]; exact h7
    have HS : Hid (spanT t = (0, (t.rules.length : Int))) := Lib.hid (by unfold spanT; rw [if_pos h7])
    clear h7
    obtain ⟨W2, e2, hb2, g0, g1⟩ : ∃ W2, (W1.setCell ⟨W0.heap.size, 0, none⟩ (.int .i64 0)).setCell ⟨W0.heap.size, 1, none⟩ (.int .i64 t.rules.length) = W2 ∧ Below W0.heap.size W0 W2 ∧ W2.cell? ⟨W0.heap.size, 0, none⟩ = some (.int .i64 0) ∧ W2.cell? ⟨W0.heap.size, 1, none⟩ = some (.int .i64 t.rules.length) :=
      ⟨_, rfl, (hb1.setCell (Nat.le_refl _) _).setCell (Nat.le_refl _) _, (World.cell?_setCell_other _ _ _ _ (by simp)).trans (World.cell?_setCell_same _ _ _ f0), World.cell?_setCell_same _ _ _ ((World.cell?_setCell_other _ _ _ _ (by simp)).trans f1)⟩
    go_enter Tryz.func159, Tryz.ntmps159
    go_wp2
    refine bodyPost_ret (by simp [results, Tryz.results159, go_sem, g0, g1]; rfl) rfl ?_
    exact ⟨by rw [HS.out], hb0.trans (hb2.mono hb0.size)⟩
  have hq7 : (t.pol == 7) = false := by rw [beq_eq_false_iff_ne]; exact h7
  have HS0 : Hid (spanT t = spanAt t.pol 0 (t.rules.drop 0) (0, 0)) := Lib.hid (by unfold spanT; rw [if_neg h7]; rfl)
  clear h7
  obtain ⟨W2, e2, hb2, m1, m4, g0, g1, y0, y1, hs2⟩ : ∃ W2, W1.alloc (.cells #[.int .i64 0, .int .i64 0] 123) = W2 ∧ Below W1.heap.size W1 W2 ∧ W2.cell? ⟨w.heap.size, 1, none⟩ = some (.int .i64 t.pol) ∧ W2.cell? ⟨w.heap.size, 4, none⟩ = some (.slice B t.rules.length d) ∧
      W2.cell? ⟨W1.heap.size, 0, none⟩ = some (.int .i64 0) ∧ W2.cell? ⟨W1.heap.size, 1, none⟩ = some (.int .i64 0) ∧ W2.frozen? ⟨W1.heap.size, 0, none⟩ = false ∧ W2.frozen? ⟨W1.heap.size, 1, none⟩ = false ∧ W1.heap.size < W2.heap.size :=
    ⟨_, rfl, (Below.refl _ _).alloc (Nat.le_refl _) _, (World.cell?_alloc_lt _ _ _ (by show w.heap.size < _; omega)).trans k1, (World.cell?_alloc_lt _ _ _ (by show w.heap.size < _; omega)).trans k4, World.cell?_alloc_new _ _ _ _, World.cell?_alloc_new _ _ _ _, by simp, by simp, by simp⟩
  have hw1 : w.heap.size < W1.heap.size := by omega
  have hq2 : W0.heap.size < W1.heap.size := by omega
  clear hs1
  go_enter Tryz.func159, Tryz.ntmps159
  go_wp2
  clear e0 e1 e2 m1 m4
  have hbw1 := hb0.trans (hb1.mono hb0.size)
  generalize hq3 : W1.heap.size = q3 at *
  have HQ3 := Lib.hid hq3
  clear hq3
  go_loopw [16] (fun i wr => ∃ (k : Nat) (r0 r1 : Int), k ≤ t.rules.length ∧ i = .int .i64 k ∧ wr.cell? ⟨q3, 0, none⟩ = some (.int .i64 r0) ∧ wr.cell? ⟨q3, 1, none⟩ = some (.int .i64 r1) ∧ wr.frozen? ⟨q3, 0, none⟩ = false ∧ wr.frozen? ⟨q3, 1, none⟩ = false ∧ q3 < wr.heap.size ∧
      Hid (spanT t = spanAt t.pol k (t.rules.drop k) (r0, r1)) ∧ (-(1000000 * (k : Int)) ≤ r0 ∧ r0 ≤ 1000000 * (k : Int)) ∧ (-(1000000 * (k : Int)) ≤ r1 ∧ r1 ≤ 1000000 * (k : Int)) ∧ Hid (Below q3 W1 wr)) (fun i _ => t.rules.length - (intOf i).toNat)
  case atStart => exact ⟨0, 0, 0, Nat.zero_le _, rfl, g0, g1, y0, y1, hs2, HS0, by omega, by omega, Lib.hid hb2⟩
  case round =>
    clear g0 g1 y0 y1 hs2 HS0 hb2
    obtain ⟨k, r0, r1, hk, rfl, d0, d1, z2, z3, hs2, HI, hr0, hr1, HB⟩ := hrel
    have n1 := (HB.out.cell (p := ⟨w.heap.size, 1, none⟩) hw1).trans k1
    have hbwr := hbw1.trans (HB.out.mono (Nat.le_of_lt hw1))
    by_cases hlt : k < t.rules.length
    · obtain ⟨bA, off, x, q, rfl, _, hbA, hx, hri, hq, h1, h2⟩ := hF.rl hlt
      rw [← hbwr.cell (p := ⟨bA, _, none⟩) hbA] at h1 h2
      have hik : (k : Int) < (t.rules.length : Int) := by omega
      have HT := Lib.hid (HI.out.trans (spanAt_at hx))
      have hxo := HOUT.out x (List.mem_of_getElem? hx)
      obtain ⟨A2, l2, rfl, _⟩ := rSl.elems hq
      obtain ⟨W3, e3, HB3, c30, c31, d30, d31, p0, p1, n31, hs3⟩ : ∃ W3, wr.alloc (.cells #[.slice A2 x.cells.length l2, .int .i64 x.out] 93) = W3 ∧ Hid (Below q3 W1 W3) ∧ W3.cell? ⟨wr.heap.size, 0, none⟩ = some (.slice A2 x.cells.length l2) ∧ W3.cell? ⟨wr.heap.size, 1, none⟩ = some (.int .i64 x.out) ∧
          W3.cell? ⟨q3, 0, none⟩ = some (.int .i64 r0) ∧ W3.cell? ⟨q3, 1, none⟩ = some (.int .i64 r1) ∧ W3.frozen? ⟨q3, 0, none⟩ = false ∧ W3.frozen? ⟨q3, 1, none⟩ = false ∧ W3.cell? ⟨w.heap.size, 1, none⟩ = some (.int .i64 t.pol) ∧ q3 < W3.heap.size :=
        ⟨_, rfl, Lib.hid (HB.out.alloc (by omega) _), World.cell?_alloc_new _ _ _ _, World.cell?_alloc_new _ _ _ _, (World.cell?_alloc_lt _ _ _ hs2).trans d0, (World.cell?_alloc_lt _ _ _ hs2).trans d1, (World.frozen?_of_block (w := wr) (Below.heap_alloc wr _ _ hs2)).trans z2, (World.frozen?_of_block (w := wr) (Below.heap_alloc wr _ _ hs2)).trans z3, (World.cell?_alloc_lt _ _ _ (by show w.heap.size < _; omega)).trans n1, by simp; omega⟩
      clear hx hq d0 d1 z2 z3 n1 HB hbwr
      have hne : q3 ≠ wr.heap.size := by omega
      have HWS : Hid (∀ (o : Nat) (v : Value), Below q3 W1 (W3.setCell ⟨q3, o, none⟩ v)) := Lib.hid fun o v => HB3.out.setCell (Nat.le_refl _) _
      have HWS2 : Hid (∀ (o o' : Nat) (v v' : Value), Below q3 W1 ((W3.setCell ⟨q3, o, none⟩ v).setCell ⟨q3, o', none⟩ v')) := Lib.hid fun o o' v v' => (HWS.out o v).setCell (Nat.le_refl _) _
      have hk6 : (k : Int) ≤ 6 := by omega
      by_cases h6 : t.pol = 6
      · have hq6 : (t.pol == 6) = true := by rw [beq_iff_eq]; exact h6
        have HST : Hid (spanStep t.pol k (r0, r1) x.out = if x.out < 0 then (r0 + max x.out (-1000000), r1) else (r0, r1 + min x.out 1000000)) := Lib.hid (by unfold spanStep; rw [if_pos h6])
        clear h6
        by_cases hx0 : x.out < 0
        · have HN : Hid (spanT t = spanAt t.pol (k + 1) (t.rules.drop (k + 1)) (r0 + max x.out (-1000000), r1)) := Lib.hid (by rw [HT.out, HST.out, if_pos hx0])
          have hmm : max x.out (-1000000) = x.out := by omega
          have hwr : IntKind.i64.wrap (r0 + x.out) = r0 + x.out := IntWalk.i64_in _ (by omega)
          rw [hmm] at HN
          clear hmm
          obtain ⟨W4, e4, HB4, g0, g1, y0, y1, hs4⟩ : ∃ W4, W3.setCell ⟨q3, 0, none⟩ (.int .i64 (r0 + x.out)) = W4 ∧ Hid (Below q3 W1 W4) ∧ W4.cell? ⟨q3, 0, none⟩ = some (.int .i64 (r0 + x.out)) ∧ W4.cell? ⟨q3, 1, none⟩ = some (.int .i64 r1) ∧ W4.frozen? ⟨q3, 0, none⟩ = false ∧ W4.frozen? ⟨q3, 1, none⟩ = false ∧ q3 < W4.heap.size :=
            ⟨_, rfl, Lib.hid (HWS.out _ _), World.cell?_setCell_same _ _ _ d30, (World.cell?_setCell_other _ _ _ _ (by simp)).trans d31, (World.frozen?_setCell _ _ _ _).trans p0, (World.frozen?_setCell _ _ _ _).trans p1, by simpa [World.setCell] using hs3⟩
          go_wp2
          go_roundw
          case rel => exact ⟨k + 1, r0 + x.out, r1, by omega, by go_num, g0, g1, y0, y1, hs4, HN, by omega, by omega, HB4⟩
          case measure => simp [intOf]; omega
        · have HN : Hid (spanT t = spanAt t.pol (k + 1) (t.rules.drop (k + 1)) (r0, r1 + min x.out 1000000)) := Lib.hid (by rw [HT.out, HST.out, if_neg hx0])
          have hmm : min x.out 1000000 = x.out := by omega
          have hwr : IntKind.i64.wrap (r1 + x.out) = r1 + x.out := IntWalk.i64_in _ (by omega)
          rw [hmm] at HN
          clear hmm
          obtain ⟨W4, e4, HB4, g0, g1, y0, y1, hs4⟩ : ∃ W4, W3.setCell ⟨q3, 1, none⟩ (.int .i64 (r1 + x.out)) = W4 ∧ Hid (Below q3 W1 W4) ∧ W4.cell? ⟨q3, 0, none⟩ = some (.int .i64 r0) ∧ W4.cell? ⟨q3, 1, none⟩ = some (.int .i64 (r1 + x.out)) ∧ W4.frozen? ⟨q3, 0, none⟩ = false ∧ W4.frozen? ⟨q3, 1, none⟩ = false ∧ q3 < W4.heap.size :=
            ⟨_, rfl, Lib.hid (HWS.out _ _), (World.cell?_setCell_other _ _ _ _ (by simp)).trans d30, World.cell?_setCell_same _ _ _ d31, (World.frozen?_setCell _ _ _ _).trans p0, (World.frozen?_setCell _ _ _ _).trans p1, by simpa [World.setCell] using hs3⟩
          go_wp2
          go_roundw
          case rel => exact ⟨k + 1, r0, r1 + x.out, by omega, by go_num, g0, g1, y0, y1, hs4, HN, by omega, by omega, HB4⟩
          case measure => simp [intOf]; omega
      · have hq6 : (t.pol == 6) = false := by rw [beq_eq_false_iff_ne]; exact h6
        have HST : Hid (spanStep t.pol k (r0, r1) x.out = if k = 0 then (x.out, x.out) else (min r0 x.out, max r1 x.out)) := Lib.hid (by unfold spanStep; rw [if_neg h6])
        clear h6
        rcases Nat.eq_zero_or_pos k with hk0 | hk0
        · have HN : Hid (spanT t = spanAt t.pol (k + 1) (t.rules.drop (k + 1)) (x.out, x.out)) := Lib.hid (by rw [HT.out, HST.out, if_pos hk0])
          have hqk : ((k : Int) == 0) = true := by rw [beq_iff_eq]; omega
          have hb01 : -(1000000 * ((k + 1 : Nat) : Int)) ≤ x.out ∧ x.out ≤ 1000000 * ((k + 1 : Nat) : Int) := by omega
          clear hk0
          obtain ⟨W4, e4, HB4, g0, g1, y0, y1, hs4⟩ : ∃ W4, (W3.setCell ⟨q3, 0, none⟩ (.int .i64 x.out)).setCell ⟨q3, 1, none⟩ (.int .i64 x.out) = W4 ∧ Hid (Below q3 W1 W4) ∧ W4.cell? ⟨q3, 0, none⟩ = some (.int .i64 x.out) ∧ W4.cell? ⟨q3, 1, none⟩ = some (.int .i64 x.out) ∧ W4.frozen? ⟨q3, 0, none⟩ = false ∧ W4.frozen? ⟨q3, 1, none⟩ = false ∧ q3 < W4.heap.size :=
            ⟨_, rfl, Lib.hid (HWS2.out _ _ _ _), (World.cell?_setCell_other _ _ _ _ (by simp)).trans (World.cell?_setCell_same _ _ _ d30), World.cell?_setCell_same _ _ _ ((World.cell?_setCell_other _ _ _ _ (by simp)).trans d31), (World.frozen?_setCell _ _ _ _).trans ((World.frozen?_setCell _ _ _ _).trans p0), (World.frozen?_setCell _ _ _ _).trans ((World.frozen?_setCell _ _ _ _).trans p1), by simpa [World.setCell] using hs3⟩
          go_wp2
          go_roundw
          case rel => exact ⟨k + 1, x.out, x.out, by omega, by go_num, g0, g1, y0, y1, hs4, HN, hb01, hb01, HB4⟩
          case measure => simp [intOf]; omega
        · have HN : Hid (spanT t = spanAt t.pol (k + 1) (t.rules.drop (k + 1)) (min r0 x.out, max r1 x.out)) := Lib.hid (by rw [HT.out, HST.out, if_neg (by omega)])
          have hqk : ((k : Int) == 0) = false := by rw [beq_eq_false_iff_ne]; omega
          have hmm : min r0 x.out = (if x.out < r0 then x.out else r0) := by split <;> omega
          have hmx : max r1 x.out = (if r1 < x.out then x.out else r1) := by split <;> omega
          have hmb : -(1000000 * ((k + 1 : Nat) : Int)) ≤ (if x.out < r0 then x.out else r0) ∧ (if x.out < r0 then x.out else r0) ≤ 1000000 * ((k + 1 : Nat) : Int) := by split <;> omega
          have hmb2 : -(1000000 * ((k + 1 : Nat) : Int)) ≤ (if r1 < x.out then x.out else r1) ∧ (if r1 < x.out then x.out else r1) ≤ 1000000 * ((k + 1 : Nat) : Int) := by split <;> omega
          rw [hmm, hmx] at HN
          clear hk0 hmm hmx
          obtain ⟨W4, e4, HB4, g0, g1, y0, y1, hs4⟩ : ∃ W4, (W3.setCell ⟨q3, 0, none⟩ (.int .i64 (if x.out < r0 then x.out else r0))).setCell ⟨q3, 1, none⟩ (.int .i64 (if r1 < x.out then x.out else r1)) = W4 ∧ Hid (Below q3 W1 W4) ∧ W4.cell? ⟨q3, 0, none⟩ = some (.int .i64 (if x.out < r0 then x.out else r0)) ∧ W4.cell? ⟨q3, 1, none⟩ = some (.int .i64 (if r1 < x.out then x.out else r1)) ∧ W4.frozen? ⟨q3, 0, none⟩ = false ∧ W4.frozen? ⟨q3, 1, none⟩ = false ∧ q3 < W4.heap.size :=
            ⟨_, rfl, Lib.hid (HWS2.out _ _ _ _), (World.cell?_setCell_other _ _ _ _ (by simp)).trans (World.cell?_setCell_same _ _ _ d30), World.cell?_setCell_same _ _ _ ((World.cell?_setCell_other _ _ _ _ (by simp)).trans d31), (World.frozen?_setCell _ _ _ _).trans ((World.frozen?_setCell _ _ _ _).trans p0), (World.frozen?_setCell _ _ _ _).trans ((World.frozen?_setCell _ _ _ _).trans p1), by simpa [World.setCell] using hs3⟩
          go_wp2
          go_roundw
          case rel => exact ⟨k + 1, _, _, by omega, by go_num, g0, g1, y0, y1, hs4, HN, hmb, hmb2, HB4⟩
          case measure => simp [intOf]; omega
    · have HQ : Hid (spanT t = (r0, r1)) := Lib.hid (by rw [HI.out, List.drop_eq_nil_of_le (by omega)]; rfl)
      have b0 := (HB.out.cell (p := ⟨W0.heap.size, 0, none⟩) hq2).trans f0
      have b1 := (HB.out.cell (p := ⟨W0.heap.size, 1, none⟩) hq2).trans f1
      have y0 : wr.frozen? ⟨W0.heap.size, 0, none⟩ = false := (HB.out.frozen (p := ⟨W0.heap.size, 0, none⟩) hq2).trans z0
      have y1 : wr.frozen? ⟨W0.heap.size, 1, none⟩ = false := (HB.out.frozen (p := ⟨W0.heap.size, 1, none⟩) hq2).trans z1
      obtain ⟨W4, e4, hb4, g0, g1⟩ : ∃ W4, (wr.setCell ⟨W0.heap.size, 0, none⟩ (.int .i64 r0)).setCell ⟨W0.heap.size, 1, none⟩ (.int .i64 r1) = W4 ∧ Below w.heap.size w W4 ∧ W4.cell? ⟨W0.heap.size, 0, none⟩ = some (.int .i64 r0) ∧ W4.cell? ⟨W0.heap.size, 1, none⟩ = some (.int .i64 r1) :=
        ⟨_, rfl, (hbwr.setCell hb0.size _).setCell hb0.size _, (World.cell?_setCell_other _ _ _ _ (by simp)).trans (World.cell?_setCell_same _ _ _ b0), World.cell?_setCell_same _ _ _ ((World.cell?_setCell_other _ _ _ _ (by simp)).trans b1)⟩
      go_wp2
      refine bodyPost_ret (by simp [results, Tryz.results159, go_sem, g0, g1]; rfl) rfl ?_
      exact ⟨by rw [HQ.out], hb4⟩

theorem Span_any {S : Nat → Prop} {cs : List Value} {t : Tb} (w : World) (hl : rTb.rel w S cs t) (hg : goodT t = true) :
    Calls Tryz.prog 159 #[.agg cs.toArray] w fun e w' => e = .returned (.agg #[.int .i64 (spanT t).1, .int .i64 (spanT t).2]) ∧ Below w.heap.size w w' :=
  Span_gen w hl (goodT_head hg).2.2.2.2.2 fun _ hr => goodT_out hg hr

end Go.Proofs.YtlopccnehgolnabGreatDoor
