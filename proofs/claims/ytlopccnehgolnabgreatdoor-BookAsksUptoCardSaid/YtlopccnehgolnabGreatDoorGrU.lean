/- The contract of the reference's CopyTable: a table of the callee's own memory. The contract of the reference's CopyBook: a book of the callee's own memory. -/
import Derived.Test.YtlopccnehgolnabGreatDoorGrG
import Derived.Test.YtlopccnehgolnabGreatDoorSpanD
import Derived.BigRegion
import Derived.Deep.RegionLaw
import Derived.BigQuiet
import Derived.Test.YtlopccnehgolnabGreatDoorGrA
import Derived.Deep.RegionHeld3
import Derived.Deep.DeepMust
namespace Go.Proofs.YtlopccnehgolnabGreatDoor
open Go.RowKit Rb

theorem el_Strs : ElemOf Tryz.prog rStr 39 9 := .mk' Tryz.underlying39 (z := .string ⟨#[]⟩) (k := 1) (b := 16) (by kernel_rfl) rfl rfl rfl (by decide) (by decide)
theorem el_Rl : ElemOf Tryz.prog rRl 40 93 := .mk' Tryz.underlying40 (z := .agg #[.slice none 0 0, .int .i64 0]) (k := 2) (b := 32) (by kernel_rfl) rfl rfl rfl (by decide) (by decide)
theorem el_Cl : ElemOf Tryz.prog rCl 91 97 := .mk' Tryz.underlying91 (z := .agg #[.bool false, .slice none 0 0]) (k := 2) (b := 32) (by kernel_rfl) rfl rfl rfl (by decide) (by decide)

/-- A row of the call's own, under a store into an elder block. -/
theorem Own.setLow {α : Type} {R : Rd α} {e : TypeId} {w : World} {base : Nat} {v : Value} {xs : List α} (h : Own R e w base (fun _ => False) v xs) {a : Addr} (ha : a.block < base) (u : Value) : Own R e (w.setCell a u) base (fun _ => False) v xs := by
  have hlt := h.lt
  obtain ⟨S, h1, h2⟩ := h
  refine ⟨S, h1.kept (grown_setCell w a u) ?_ ?_, h2⟩
  · cases hv : v.ownBlock with
    | none => exact .inl rfl
    | some g =>
      refine .inr fun e => ?_
      injection e with e
      have := (hlt g hv).1
      omega
  · intro g hg hS
    injection hg with hg
    rcases h2 g hS with h | h
    · exact h
    · omega

structure CopyI (w : World) (q1 q2 B0 : Nat) (v3 : Value) (t : Tb) (wr : World) : Prop where
  c0 : wr.cell? ⟨q1, 0, none⟩ = some (.string ⟨t.name.toArray⟩)
  c1 : wr.cell? ⟨q1, 1, none⟩ = some (.int .i64 t.pol)
  c2 : wr.cell? ⟨q1, 2, none⟩ = some (.bool t.comp)
  c3 : wr.cell? ⟨q1, 3, none⟩ = some v3
  z4 : wr.frozen? ⟨q1, 4, none⟩ = false
  f0 : wr.cell? ⟨q2, 0, none⟩ = some (.string ⟨#[]⟩)
  f1 : wr.cell? ⟨q2, 1, none⟩ = some (.int .i64 0)
  f2 : wr.cell? ⟨q2, 2, none⟩ = some (.bool false)
  f3 : wr.cell? ⟨q2, 3, none⟩ = some (.slice none 0 0)
  f4 : wr.cell? ⟨q2, 4, none⟩ = some (.slice none 0 0)
  y : ∀ i, wr.frozen? ⟨q2, i, none⟩ = false
  hin : (rSl rStr).rel wr (fun b => q2 < b ∧ b < B0) [v3] t.ins
  bel : Below w.heap.size w wr
  hB : B0 ≤ wr.heap.size
  hq : w.heap.size ≤ q1 ∧ q1 < q2 ∧ q2 < B0

theorem CopyI.step {w : World} {q1 q2 B0 : Nat} {v3 : Value} {t : Tb} {wr wr' : World} (h : CopyI w q1 q2 B0 v3 t wr) (hb : Below B0 wr wr') : CopyI w q1 q2 B0 v3 t wr' := by
  have h1 : q1 < B0 := by have := h.hq; omega
  have h2 : q2 < B0 := h.hq.2.2
  exact ⟨(hb.cell (p := ⟨q1, 0, none⟩) h1).trans h.c0, (hb.cell (p := ⟨q1, 1, none⟩) h1).trans h.c1, (hb.cell (p := ⟨q1, 2, none⟩) h1).trans h.c2, (hb.cell (p := ⟨q1, 3, none⟩) h1).trans h.c3, (hb.frozen (p := ⟨q1, 4, none⟩) h1).trans h.z4,
    (hb.cell (p := ⟨q2, 0, none⟩) h2).trans h.f0, (hb.cell (p := ⟨q2, 1, none⟩) h2).trans h.f1, (hb.cell (p := ⟨q2, 2, none⟩) h2).trans h.f2, (hb.cell (p := ⟨q2, 3, none⟩) h2).trans h.f3, (hb.cell (p := ⟨q2, 4, none⟩) h2).trans h.f4, fun i => (hb.frozen (p := ⟨q2, i, none⟩) h2).trans (h.y i),
    (rSl rStr).keep h.hin (.of_belowB hb fun b hb' => hb'.2), h.bel.trans (hb.mono (by have := h.hq; omega)), Nat.le_trans h.hB hb.size, h.hq⟩

theorem CopyI.set {w : World} {q1 q2 B0 : Nat} {v3 : Value} {t : Tb} {wr : World} (h : CopyI w q1 q2 B0 v3 t wr) (u : Value) : CopyI w q1 q2 B0 v3 t (wr.setCell ⟨q1, 4, none⟩ u) := by
  have hq := h.hq
  have hne : ¬ (q1 = q2) := by omega
  refine ⟨?_, ?_, ?_, ?_, ?_, ?_, ?_, ?_, ?_, ?_, ?_, ?_, ?_, ?_, h.hq⟩
  · exact (World.cell?_setCell_other _ _ _ _ (by simp)).trans h.c0
  · exact (World.cell?_setCell_other _ _ _ _ (by simp)).trans h.c1
  · exact (World.cell?_setCell_other _ _ _ _ (by simp)).trans h.c2
  · exact (World.cell?_setCell_other _ _ _ _ (by simp)).trans h.c3
  · rw [World.frozen?_setCell]; exact h.z4
  · exact (World.cell?_setCell_other _ _ _ _ (by simp)).trans h.f0
  · exact (World.cell?_setCell_other _ _ _ _ (by simp)).trans h.f1
  · exact (World.cell?_setCell_other _ _ _ _ (by simp)).trans h.f2
  · exact (World.cell?_setCell_other _ _ _ _ (by simp)).trans h.f3
  · exact (World.cell?_setCell_other _ _ _ _ (by simp)).trans h.f4
  · intro i; rw [World.frozen?_setCell]; exact h.y i
  · exact (rSl rStr).keep h.hin (.setCell (by simp; omega) _)
  · exact h.bel.setCell hq.1 _
  · simpa using h.hB

theorem fresh_elems {α : Type} {R : Rd α} {e : TypeId} {w : World} {S0 : Nat → Prop} {x : α} (hk : 0 < R.k) (cs : List Value) (hrel : R.rel w S0 cs x) (hb : R.bytes ≤ 140737488355328) : Elems R (w.alloc (.cells cs.toArray e)) (Up S0 w.heap.size) (some ⟨w.heap.size, 0, none⟩) [x] :=
  ((Own.fresh (R := R) (e := e) (x := x) (S0 := S0) hk cs hrel hb rfl).elems hk rfl).2

theorem CopyI.start {w W1 w3 : World} {q2 c d : Nat} {A B : Option Addr} {v3 : Value} {t : Tb}
    (a0 : W1.cell? ⟨w.heap.size, 0, none⟩ = some (.string ⟨t.name.toArray⟩)) (a1 : W1.cell? ⟨w.heap.size, 1, none⟩ = some (.int .i64 t.pol)) (a2 : W1.cell? ⟨w.heap.size, 2, none⟩ = some (.bool t.comp)) (a3 : W1.cell? ⟨w.heap.size, 3, none⟩ = some (.slice A t.ins.length c)) (a4 : W1.cell? ⟨w.heap.size, 4, none⟩ = some (.slice B t.rules.length d))
    (f0 : W1.cell? ⟨q2, 0, none⟩ = some (.string ⟨#[]⟩)) (f1 : W1.cell? ⟨q2, 1, none⟩ = some (.int .i64 0)) (f2 : W1.cell? ⟨q2, 2, none⟩ = some (.bool false)) (f3 : W1.cell? ⟨q2, 3, none⟩ = some (.slice none 0 0)) (f4 : W1.cell? ⟨q2, 4, none⟩ = some (.slice none 0 0))
    (z : ∀ i, W1.frozen? ⟨w.heap.size, i, none⟩ = false) (y : ∀ i, W1.frozen? ⟨q2, i, none⟩ = false) (hq : w.heap.size < q2 ∧ q2 + 1 = W1.heap.size) (hbw : Below w.heap.size w W1) (hb3 : Below W1.heap.size W1 w3) (hown : Own rStr 9 w3 W1.heap.size (fun _ => False) v3 t.ins) :
    CopyI w w.heap.size q2 w3.heap.size v3 t (w3.setCell ⟨w.heap.size, 3, none⟩ v3) ∧ w3.frozen? ⟨w.heap.size, 3, none⟩ = false ∧ (w3.setCell ⟨w.heap.size, 3, none⟩ v3).cell? ⟨w.heap.size, 4, none⟩ = some (.slice B t.rules.length d) ∧ w3.cell? ⟨w.heap.size, 3, none⟩ = some (.slice A t.ins.length c) := by
  have h1 : w.heap.size < W1.heap.size := by omega
  have h2 : q2 < W1.heap.size := by omega
  have o : ∀ i, i ≠ 3 → (w3.setCell ⟨w.heap.size, 3, none⟩ v3).cell? ⟨w.heap.size, i, none⟩ = W1.cell? ⟨w.heap.size, i, none⟩ := fun i hi => (World.cell?_setCell_other _ _ _ _ (by simp <;> omega)).trans (hb3.cell (p := ⟨w.heap.size, i, none⟩) h1)
  have o2 : ∀ i, (w3.setCell ⟨w.heap.size, 3, none⟩ v3).cell? ⟨q2, i, none⟩ = W1.cell? ⟨q2, i, none⟩ := fun i => (World.cell?_setCell_other _ _ _ _ (by simp <;> omega)).trans (hb3.cell (p := ⟨q2, i, none⟩) h2)
  have hz : ∀ i, w3.frozen? ⟨w.heap.size, i, none⟩ = false := fun i => (hb3.frozen (p := ⟨w.heap.size, i, none⟩) h1).trans (z i)
  refine ⟨⟨(o 0 (by decide)).trans a0, (o 1 (by decide)).trans a1, (o 2 (by decide)).trans a2, World.cell?_setCell_same _ _ _ ((hb3.cell (p := ⟨w.heap.size, 3, none⟩) h1).trans a3), ?_, (o2 0).trans f0, (o2 1).trans f1, (o2 2).trans f2, (o2 3).trans f3, (o2 4).trans f4, fun i => ?_, ?_, ?_, by simp, by have := hb3.size; exact ⟨Nat.le_refl _, hq.1, by omega⟩⟩, hz 3, (o 4 (by decide)).trans a4, (hb3.cell (p := ⟨w.heap.size, 3, none⟩) h1).trans a3⟩
  · rw [World.frozen?_setCell]; exact hz 4
  · rw [World.frozen?_setCell]; exact (hb3.frozen (p := ⟨q2, i, none⟩) h2).trans (y i)
  · refine (rSl rStr).keep ((rSl rStr).mono (hown.rel (by decide)) fun b hb hlt => ⟨?_, hlt⟩) (.setCell (by simp; omega) _)
    rcases hb with hb | hb
    · exact hb.elim
    · omega
  · exact (hbw.trans (hb3.mono (Nat.le_of_lt h1))).setCell (Nat.le_refl _) _

/-- Five cells are stored over. -/
theorem store5T {w : World} {q : Nat} {u0 u1 u2 u3 u4 : Value} (v0 v1 v2 v3 v4 : Value) (h0 : w.cell? ⟨q, 0, none⟩ = some u0) (h1 : w.cell? ⟨q, 1, none⟩ = some u1) (h2 : w.cell? ⟨q, 2, none⟩ = some u2) (h3 : w.cell? ⟨q, 3, none⟩ = some u3) (h4 : w.cell? ⟨q, 4, none⟩ = some u4) :
    ∃ W, ((((w.setCell ⟨q, 0, none⟩ v0).setCell ⟨q, 1, none⟩ v1).setCell ⟨q, 2, none⟩ v2).setCell ⟨q, 3, none⟩ v3).setCell ⟨q, 4, none⟩ v4 = W ∧ (∀ B, B ≤ q → ∀ w0, Below B w0 w → Below B w0 W) ∧ (∀ S : Nat → Prop, ¬ S q → Keeps S w W) ∧ W.cell? ⟨q, 0, none⟩ = some v0 ∧ W.cell? ⟨q, 1, none⟩ = some v1 ∧ W.cell? ⟨q, 2, none⟩ = some v2 ∧ W.cell? ⟨q, 3, none⟩ = some v3 ∧ W.cell? ⟨q, 4, none⟩ = some v4 := by
  have o : ∀ (w : World) (i j : Nat) (v : Value), i ≠ j → (w.setCell ⟨q, i, none⟩ v).cell? ⟨q, j, none⟩ = w.cell? ⟨q, j, none⟩ := fun w i j v h => World.cell?_setCell_other _ _ _ _ (by simp <;> omega)
  refine ⟨_, rfl, fun B hB w0 hb => ((((hb.setCell hB _).setCell hB _).setCell hB _).setCell hB _).setCell hB _, fun S hS => ((((Keeps.setCell hS _).trans (Keeps.setCell hS _)).trans (Keeps.setCell hS _)).trans (Keeps.setCell hS _)).trans (Keeps.setCell hS _), ?_, ?_, ?_, ?_, ?_⟩
  · rw [o _ 4 0 _ (by decide), o _ 3 0 _ (by decide), o _ 2 0 _ (by decide), o _ 1 0 _ (by decide)]
    exact World.cell?_setCell_same _ _ _ (h0)
  · rw [o _ 4 1 _ (by decide), o _ 3 1 _ (by decide), o _ 2 1 _ (by decide)]
    exact World.cell?_setCell_same _ _ _ ((o _ 0 1 _ (by decide)).trans h1)
  · rw [o _ 4 2 _ (by decide), o _ 3 2 _ (by decide)]
    exact World.cell?_setCell_same _ _ _ ((o _ 1 2 _ (by decide)).trans ((o _ 0 2 _ (by decide)).trans h2))
  · rw [o _ 4 3 _ (by decide)]
    exact World.cell?_setCell_same _ _ _ ((o _ 2 3 _ (by decide)).trans ((o _ 1 3 _ (by decide)).trans ((o _ 0 3 _ (by decide)).trans h3)))
  · exact World.cell?_setCell_same _ _ _ ((o _ 3 4 _ (by decide)).trans ((o _ 2 4 _ (by decide)).trans ((o _ 1 4 _ (by decide)).trans ((o _ 0 4 _ (by decide)).trans h4))))

set_option maxRecDepth 100000 in
set_option maxHeartbeats 1600000 in
theorem CopyTable_any {S : Nat → Prop} {cs : List Value} {t : Tb} (w : World) (hl : rTb.rel w S cs t) :
    Calls Tryz.prog 17 #[.agg cs.toArray] w fun e w' => ∃ v u, e = .returned (.agg #[.string ⟨t.name.toArray⟩, .int .i64 t.pol, .bool t.comp, v, u]) ∧ rTb.rel w' (Up (fun _ => False) w.heap.size) [.string ⟨t.name.toArray⟩, .int .i64 t.pol, .bool t.comp, v, u] t ∧ Below w.heap.size w w' := by
  obtain ⟨vi, vr, rfl, hnm, hp, hi, hr⟩ := hl
  obtain ⟨A, c, rfl, hi1, hi2, hi3, hE⟩ := rSl.elems hi
  obtain ⟨B, d, rfl, hr1, hr2, hr3, hF⟩ := rSl.elems hr
  have HI3 := Lib.hid hi3
  have hr5 : t.rules.length ≤ 4398046511104 := by simp only [rRl] at hr3; omega
  obtain ⟨W1, e1, hb1, a0, a1, a2, a3, a4, f0, f1, f2, f3, f4, z1, y1, hs1, hs0⟩ : ∃ W1, (w.alloc (.cells #[.string ⟨t.name.toArray⟩, .int .i64 t.pol, .bool t.comp, .slice A t.ins.length c, .slice B t.rules.length d] 42)).alloc (.cells #[.string ⟨#[]⟩, .int .i64 0, .bool false, .slice none 0 0, .slice none 0 0] 42) = W1 ∧ Below w.heap.size w W1 ∧
      W1.cell? ⟨w.heap.size, 0, none⟩ = some (.string ⟨t.name.toArray⟩) ∧ W1.cell? ⟨w.heap.size, 1, none⟩ = some (.int .i64 t.pol) ∧ W1.cell? ⟨w.heap.size, 2, none⟩ = some (.bool t.comp) ∧ W1.cell? ⟨w.heap.size, 3, none⟩ = some (.slice A t.ins.length c) ∧ W1.cell? ⟨w.heap.size, 4, none⟩ = some (.slice B t.rules.length d) ∧
      W1.cell? ⟨w.heap.size + 1, 0, none⟩ = some (.string ⟨#[]⟩) ∧ W1.cell? ⟨w.heap.size + 1, 1, none⟩ = some (.int .i64 0) ∧ W1.cell? ⟨w.heap.size + 1, 2, none⟩ = some (.bool false) ∧ W1.cell? ⟨w.heap.size + 1, 3, none⟩ = some (.slice none 0 0) ∧ W1.cell? ⟨w.heap.size + 1, 4, none⟩ = some (.slice none 0 0) ∧
      (∀ i, W1.frozen? ⟨w.heap.size, i, none⟩ = false) ∧ (∀ i, W1.frozen? ⟨w.heap.size + 1, i, none⟩ = false) ∧ W1.heap.size = w.heap.size + 2 ∧ w.heap.size < W1.heap.size := by
    have e : (w.alloc (.cells #[.string ⟨t.name.toArray⟩, .int .i64 t.pol, .bool t.comp, .slice A t.ins.length c, .slice B t.rules.length d] 42)).heap.size = w.heap.size + 1 := by simp
    refine ⟨_, rfl, ((Below.refl _ _).alloc (Nat.le_refl _) _).alloc (by simp) _, (World.cell?_alloc_lt _ _ _ (by simp)).trans (World.cell?_alloc_new _ _ _ _), (World.cell?_alloc_lt _ _ _ (by simp)).trans (World.cell?_alloc_new _ _ _ _), (World.cell?_alloc_lt _ _ _ (by simp)).trans (World.cell?_alloc_new _ _ _ _), (World.cell?_alloc_lt _ _ _ (by simp)).trans (World.cell?_alloc_new _ _ _ _), (World.cell?_alloc_lt _ _ _ (by simp)).trans (World.cell?_alloc_new _ _ _ _), ?_, ?_, ?_, ?_, ?_, ?_, ?_, by simp, by simp; omega⟩
    · rw [← e]; exact World.cell?_alloc_new _ _ _ _
    · rw [← e]; exact World.cell?_alloc_new _ _ _ _
    · rw [← e]; exact World.cell?_alloc_new _ _ _ _
    · rw [← e]; exact World.cell?_alloc_new _ _ _ _
    · rw [← e]; exact World.cell?_alloc_new _ _ _ _
    · intro i; simp
    · intro i; rw [← e]; simp
  have HE1 := Lib.hid (hE.keep (Keeps.of_below hb1))
  have HB1 := Lib.hid hb1
  have HQ : Hid (w.heap.size < w.heap.size + 1 ∧ w.heap.size + 1 + 1 = W1.heap.size) := Lib.hid ⟨by omega, by omega⟩
  have HST := Lib.hid fun (v3 : Value) (w3 : World) => CopyI.start (w3 := w3) (v3 := v3) a0 a1 a2 a3 a4 f0 f1 f2 f3 f4 z1 y1 HQ.out hb1
  clear hi hr hE hb1 z1 y1 hs1 hi3 hr3 f0 f1 f2 f3 f4 a0 a1 a2 a4
  go_enter Tryz.func17, Tryz.ntmps17
  go_wp2_with (first | (at_builtin; go_must (refine wpList_append_many (R := rStr) (v := .slice none 0 0) (S0 := fun _ => False) el_Strs rfl (.const (.slice none 0 0)) (.tmp 10) rfl rfl (Own.nil rStr 9 W1 W1.heap.size (fun _ => False)) rfl (ys := t.ins) (S2 := S) (fun _ => False) rfl HE1.out (fun _ _ h => h) (fun _ h => h.elim) (by simpa using HI3.out) (Nat.le_refl _) ?_); intro v3 w3 hown3 hb3 _ _; replace hown3 : Own rStr 9 w3 W1.heap.size (fun _ => False) v3 t.ins := hown3; obtain ⟨A3, l3, rfl⟩ := hown3.value; obtain ⟨hci, z3, g4, j3⟩ := HST.out _ w3 hb3 hown3; obtain ⟨W5, e5, HCI, c4⟩ : ∃ W5, (w3.setCell ⟨w.heap.size, 3, none⟩ (.slice A3 t.ins.length l3)).setCell ⟨w.heap.size, 4, none⟩ (.slice none 0 0) = W5 ∧ Hid (CopyI w w.heap.size (w.heap.size + 1) w3.heap.size (.slice A3 t.ins.length l3) t W5) ∧ W5.cell? ⟨w.heap.size, 4, none⟩ = some (.slice none 0 0) := ⟨_, rfl, Lib.hid (hci.set _), World.cell?_setCell_same _ _ _ g4⟩; have z4 := hci.z4; have HH5 : Hid (W5.heap.size = w3.heap.size) := Lib.hid (by rw [← e5]; simp); clear hci hown3 hb3))
  clear e5 g4 j3 z3 z4 e1 HST a3
  generalize hB0 : w3.heap.size = B0 at *
  have HB0 : Hid (B0 ≤ W5.heap.size) := Lib.hid (by rw [HH5.out]; exact Nat.le_refl _)
  clear hB0 HH5
  have HF := Lib.hid hF
  clear hF
  go_loopw [18] (fun i wr => ∃ (k : Nat) (u : Value), k ≤ t.rules.length ∧ i = .int .i64 k ∧ wr.cell? ⟨w.heap.size, 4, none⟩ = some u ∧ Hid (Own rRl 93 wr B0 (fun _ => False) u (t.rules.take k)) ∧ Hid (CopyI w w.heap.size (w.heap.size + 1) B0 (.slice A3 t.ins.length l3) t wr)) (fun i _ => t.rules.length - (intOf i).toNat)
  case atStart => exact ⟨0, _, Nat.zero_le _, rfl, c4, Lib.hid (by rw [List.take_zero]; exact Own.nil _ _ _ _ _), HCI⟩
  case round =>
    clear HCI c4
    obtain ⟨k, u, hk, rfl, hu, HOW, HCI⟩ := hrel
    by_cases hlt : k < t.rules.length
    · obtain ⟨bB, off, r, q, rfl, _, hbB, hx, hri, hq, h1, h2⟩ := HF.out.rl hlt
      have hbw := HCI.out.bel
      rw [← hbw.cell (p := ⟨bB, _, none⟩) hbB] at h1 h2
      have hq' := Rd.below hq hbw
      obtain ⟨A2, c2, rfl, _, _, hl2, hE2⟩ := rSl.elems hq'
      have hik : (k : Int) < (t.rules.length : Int) := by omega
      have hl2' : r.cells.length ≤ 4398046511104 := by simp only [rCl] at hl2; omega
      have HX := Lib.hid hx
      have HRI := Lib.hid hri
      have hqz : w.heap.size < wr.heap.size := World.block_lt_of_cell? _ _ hu
      obtain ⟨W6, e6, HB6, HE6, d0, d1, hs6, hu6⟩ : ∃ W6, wr.alloc (.cells #[.slice A2 r.cells.length c2, .int .i64 r.out] 93) = W6 ∧ Hid (Below wr.heap.size wr W6) ∧
          Hid (Elems rCl W6 S A2 r.cells) ∧ W6.cell? ⟨wr.heap.size, 0, none⟩ = some (.slice A2 r.cells.length c2) ∧ W6.cell? ⟨wr.heap.size, 1, none⟩ = some (.int .i64 r.out) ∧ wr.heap.size < W6.heap.size ∧ W6.cell? ⟨w.heap.size, 4, none⟩ = some u :=
        ⟨_, rfl, Lib.hid ((Below.refl _ _).alloc (Nat.le_refl _) _), Lib.hid (hE2.keep (.alloc _)), World.cell?_alloc_new _ _ _ _, World.cell?_alloc_new _ _ _ _, by simp, (World.cell?_alloc_lt _ _ _ hqz).trans hu⟩
      have HU := Lib.hid hu
      clear hx hq hq' hE2 hl2 hbw hri hu
      go_wp2
      clear e6 h1 h2 d0
      obtain ⟨wo, hwo⟩ : ∃ x, x = wr := ⟨_, rfl⟩
      subst hwo
      go_loopw [6, 25] (fun o i wr => ∃ j : Nat, j ≤ r.cells.length ∧ i = .int .i64 j ∧ Hid (Own rCl 97 wr W6.heap.size (fun _ => False) o (r.cells.take j)) ∧ Hid (Below W6.heap.size W6 wr)) (fun _ i _ => r.cells.length - (intOf i).toNat)
      case atStart => exact ⟨0, Nat.zero_le _, rfl, Lib.hid (by rw [List.take_zero]; exact Own.nil _ _ _ _ _), Lib.hid (Below.refl _ _)⟩
      case round =>
        obtain ⟨j, hj, rfl, HOC, HBi⟩ := hrel
        by_cases hlj : j < r.cells.length
        · obtain ⟨b1, off1, cl, q1, rfl, _, hb2, hx1, hq1, g1, g2⟩ := HE6.out.cl hlj
          rw [← HBi.out.cell (p := ⟨b1, _, none⟩) hb2] at g1 g2
          have hj1 : (j : Int) < (r.cells.length : Int) := by omega
          have hq2 := Rd.below hq1 HBi.out
          obtain ⟨A5, c5, rfl, _, _, hl5, _⟩ := rSl.elems hq1
          have hl5' : cl.rs.length ≤ 8796093022208 := by simp only [rRg] at hl5; omega
          have HX1 := Lib.hid hx1
          obtain ⟨W7, e7, HB7, HR7, k0, k1, HO7⟩ : ∃ W7, wr.alloc (.cells #[.bool cl.no, .slice A5 cl.rs.length c5] 97) = W7 ∧ Hid (Below wr.heap.size wr W7) ∧ Hid ((rSl rRg).rel W7 S [.slice A5 cl.rs.length c5] cl.rs) ∧
              W7.cell? ⟨wr.heap.size, 0, none⟩ = some (.bool cl.no) ∧ W7.cell? ⟨wr.heap.size, 1, none⟩ = some (.slice A5 cl.rs.length c5) ∧ Hid (Own rCl 97 W7 W6.heap.size (fun _ => False) u6 (r.cells.take j)) :=
            ⟨_, rfl, Lib.hid ((Below.refl _ _).alloc (Nat.le_refl _) _), Lib.hid (Rd.alloc hq2 _), World.cell?_alloc_new _ _ _ _, World.cell?_alloc_new _ _ _ _, Lib.hid (HOC.out.alloc _)⟩
          clear hl5 hx1 hq1 hq2
          go_wp2
          clear e7 g1 g2
          have HRE : Hid (Elems rRg W7.drew S A5 cl.rs) := Lib.hid (by
            obtain ⟨_, _, hh, _, _, _, hEE⟩ := rSl.elems (Rd.drew HR7.out)
            injection hh with h1 h2 h3
            subst h1
            exact hEE)
          have HBY : Hid ((([] : List Rg).length + cl.rs.length) * rRg.bytes ≤ 140737488355328) := Lib.hid (by simp only [rRg, List.length_nil]; omega)
          have HO7d := Lib.hid HO7.out.drew
          have HLT : Hid (∀ g, u6.ownBlock = some g → g < wr.heap.size) := Lib.hid fun g hg => (HOC.out.lt g hg).2
          have HSZ : Hid (W6.heap.size ≤ wr.heap.size ∧ wr.heap.size < W7.heap.size) := Lib.hid ⟨HBi.out.size, World.block_lt_of_cell? _ _ k0⟩
          have HS1 : Hid (∀ n, W7.heap.size ≤ n → ∀ b, Up (Up (fun _ => False) W7.heap.size) n b → Up (fun _ => False) W6.heap.size b ∧ u6.ownBlock ≠ some b) := Lib.hid fun n hn b hb => by
            have h1 : W7.heap.size ≤ b := by
              rcases hb with (h | h) | h
              · exact h.elim
              · exact h
              · omega
            have h2 := HSZ.out
            exact ⟨.inr (by omega), fun e => by have := HLT.out b e; omega⟩
          have HBC : Hid (((r.cells.take j).length + ([cl] : List Cl).length) * rCl.bytes ≤ 140737488355328) := Lib.hid (by
            have : (r.cells.take j).length ≤ j := List.length_take_le _ _
            simp only [rCl, List.length_singleton]; omega)
          go_region_held3 (fun w' => w'.cell? ⟨wr.heap.size, 0, none⟩ = some (.bool cl.no) ∧ w'.cell? ⟨wr.heap.size, 1, none⟩ = some (.slice A5 cl.rs.length c5)) (go_keep) (first | ((refine step_append_many (R := rRg) (v := .slice none 0 0) (S0 := fun _ => False) el_Rg rfl (.const (.slice none 0 0)) (.tmp 33) rfl rfl (by exact Own.nil rRg 123 W7.drew W7.heap.size (fun _ => False)) rfl (ys := cl.rs) (S2 := S) (fun _ => False) rfl (by exact HRE.out) (fun _ _ h => h) (fun _ h => h.elim) (by exact HBY.out) (by exact Nat.le_refl _) ?_; intro v8 w8 hown8 hb8 _ _; replace hown8 : Own rRg 123 w8 W7.heap.size (fun _ => False) v8 cl.rs := hown8; obtain ⟨A8, l8, rfl⟩ := hown8.value; have HR8 := Lib.hid (hown8.rel (by decide)); have HO8 := Lib.hid (HO7d.out.below hb8); have HB8 := Lib.hid hb8; have HS8 : Hid (W7.heap.size ≤ w8.heap.size) := Lib.hid hb8.size; have g1 := (hb8.cell (p := ⟨wr.heap.size, 0, none⟩) HSZ.out.2).trans k0; have g2 := (hb8.cell (p := ⟨wr.heap.size, 1, none⟩) HSZ.out.2).trans k1; clear hown8 hb8)) | ((refine step_append_many (R := rCl) el_Cl rfl (.tmp 29) (.tmp 36) rfl rfl (by exact HO8.out.alloc _) rfl (ys := [cl]) (S2 := Up (Up (fun _ => False) W7.heap.size) w8.heap.size) (Up (Up (fun _ => False) W7.heap.size) w8.heap.size) rfl (by exact fresh_elems (by decide) [.bool cl.no, .slice A8 cl.rs.length l8] ⟨_, rfl, HR8.out⟩ (by decide)) (fun _ _ h => h) (by exact fun b h _ => HS1.out _ HS8.out b h) (by exact HBC.out) (by (have := HS8.out; have := HSZ.out; simp; omega)) ?_; intro v9 w9 hown9 hb9 hg9 _; have HG9 : Hid (∀ o, w9.cell? ⟨wr.heap.size, o, none⟩ = w8.cell? ⟨wr.heap.size, o, none⟩) := Lib.hid fun o => (grown_cell hg9 (q := wr.heap.size) (by (have := HS8.out; have := HSZ.out; simp; omega)) (fun e => Nat.lt_irrefl _ (HLT.out _ e)) o).1.trans (World.cell?_alloc_lt _ _ _ (Nat.lt_of_lt_of_le HSZ.out.2 HS8.out)); have g3 := (HG9.out 0).trans g1; have g4 := (HG9.out 1).trans g2; have HO9 := Lib.hid hown9; have HB9 := Lib.hid hb9; clear hown9 hb9 hg9)))
          go_wp2
          go_roundw
          case rel => exact ⟨j + 1, by omega, by go_num, Lib.hid (by rw [List.take_add_one, HX1.out]; exact HO9.out), Lib.hid (((drewN_below (HBi.out.trans (HB7.out.mono HSZ.out.1)) 1).trans (HB8.out.mono (Nat.le_of_lt (Nat.lt_of_le_of_lt HSZ.out.1 HSZ.out.2)))).trans (((Below.refl _ _).alloc (by have := HS8.out; have := HSZ.out; omega) _).trans HB9.out))⟩
          case measure => simp [intOf]; omega
        · have HOCf : Hid (Own rCl 97 wr W6.heap.size (fun _ => False) u6 r.cells) := Lib.hid (by have := HOC.out; rwa [List.take_of_length_le (by omega)] at this)
          obtain ⟨A9, l9, rfl⟩ := HOCf.out.value
          have HB6w : Hid (Below wo.heap.size wo wr) := Lib.hid (HB6.out.trans (HBi.out.mono HB6.out.size))
          have HOU := Lib.hid (HOW.out.below HB6w.out)
          have j1 := (HBi.out.cell (p := ⟨wo.heap.size, 1, none⟩) hs6).trans d1
          have j4 := (HB6w.out.cell (p := ⟨w.heap.size, 4, none⟩) hqz).trans HU.out
          have HCIr := Lib.hid (HCI.out.step (HB6w.out.mono HCI.out.hB))
          have HREL : Hid (rRl.rel wr (Up (fun _ => False) W6.heap.size) [.slice A9 r.cells.length l9, .int .i64 r.out] r) := Lib.hid ⟨_, rfl, HRI.out, HOCf.out.rel (by decide)⟩
          have hpl : (t.rules.take k).length ≤ k := List.length_take_le _ _
          generalize hpre : t.rules.take k = pre at *
          have HPRE := Lib.hid hpre
          clear hpre
          have HOCLT : Hid (∀ b, Up (fun _ => False) W6.heap.size b → b < wr.heap.size → Up (fun _ => False) B0 b ∧ u.ownBlock ≠ some b) := Lib.hid fun b hb _ => by
            have h1 : W6.heap.size ≤ b := hb.elim (fun h => h.elim) id
            have h2 := HCI.out.hB
            exact ⟨.inr (by omega), fun e => by have := (HOW.out.lt b e).2; omega⟩
          have HBY : Hid ((pre.length + 1) * rRl.bytes ≤ 140737488355328) := Lib.hid (by simp only [rRl]; omega)
          have HSB : Hid (B0 ≤ wr.heap.size) := Lib.hid HCIr.out.hB
          have HQB : Hid (w.heap.size < B0) := Lib.hid (by have := HCI.out.hq; omega)
          obtain ⟨Au, lu, rfl⟩ := HOU.out.value
          clear hqz
          go_wp2_with (first | (at_builtin; go_must (refine wpList_append_new (R := rRl) (x := r) el_Rl rfl (.tmp 40) (.tmp 45) rfl rfl HOU.out [.slice A9 r.cells.length l9, .int .i64 r.out] rfl rfl (Up (fun _ => False) W6.heap.size) HREL.out (by exact HOCLT.out) HBY.out HSB.out ?_); intro v7 w7 hown7 hb7 _ _; obtain ⟨A7, l7, rfl⟩ : ∃ A7 l7, v7 = .slice A7 (pre.length + 1) l7 := (by (obtain ⟨A7, l7, h⟩ := hown7.value; exact ⟨A7, l7, by rw [h, List.length_append, List.length_singleton]⟩)); have HCI7 := Lib.hid (HCIr.out.step hb7); have z4 := HCI7.out.z4; have j7 := (hb7.cell (p := ⟨w.heap.size, 4, none⟩) HQB.out).trans j4; have HO7 := Lib.hid hown7; clear hb7 hown7))
          go_roundw
          case rel => exact ⟨k + 1, _, by omega, by go_num, World.cell?_setCell_same _ _ _ j7, Lib.hid (by rw [List.take_add_one, HX.out, HPRE.out]; exact Own.setLow HO7.out (a := ⟨w.heap.size, 4, none⟩) HQB.out _), Lib.hid (HCI7.out.set _)⟩
          case measure => simp [intOf]; omega
    · have HOUf : Hid (Own rRl 93 wr B0 (fun _ => False) u t.rules) := Lib.hid (by have := HOW.out; rwa [List.take_of_length_le (by omega)] at this)
      obtain ⟨Au, lu, rfl⟩ := HOUf.out.value
      obtain ⟨c0, c1, c2, c3, _, f0, f1, f2, f3, f4, hy, hin, bel, hB, hqq⟩ := HCI.out
      obtain ⟨W8, e8, hB8, hK8, n0, n1, n2, n3, n4⟩ := store5T (.string ⟨t.name.toArray⟩) (.int .i64 t.pol) (.bool t.comp) (.slice A3 t.ins.length l3) (.slice Au t.rules.length lu) f0 f1 f2 f3 f4
      have y0 := hy 0
      have y1 := hy 1
      have y2 := hy 2
      have y3 := hy 3
      have y4 := hy 4
      have HB8 := Lib.hid (hB8 w.heap.size (Nat.le_succ _) w bel)
      have HR8 : Hid (rTb.rel W8 (Up (fun _ => False) w.heap.size) [.string ⟨t.name.toArray⟩, .int .i64 t.pol, .bool t.comp, .slice A3 t.ins.length l3, .slice Au t.rules.length lu] t) := Lib.hid ⟨_, _, rfl, hnm, hp,
        (rSl rStr).mono ((rSl rStr).keep hin (hK8 _ (by omega))) (fun b hb _ => .inr (by omega)),
        (rSl rRl).mono ((rSl rRl).keep (HOUf.out.rel (by decide)) (hK8 _ (fun h => h.elim (fun h => h) fun h => by omega))) (fun b hb _ => hb.elim (fun h => h.elim) fun h => .inr (by omega))⟩
      clear hy hin bel hB hqq hB8 hK8 HF HOW
      go_wp2
      refine bodyPost_ret (by simp [results, Tryz.results17, go_sem, n0, n1, n2, n3, n4]; rfl) rfl ?_
      exact ⟨_, _, rfl, HR8.out, HB8.out⟩

end Go.Proofs.YtlopccnehgolnabGreatDoor

namespace Go.Proofs.YtlopccnehgolnabGreatDoor
open Go.RowKit Rb

theorem el_Dm : ElemOf Tryz.prog rDm 30 44 := .mk' Tryz.underlying30 (z := .agg #[.string ⟨#[]⟩, .int .i64 0, .int .i64 0]) (k := 3) (b := 32) (by kernel_rfl) rfl rfl rfl (by decide) (by decide)
theorem el_Tb : ElemOf Tryz.prog rTb 31 42 := .mk' Tryz.underlying31 (z := .agg #[.string ⟨#[]⟩, .int .i64 0, .bool false, .slice none 0 0, .slice none 0 0]) (k := 5) (b := 80) (by kernel_rfl) rfl rfl rfl (by decide) (by decide)

/-- The state of the copying loop: the box of the new book q3, the result's box q2. -/
structure CpB (w : World) (q2 q3 B0 : Nat) (v0 : Value) (b : Bk) (wr : World) : Prop where
  c0 : wr.cell? ⟨q3, 0, none⟩ = some v0
  z1 : wr.frozen? ⟨q3, 1, none⟩ = false
  f0 : wr.cell? ⟨q2, 0, none⟩ = some (.slice none 0 0)
  f1 : wr.cell? ⟨q2, 1, none⟩ = some (.slice none 0 0)
  y : ∀ i, wr.frozen? ⟨q2, i, none⟩ = false
  hin : (rSl rDm).rel wr (fun b => q2 < b ∧ b < q3) [v0] b.doms
  bel : Below w.heap.size w wr
  hB : B0 ≤ wr.heap.size
  hq : w.heap.size < q2 ∧ q2 < q3 ∧ q3 < B0

theorem CpB.step {w : World} {q2 q3 B0 : Nat} {v0 : Value} {b : Bk} {wr wr' : World} (h : CpB w q2 q3 B0 v0 b wr) (hb : Below B0 wr wr') : CpB w q2 q3 B0 v0 b wr' := by
  obtain ⟨h0, h1, h2⟩ := h.hq
  have h3 : q2 < B0 := by omega
  exact ⟨(hb.cell (p := ⟨q3, 0, none⟩) h2).trans h.c0, (hb.frozen (p := ⟨q3, 1, none⟩) h2).trans h.z1, (hb.cell (p := ⟨q2, 0, none⟩) h3).trans h.f0, (hb.cell (p := ⟨q2, 1, none⟩) h3).trans h.f1, fun i => (hb.frozen (p := ⟨q2, i, none⟩) h3).trans (h.y i),
    (rSl rDm).keep h.hin (.of_belowB hb fun b hb' => Nat.lt_trans hb'.2 h2), h.bel.trans (hb.mono (by omega)), Nat.le_trans h.hB hb.size, h.hq⟩

theorem CpB.set {w : World} {q2 q3 B0 : Nat} {v0 : Value} {b : Bk} {wr : World} (h : CpB w q2 q3 B0 v0 b wr) (u : Value) : CpB w q2 q3 B0 v0 b (wr.setCell ⟨q3, 1, none⟩ u) := by
  obtain ⟨h0, h1, h2⟩ := h.hq
  have hne : ¬ (q3 = q2) := by omega
  refine ⟨?_, ?_, ?_, ?_, ?_, ?_, ?_, ?_, h.hq⟩
  · exact (World.cell?_setCell_other _ _ _ _ (by simp)).trans h.c0
  · rw [World.frozen?_setCell]; exact h.z1
  · exact (World.cell?_setCell_other _ _ _ _ (by simp)).trans h.f0
  · exact (World.cell?_setCell_other _ _ _ _ (by simp)).trans h.f1
  · intro i; rw [World.frozen?_setCell]; exact h.y i
  · exact (rSl rDm).keep h.hin (.setCell (by simp) _)
  · exact h.bel.setCell (by show w.heap.size ≤ q3; omega) _
  · simpa using h.hB

/-- Two cells are stored over. -/
theorem store2B {w : World} {q : Nat} {u0 u1 : Value} (v0 v1 : Value) (h0 : w.cell? ⟨q, 0, none⟩ = some u0) (h1 : w.cell? ⟨q, 1, none⟩ = some u1) :
    ∃ W, (w.setCell ⟨q, 0, none⟩ v0).setCell ⟨q, 1, none⟩ v1 = W ∧ (∀ B, B ≤ q → ∀ w0, Below B w0 w → Below B w0 W) ∧ (∀ S : Nat → Prop, ¬ S q → Keeps S w W) ∧ W.cell? ⟨q, 0, none⟩ = some v0 ∧ W.cell? ⟨q, 1, none⟩ = some v1 := by
  have o : ∀ (w : World) (i j : Nat) (v : Value), i ≠ j → (w.setCell ⟨q, i, none⟩ v).cell? ⟨q, j, none⟩ = w.cell? ⟨q, j, none⟩ := fun w i j v h => World.cell?_setCell_other _ _ _ _ (by simp <;> omega)
  refine ⟨_, rfl, fun B hB w0 hb => (hb.setCell hB _).setCell hB _, fun S hS => (Keeps.setCell (p := ⟨q, 0, none⟩) hS v0).trans (Keeps.setCell (p := ⟨q, 1, none⟩) hS v1), ?_, ?_⟩
  · rw [o _ 1 0 _ (by decide)]
    exact World.cell?_setCell_same _ _ _ h0
  · exact World.cell?_setCell_same _ _ _ ((o _ 0 1 _ (by decide)).trans h1)

theorem CpB.start {w W1 w3 W5 : World} {v0 : Value} {b : Bk} {ty : TypeId}
    (f0 : W1.cell? ⟨w.heap.size + 1, 0, none⟩ = some (.slice none 0 0)) (f1 : W1.cell? ⟨w.heap.size + 1, 1, none⟩ = some (.slice none 0 0)) (y : ∀ i, W1.frozen? ⟨w.heap.size + 1, i, none⟩ = false) (hs : W1.heap.size = w.heap.size + 2) (hbw : Below w.heap.size w W1)
    (hb3 : Below W1.heap.size W1 w3) (hown : Own rDm 44 w3 W1.heap.size (fun _ => False) v0 b.doms) (e5 : w3.alloc (.cells #[v0, .slice none 0 0] ty) = W5) :
    CpB w (w.heap.size + 1) w3.heap.size W5.heap.size v0 b W5 ∧ W5.cell? ⟨w3.heap.size, 1, none⟩ = some (.slice none 0 0) := by
  subst e5
  have hs3 : w.heap.size + 1 < w3.heap.size := by have := hb3.size; omega
  have hq : w.heap.size + 1 < W1.heap.size := by omega
  have hb5 : Below W1.heap.size W1 (w3.alloc (.cells #[v0, .slice none 0 0] ty)) := hb3.alloc hb3.size _
  refine ⟨⟨World.cell?_alloc_new _ _ _ _, by simp, (hb5.cell (p := ⟨w.heap.size + 1, 0, none⟩) hq).trans f0, (hb5.cell (p := ⟨w.heap.size + 1, 1, none⟩) hq).trans f1, fun i => (hb5.frozen (p := ⟨w.heap.size + 1, i, none⟩) hq).trans (y i), ?_, hbw.trans (hb5.mono (by omega)), Nat.le_refl _, by omega, hs3, by simp⟩, World.cell?_alloc_new _ _ _ _⟩
  exact Rd.alloc ((rSl rDm).mono (hown.rel (by decide)) fun g hg hlt => ⟨by rcases hg with hg | hg; exact hg.elim; omega, hlt⟩) _

set_option maxRecDepth 100000 in
set_option maxHeartbeats 3200000 in
theorem CopyBook_any {S : Nat → Prop} {cs : List Value} {b : Bk} (w : World) (hl : rBk.rel w S cs b) :
    Calls Tryz.prog 27 #[.agg cs.toArray] w fun e w' => ∃ v u, e = .returned (.agg #[v, u]) ∧ rBk.rel w' (Up (fun _ => False) w.heap.size) [v, u] b ∧ Below w.heap.size w w' := by
  obtain ⟨vd, vt, rfl, hi, hr⟩ := hl
  obtain ⟨A, c, rfl, hi1, hi2, hi3, hE⟩ := rSl.elems hi
  obtain ⟨B, d, rfl, hr1, hr2, hr3, hF⟩ := rSl.elems hr
  have HI3 := Lib.hid hi3
  have hr5 : b.tabs.length ≤ 1759218604441 := by simp only [rTb] at hr3; omega
  obtain ⟨W1, e1, hb1, hs1, a0', f0', z1, y1⟩ := alloc2_cells w #[.slice A b.doms.length c, .slice B b.tabs.length d] #[.slice none 0 0, .slice none 0 0] 33 33
  have a0 : W1.cell? ⟨w.heap.size, 0, none⟩ = some (.slice A b.doms.length c) := a0' 0
  have a1 : W1.cell? ⟨w.heap.size, 1, none⟩ = some (.slice B b.tabs.length d) := a0' 1
  have f0 : W1.cell? ⟨w.heap.size + 1, 0, none⟩ = some (.slice none 0 0) := f0' 0
  have f1 : W1.cell? ⟨w.heap.size + 1, 1, none⟩ = some (.slice none 0 0) := f0' 1
  have hs0 : w.heap.size < W1.heap.size := by omega
  have HE1 := Lib.hid (hE.keep (Keeps.of_below hb1))
  have HB1 := Lib.hid hb1
  have HST := Lib.hid fun (v0 : Value) (w3 W5 : World) (ty : TypeId) => CpB.start (b := b) (w3 := w3) (v0 := v0) (W5 := W5) (ty := ty) f0 f1 y1 hs1 hb1
  have HS0 := Lib.hid hs0
  have HA1 := Lib.hid a1
  have HF := Lib.hid hF
  clear hi hr hE hb1 z1 y1 hs1 hi3 hr3 f0 f1 a0' f0' hF a1 hs0
  go_enter Tryz.func27, Tryz.ntmps27
  go_wp2_with (first | (at_builtin; go_must (refine wpList_append_many (R := rDm) (v := .slice none 0 0) (S0 := fun _ => False) el_Dm rfl (.const (.slice none 0 0)) (.tmp 7) rfl rfl (Own.nil rDm 44 W1 W1.heap.size (fun _ => False)) rfl (ys := b.doms) (S2 := S) (fun _ => False) rfl HE1.out (fun _ _ h => h) (fun _ h => h.elim) (by simpa using HI3.out) (Nat.le_refl _) ?_); intro v3 w3 hown3 hb3 _ _; replace hown3 : Own rDm 44 w3 W1.heap.size (fun _ => False) v3 b.doms := hown3; obtain ⟨A3, l3, rfl⟩ := hown3.value; obtain ⟨W5, e5, z5, k5, W6, e6, HCI, c4, d1, HH6⟩ : ∃ W5, w3.alloc (.cells #[.slice A3 b.doms.length l3, .slice none 0 0] 33) = W5 ∧ W5.frozen? ⟨w3.heap.size, 1, none⟩ = false ∧ W5.cell? ⟨w3.heap.size, 1, none⟩ = some (.slice none 0 0) ∧ ∃ W6, W5.setCell ⟨w3.heap.size, 1, none⟩ (.slice none 0 0) = W6 ∧ Hid (CpB w (w.heap.size + 1) w3.heap.size W5.heap.size (.slice A3 b.doms.length l3) b W6) ∧ W6.cell? ⟨w3.heap.size, 1, none⟩ = some (.slice none 0 0) ∧ W6.cell? ⟨w.heap.size, 1, none⟩ = some (.slice B b.tabs.length d) ∧ Hid (W6.heap.size = W5.heap.size ∧ w3.heap.size < W5.heap.size ∧ w.heap.size < w3.heap.size) := ⟨_, rfl, by simp, (HST.out _ w3 _ _ hb3 hown3 rfl).2, _, rfl, Lib.hid ((HST.out _ w3 _ _ hb3 hown3 rfl).1.set _), World.cell?_setCell_same _ _ _ (HST.out _ w3 _ _ hb3 hown3 rfl).2, (World.cell?_setCell_other _ _ _ _ (by (simp; have := hb3.size; have := HS0.out; omega))).trans (((hb3.alloc hb3.size _).cell (p := ⟨w.heap.size, 1, none⟩) HS0.out).trans HA1.out), Lib.hid ⟨by simp, by simp, Nat.lt_of_lt_of_le HS0.out hb3.size⟩⟩; clear hown3 hb3))
  clear e5 e6 z5 k5 d1 e1 a0 HST
  generalize hq3 : w3.heap.size = q3 at *
  generalize hB0 : W5.heap.size = B0 at *
  have HQ3 : Hid (q3 < B0 ∧ w.heap.size < q3) := Lib.hid HH6.out.2
  clear hq3 hB0 HH6
  go_loopw [13] (fun i wr => ∃ (k : Nat) (u : Value), k ≤ b.tabs.length ∧ i = .int .i64 k ∧ wr.cell? ⟨q3, 1, none⟩ = some u ∧ Hid (Own rTb 42 wr B0 (fun _ => False) u (b.tabs.take k)) ∧ Hid (CpB w (w.heap.size + 1) q3 B0 (.slice A3 b.doms.length l3) b wr)) (fun i _ => b.tabs.length - (intOf i).toNat)
  case atStart => exact ⟨0, _, Nat.zero_le _, rfl, c4, Lib.hid (by rw [List.take_zero]; exact Own.nil _ _ _ _ _), HCI⟩
  case round =>
    clear HCI c4
    obtain ⟨k, u, hk, rfl, hu, HOW, HCI⟩ := hrel
    by_cases hlt : k < b.tabs.length
    · obtain ⟨bB, off, x, A1, ca, A2, cb, rfl, hbB, hx, hr, g0, g1, g2, g3, g4⟩ := HF.out.tb hlt
      have hbw := HCI.out.bel
      rw [← hbw.cell (p := ⟨bB, _, none⟩) hbB] at g0 g1 g2 g3 g4
      have hik : (k : Int) < (b.tabs.length : Int) := by omega
      have HX := Lib.hid hx
      have hqz : q3 < wr.heap.size := World.block_lt_of_cell? _ _ hu
      obtain ⟨W7, e7, HB7, HR7, d0, d1, d2, d3, d4, hs7, hu7⟩ : ∃ W7, wr.alloc (.cells #[.string ⟨x.name.toArray⟩, .int .i64 x.pol, .bool x.comp, .slice A1 x.ins.length ca, .slice A2 x.rules.length cb] 42) = W7 ∧ Hid (Below wr.heap.size wr W7) ∧
          Hid (rTb.rel W7 S [.string ⟨x.name.toArray⟩, .int .i64 x.pol, .bool x.comp, .slice A1 x.ins.length ca, .slice A2 x.rules.length cb] x) ∧ W7.cell? ⟨wr.heap.size, 0, none⟩ = some (.string ⟨x.name.toArray⟩) ∧ W7.cell? ⟨wr.heap.size, 1, none⟩ = some (.int .i64 x.pol) ∧ W7.cell? ⟨wr.heap.size, 2, none⟩ = some (.bool x.comp) ∧ W7.cell? ⟨wr.heap.size, 3, none⟩ = some (.slice A1 x.ins.length ca) ∧ W7.cell? ⟨wr.heap.size, 4, none⟩ = some (.slice A2 x.rules.length cb) ∧ wr.heap.size < W7.heap.size ∧ W7.cell? ⟨q3, 1, none⟩ = some u :=
        ⟨_, rfl, Lib.hid ((Below.refl _ _).alloc (Nat.le_refl _) _), Lib.hid (Rd.alloc (Rd.below hr hbw) _), World.cell?_alloc_new _ _ _ _, World.cell?_alloc_new _ _ _ _, World.cell?_alloc_new _ _ _ _, World.cell?_alloc_new _ _ _ _, World.cell?_alloc_new _ _ _ _, by simp, (World.cell?_alloc_lt _ _ _ hqz).trans hu⟩
      have HS7 := Lib.hid hs7
      have HU7 := Lib.hid hu7
      have HQZ := Lib.hid hqz
      have HO7 : Hid (Own rTb 42 W7.drew B0 (fun _ => False) u (b.tabs.take k)) := Lib.hid (by rw [← e7]; exact (HOW.out.alloc _).drew)
      have HLT : Hid (∀ g, u.ownBlock = some g → g < wr.heap.size) := Lib.hid fun g hg => (HOW.out.lt g hg).2
      have HSB : Hid (B0 ≤ wr.heap.size) := Lib.hid HCI.out.hB
      have HBC : Hid (((b.tabs.take k).length + ([x] : List Tb).length) * rTb.bytes ≤ 140737488355328) := Lib.hid (by
        have : (b.tabs.take k).length ≤ k := List.length_take_le _ _
        simp only [rTb, List.length_singleton]; omega)
      clear hx hr hbw hu hs7 hqz
      obtain ⟨Au, lu, hv⟩ := HOW.out.value
      rw [List.length_take_of_le (show k ≤ b.tabs.length by omega)] at hv
      subst hv
      go_wp2
      clear e7 g0 g1 g2 g3 g4
      have HLK : Hid ((b.tabs.take k ++ [x]).length = k + 1) := Lib.hid (by rw [List.length_append, List.length_take_of_le (show k ≤ b.tabs.length by omega), List.length_singleton])
      have Z7 : Hid (W7.drew.frozen? ⟨q3, 1, none⟩ = false) := Lib.hid ((HB7.out.frozen (p := ⟨q3, 1, none⟩) HQZ.out).trans HCI.out.z1)
      have HS1 : Hid (∀ n, W7.heap.size ≤ n → ∀ g, Up (Up (fun _ => False) W7.drew.heap.size) n g → Up (fun _ => False) B0 g ∧ (Value.slice Au k lu).ownBlock ≠ some g) := Lib.hid fun n hn g hg => by
        have h1 : W7.heap.size ≤ g := by
          rcases hg with (h | h) | h
          · exact h.elim
          · exact h
          · omega
        have h2 := HS7.out
        have h3 := HSB.out
        exact ⟨.inr (by omega), fun e => by have := HLT.out g e; omega⟩
      have HW7 : Hid (W7.drew.heap.size = W7.heap.size) := Lib.hid rfl
      go_region_law (first | (refine step_append_many (R := rTb) el_Tb rfl (.tmp 18) (.tmp 21) rfl rfl (by exact HO8.out.alloc _) rfl (ys := [x]) (S2 := Up (Up (fun _ => False) W7.drew.heap.size) w8.heap.size) (Up (Up (fun _ => False) W7.drew.heap.size) w8.heap.size) rfl (by exact fresh_elems (by decide) [.string ⟨x.name.toArray⟩, .int .i64 x.pol, .bool x.comp, v8, u8] HR8.out (by decide)) (fun _ _ h => h) (by (intro g hg _; exact HS1.out _ HS8.out g hg)) (by exact HBC.out) (by (have := HS8.out; have := HSB.out; have := HS7.out; simp; omega)) ?_; intro v9 w9 hown9 hb9 hg9 _; obtain ⟨A9, l9, rfl⟩ : ∃ A9 l9, v9 = .slice A9 (k + 1) l9 := (by (obtain ⟨A9, l9, h⟩ := hown9.value; exact ⟨A9, l9, by rw [h, HLK.out]⟩)); have HO9 := Lib.hid hown9; have HB9 := Lib.hid hb9; have HG9 := Lib.hid hg9; have l0 : w9.cell? ⟨q3, 1, none⟩ = some (.slice Au k lu) := (hb9.cell (p := ⟨q3, 1, none⟩) HQ3.out.1).trans ((World.cell?_alloc_lt _ _ _ (Nat.lt_of_lt_of_le (Nat.lt_trans HQZ.out HS7.out) HS8.out)).trans i0); have z9 : w9.frozen? ⟨q3, 1, none⟩ = false := (hb9.frozen (p := ⟨q3, 1, none⟩) HQ3.out.1).trans (((HB8.out.alloc HS8.out _).frozen (p := ⟨q3, 1, none⟩) (Nat.lt_trans HQZ.out HS7.out)).trans Z7.out); clear hown9 hb9 hg9) | (go_simp; go_at_call 17; (with_reducible refine (CopyTable_any W7.drew (Rd.drew HR7.out)).mono ?_); rintro e w8 ⟨v8, u8, rfl, hr8, hb8⟩; have HR8 := Lib.hid hr8; have HB8 : Hid (Below W7.heap.size W7.drew w8) := Lib.hid hb8; have HO8 : Hid (Own rTb 42 w8 B0 (fun _ => False) (.slice Au k lu) (b.tabs.take k)) := Lib.hid (HO7.out.below hb8); have i0 := (hb8.cell (p := ⟨q3, 1, none⟩) (Nat.lt_trans HQZ.out HS7.out)).trans HU7.out; have j0 := (hb8.cell (p := ⟨wr.heap.size, 0, none⟩) HS7.out).trans d0; have j1 := (hb8.cell (p := ⟨wr.heap.size, 1, none⟩) HS7.out).trans d1; have j2 := (hb8.cell (p := ⟨wr.heap.size, 2, none⟩) HS7.out).trans d2; have j3 := (hb8.cell (p := ⟨wr.heap.size, 3, none⟩) HS7.out).trans d3; have j4 := (hb8.cell (p := ⟨wr.heap.size, 4, none⟩) HS7.out).trans d4; have HS8 : Hid (W7.heap.size ≤ w8.heap.size) := Lib.hid hb8.size; have q8 : q3 < w8.heap.size := Nat.lt_of_lt_of_le (Nat.lt_trans HQZ.out HS7.out) hb8.size; have f8 : w8.frozen? ⟨q3, 1, none⟩ = false := (hb8.frozen (p := ⟨q3, 1, none⟩) (Nat.lt_trans HQZ.out HS7.out)).trans Z7.out; clear hr8 hb8))
      all_goals
        go_wp2
        go_roundw
        case rel => exact ⟨k + 1, _, by omega, by go_num, World.cell?_setCell_same _ _ _ l0, Lib.hid (by rw [List.take_add_one, HX.out]; exact Own.setLow HO9.out (a := ⟨q3, 1, none⟩) HQ3.out.1 _), Lib.hid ((HCI.out.step (((((drewN_below (HB7.out.mono HSB.out) 1).trans (HB8.out.mono (Nat.le_trans HSB.out (Nat.le_of_lt HS7.out)))).alloc (Nat.le_trans (Nat.le_trans HSB.out (Nat.le_of_lt HS7.out)) HS8.out) _).trans HB9.out))).set _)⟩
        case measure => simp [intOf]; omega
    · have HOUf : Hid (Own rTb 42 wr B0 (fun _ => False) u b.tabs) := Lib.hid (by have := HOW.out; rwa [List.take_of_length_le (by omega)] at this)
      have hij : ¬ (k : Int) < (b.tabs.length : Int) := by omega
      obtain ⟨Au, lu, rfl⟩ := HOUf.out.value
      obtain ⟨c0, _, f0, f1, hy, hin, bel, hB, hqq⟩ := HCI.out
      obtain ⟨W8, e8, hB8, hK8, n0, n1⟩ := store2B (.slice A3 b.doms.length l3) (.slice Au b.tabs.length lu) f0 f1
      have y0 := hy 0
      have y1 := hy 1
      have HB8 := Lib.hid (hB8 w.heap.size (Nat.le_succ _) w bel)
      have HR8 : Hid (rBk.rel W8 (Up (fun _ => False) w.heap.size) [.slice A3 b.doms.length l3, .slice Au b.tabs.length lu] b) := Lib.hid ⟨_, _, rfl,
        (rSl rDm).mono ((rSl rDm).keep hin (hK8 _ (by omega))) (fun b hb _ => .inr (by omega)),
        (rSl rTb).mono ((rSl rTb).keep (HOUf.out.rel (by decide)) (hK8 _ (fun h => h.elim (fun h => h) fun h => by omega))) (fun b hb _ => hb.elim (fun h => h.elim) fun h => .inr (by omega))⟩
      clear hy hin bel hB hqq hB8 hK8 HF HOW hlt hk
      go_wp2
      refine bodyPost_ret (by simp [results, Tryz.results27, go_sem, n0, n1]; rfl) rfl ?_
      exact ⟨_, _, rfl, HR8.out, HB8.out⟩

end Go.Proofs.YtlopccnehgolnabGreatDoor
