import Derived.Test.YtlopccnehgolnacGreatDoorGL48
import Derived.Test.YtlopccnehgolnacGreatDoorGL46
import Derived.Deep.MidRow
import Derived.Test.YtlopccnehgolnacGreatDoorGL30
import Derived.BigQuiet
import Derived.Deep.DeepMust
import Derived.Test.YtlopccnehgolnacGreatDoorShow
namespace Go.Proofs.YtlopccnehgolnacGreatDoor
open Go.RowKit Rb
set_option maxRecDepth 100000
set_option maxHeartbeats 1600000
theorem Y7v {w : World} {X o : Nat} {T T' : Nat -> Prop} {x x' : Ses} {v0 v1 v2 v3 v4 v5 v6 : Value} (hx : SesAt w X o T x) (hr : rSes.rel w T' [v0, v1, v2, v3, v4, v5, v6] x') (hT : ¬ T' X) :
  ∃ W, ((((((w.setCell ⟨X, o, none⟩ v0).setCell ⟨X, o + 1, none⟩ v1).setCell ⟨X, o + 2, none⟩ v2).setCell ⟨X, o + 3, none⟩ v3).setCell ⟨X, o + 4, none⟩ v4).setCell ⟨X, o + 5, none⟩ v5).setCell ⟨X, o + 6, none⟩ v6 = W /\ Hid (SesAt W X o T' x') /\ Hid (Wrote X o w W) /\ Hid (W.heap.size = w.heap.size) := by
 obtain ⟨D, dc, B, bc, G, gc, R, rc, _, c0, c1, c2, c3, c4, c5, c6⟩ := hx.out
 refine ⟨_, rfl, L0 ⟨[v0, v1, v2, v3, v4, v5, v6], rSes.keep hr (.grown (Z0b [v0, v1, v2, v3, v4, v5, v6] o : w.grownBy (w.setCells X o [v0, v1, v2, v3, v4, v5, v6]) (some X)) fun g hg h => by injection hg with hg; subst hg; exact hT h), fun j u hu => ?_⟩, L0 ?_, L0 (by simp [World.setCell])⟩
 ·match j, hu with
  | 0, hu => obtain rfl := L0s hu; exact (L0a _ _ _ _ (by simp)).trans ((L0a _ _ _ _ (by simp)).trans ((L0a _ _ _ _ (by simp)).trans ((L0a _ _ _ _ (by simp)).trans ((L0a _ _ _ _ (by simp)).trans ((L0a _ _ _ _ (by simp)).trans (L0d _ _ _ c0))))))
  | 1, hu => obtain rfl := L0s hu; exact (L0a _ _ _ _ (by simp)).trans ((L0a _ _ _ _ (by simp)).trans ((L0a _ _ _ _ (by simp)).trans ((L0a _ _ _ _ (by simp)).trans ((L0a _ _ _ _ (by simp)).trans (L0d _ _ _ ((L0a _ _ _ _ (by simp)).trans c1))))))
  | 2, hu => obtain rfl := L0s hu; exact (L0a _ _ _ _ (by simp)).trans ((L0a _ _ _ _ (by simp)).trans ((L0a _ _ _ _ (by simp)).trans ((L0a _ _ _ _ (by simp)).trans (L0d _ _ _ ((L0a _ _ _ _ (by simp)).trans ((L0a _ _ _ _ (by simp)).trans c2))))))
  | 3, hu => obtain rfl := L0s hu; exact (L0a _ _ _ _ (by simp)).trans ((L0a _ _ _ _ (by simp)).trans ((L0a _ _ _ _ (by simp)).trans (L0d _ _ _ ((L0a _ _ _ _ (by simp)).trans ((L0a _ _ _ _ (by simp)).trans ((L0a _ _ _ _ (by simp)).trans c3))))))
  | 4, hu => obtain rfl := L0s hu; exact (L0a _ _ _ _ (by simp)).trans ((L0a _ _ _ _ (by simp)).trans (L0d _ _ _ ((L0a _ _ _ _ (by simp)).trans ((L0a _ _ _ _ (by simp)).trans ((L0a _ _ _ _ (by simp)).trans ((L0a _ _ _ _ (by simp)).trans c4))))))
  | 5, hu => obtain rfl := L0s hu; exact (L0a _ _ _ _ (by simp)).trans (L0d _ _ _ ((L0a _ _ _ _ (by simp)).trans ((L0a _ _ _ _ (by simp)).trans ((L0a _ _ _ _ (by simp)).trans ((L0a _ _ _ _ (by simp)).trans ((L0a _ _ _ _ (by simp)).trans c5))))))
  | 6, hu => obtain rfl := L0s hu; exact L0d _ _ _ ((L0a _ _ _ _ (by simp)).trans ((L0a _ _ _ _ (by simp)).trans ((L0a _ _ _ _ (by simp)).trans ((L0a _ _ _ _ (by simp)).trans ((L0a _ _ _ _ (by simp)).trans ((L0a _ _ _ _ (by simp)).trans c6))))))
  | j + 7, hu => simp at hu
 ·exact ((((((Wrote.set 0 (by decide) _).trans (.set 1 (by decide) _)).trans (.set 2 (by decide) _)).trans (.set 3 (by decide) _)).trans (.set 4 (by decide) _)).trans (.set 5 (by decide) _)).trans (.set 6 (by decide) _)
def rDid : Rd Did where
 k := 2
 bytes := 48
 rel w S cs x := ∃ v u, cs = [v, u] /\ (rSl rAcn).rel w S [v] x.acts /\ (rSl rRep).rel w S [u] x.reps
 len h := by obtain ⟨v, u, rfl, _⟩ := h; rfl
 keep h hk := by obtain ⟨v, u, e, h1, h2⟩ := h; exact ⟨v, u, e, (rSl rAcn).keep h1 hk, (rSl rRep).keep h2 hk⟩
 mono h hk := by obtain ⟨v, u, e, h1, h2⟩ := h; exact ⟨v, u, e, (rSl rAcn).mono h1 hk, (rSl rRep).mono h2 hk⟩
 one h u hu := by
  obtain ⟨v, u', rfl, h1, h2⟩ := h
  simp at hu
  rcases hu with rfl | rfl
  ·exact (rSl rAcn).one h1 _ (by simp)
  ·exact (rSl rRep).one h2 _ (by simp)
structure NowAt (w0 w : World) (N : Nat) (R : Nat -> Prop) (s : Nat -> Value) (now : Nat -> Did) : Prop where
 cell : ∀ j, j < 8 -> w.cell? ⟨N, j, none⟩ = some (s j)
 acts : ∀ j, j < 4 -> OwnS rAcn 24 w w0.heap.size R (s (j * 2)) (now j).acts
 reps : ∀ j, j < 4 -> OwnS rRep 30 w w0.heap.size R (s (j * 2 + 1)) (now j).reps
 apart : ∀ i j, i < 8 -> j < 8 -> i ≠ j -> ∀ g, (s i).ownBlock = some g -> (s j).ownBlock ≠ some g
 ne : ∀ i, i < 8 -> (s i).ownBlock ≠ some N
 lt : N < w.heap.size
 nr : ¬ R N
 rw : ∀ q, R q -> q < w.heap.size
 frz : ∀ j, w.frozen? ⟨N, j, none⟩ = false
section
variable {w0 w w' w1 : World} {N sb : Nat} {C T C' T' R R' : Nat -> Prop} {s : Nat -> Value} {now now' : Nat -> Did} {st st' : Sto}
theorem NowAt.keep (h : NowAt w0 w N R s now) (hk : Keeps (fun q => R q \/ q = N \/ ∃ i, i < 8 /\ (s i).ownBlock = some q) w w') (hz : w.heap.size <= w'.heap.size) : NowAt w0 w' N R s now :=
 ⟨fun j hj => hk.cell (a := ⟨N, j, none⟩) (.inr (.inl rfl)) (h.cell j hj), fun j hj => (h.acts j hj).keeps fun b hb hl => hk b (hb.imp id fun e => .inr ⟨j * 2, by omega, e⟩) hl,
 fun j hj => (h.reps j hj).keeps fun b hb hl => hk b (hb.imp id fun e => .inr ⟨j * 2 + 1, by omega, e⟩) hl, h.apart, h.ne, L0c h.lt hz, h.nr, fun q hq => L0c (h.rw q hq) hz,
 fun j => (L1e (a := ⟨N, j, none⟩) (hk N (.inr (.inl rfl)) h.lt)).trans (h.frz j)⟩
theorem NowAt.below (h : NowAt w0 w N R s now) (hb : Below w.heap.size w w') : NowAt w0 w' N R s now := h.keep (.of_below hb) hb.size
theorem NowAt.row (h : NowAt w0 w N R s now) {i : Nat} (hi : i < 8) {g : Nat} (hg : (s i).ownBlock = some g) : w0.heap.size <= g /\ g < w.heap.size /\ ¬ R g := by
 rcases Nat.mod_two_eq_zero_or_one i with h0 | h0
 ·have e : i = i / 2 * 2 := by omega
  rw [e] at hg
  have ho := h.acts (i / 2) (by omega)
  obtain ⟨_, _, k2, _⟩ := id ho
  exact ⟨(ho.lt g hg).1, (ho.lt g hg).2, k2 g hg⟩
 ·have e : i = i / 2 * 2 + 1 := by omega
  rw [e] at hg
  have ho := h.reps (i / 2) (by omega)
  obtain ⟨_, _, k2, _⟩ := id ho
  exact ⟨(ho.lt g hg).1, (ho.lt g hg).2, k2 g hg⟩
theorem NowAt.wide (h : NowAt w0 w N R s now) (hR : ∀ q, R q -> R' q) (hn : ¬ R' N) (hw : ∀ q, R' q -> q < w.heap.size) (ho : ∀ i, i < 8 -> ∀ g, (s i).ownBlock = some g -> ¬ R' g) : NowAt w0 w N R' s now :=
 ⟨h.cell, fun j hj => (h.acts j hj).wide (fun b hb _ => hR b hb) (ho _ (by omega)), fun j hj => (h.reps j hj).wide (fun b hb _ => hR b hb) (ho _ (by omega)), h.apart, h.ne, h.lt, hn, hw, h.frz⟩
theorem NowAt.did (h : NowAt w0 w N R s now) {k : Nat} (hk : k < 4) : rDid.rel w (fun q => q < w.heap.size) [s (k * 2), s (k * 2 + 1)] (now k) :=
 ⟨_, _, rfl, (rSl rAcn).mono ((h.acts k hk).self.rel (by decide)) fun _ _ h => h, (rSl rRep).mono ((h.reps k hk).self.rel (by decide)) fun _ _ h => h⟩
def upd (s : Nat -> Value) (i : Nat) (u : Value) : Nat -> Value := fun j => if j = i then u else s j
theorem Z4g (s : Nat -> Value) (i : Nat) (u : Value) : upd s i u i = u := if_pos rfl
theorem Z6r {s : Nat -> Value} {i j : Nat} {u : Value} (h : j ≠ i) : upd s i u j = s j := if_neg h
theorem NowAt.put (h : NowAt w0 w N R s now) {i0 : Nat} (hi : i0 < 8) {u : Value} (hg : w.grownBy w1 (s i0).ownBlock) (hu : ∀ g, u.ownBlock = some g -> (s i0).ownBlock = some g \/ g = w.heap.size)
  (ha : ∀ j, j < 4 -> (j * 2 = i0 -> OwnS rAcn 24 w1 w0.heap.size R u (now' j).acts) /\ (j * 2 ≠ i0 -> (now' j).acts = (now j).acts))
  (hr : ∀ j, j < 4 -> (j * 2 + 1 = i0 -> OwnS rRep 30 w1 w0.heap.size R u (now' j).reps) /\ (j * 2 + 1 ≠ i0 -> (now' j).reps = (now j).reps)) : NowAt w0 (w1.setCell ⟨N, i0, none⟩ u) N R (upd s i0 u) now' := by
 have hgs : w1.grownBy (w1.setCell ⟨N, i0, none⟩ u) (some N) := Z0b [u] i0
 have hz := hg.size
 have huN : u.ownBlock ≠ some N := fun e => by
  rcases hu N e with h1 | h1
  ·exact h.ne i0 hi h1
  ·have := h.lt; omega
 have hkN : ∀ K : Nat -> Prop, ¬ K N -> Keeps K w1 (w1.setCell ⟨N, i0, none⟩ u) := fun K hK => .grown hgs fun g hg h => by injection hg with hg; exact hK (hg ▸ h)
 have hkj : ∀ j, j < 8 -> j ≠ i0 -> Keeps (fun b => R b \/ (s j).ownBlock = some b) w (w1.setCell ⟨N, i0, none⟩ u) := fun j hj hne => by
  refine Keeps.trans (w' := w1) (.grown hg fun g hg hK => ?_) (hkN _ fun hK => hK.elim h.nr (h.ne j hj))
  rcases hK with hK | hK
  ·exact (h.row hi hg).2.2 hK
  ·exact h.apart i0 j hi hj (fun e => hne e.symm) g hg hK
 refine ⟨fun j hj => ?_, fun j hj => ?_, fun j hj => ?_, fun i j hii hj hne g hgi hgj => ?_, fun i hii => ?_, L0c h.lt (L0i hz hgs.size), h.nr, fun q hq => L0c (h.rw q hq) (L0i hz hgs.size), fun j => ?_⟩
 ·by_cases hji : j = i0
  ·subst hji
   rw [Z4g]
   exact L0d _ _ _ (hg.cell (h.cell j hj) fun e => h.ne j hj e.symm)
  ·rw [Z6r hji]
   exact (L0a _ _ _ _ (by simp)).trans (hg.cell (h.cell j hj) fun e => h.ne i0 hi e.symm)
 ·by_cases hji : j * 2 = i0
  ·rw [hji, Z4g]
   exact ((ha j hj).1 hji).keeps (hkN _ fun hK => hK.elim h.nr huN)
  ·rw [Z6r hji, (ha j hj).2 hji]
   exact (h.acts j hj).keeps (hkj _ (by omega) hji)
 ·by_cases hji : j * 2 + 1 = i0
  ·rw [hji, Z4g]
   exact ((hr j hj).1 hji).keeps (hkN _ fun hK => hK.elim h.nr huN)
  ·rw [Z6r hji, (hr j hj).2 hji]
   exact (h.reps j hj).keeps (hkj _ (by omega) hji)
 ·by_cases h1 : i = i0
  ·subst h1
   rw [Z4g] at hgi
   rw [Z6r fun e => hne e.symm] at hgj
   rcases hu g hgi with h2 | h2
   ·exact h.apart i j hii hj hne g h2 hgj
   ·have := (h.row hj hgj).2.1; omega
  ·rw [Z6r h1] at hgi
   by_cases h2 : j = i0
   ·subst h2
    rw [Z4g] at hgj
    rcases hu g hgj with h3 | h3
    ·exact h.apart i j hii hj hne g hgi h3
    ·have := (h.row hii hgi).2.1; omega
   ·rw [Z6r h2] at hgj
    exact h.apart i j hii hj hne g hgi hgj
 ·by_cases h1 : i = i0
  ·rw [h1, Z4g]
   exact huN
  ·rw [Z6r h1]
   exact h.ne i hii
 ·rw [L0l]
  exact (L1e (a := ⟨N, j, none⟩) (hg.block N h.lt fun e => h.ne i0 hi e.symm)).trans (h.frz j)
structure SInv (w0 w : World) (N sb : Nat) (C T R : Nat -> Prop) (s : Nat -> Value) (st : Sto) (now : Nat -> Did) : Prop where
 sto : At w0 w sb C T st
 now : NowAt w0 w N R s now
 rc : ∀ q, R q -> ¬ C q
 nc : ∀ q, (q = N \/ ∃ i, i < 8 /\ (s i).ownBlock = some q) -> ¬ C q /\ ¬ T q
theorem SInv.lt (h : SInv w0 w N sb C T R s st now) {q : Nat} (hq : R q \/ q = N \/ ∃ i, i < 8 /\ (s i).ownBlock = some q) : q < w.heap.size := by
 rcases hq with h1 | h1 | ⟨i, h1, h2⟩
 ·exact h.now.rw q h1
 ·exact h1 ▸ h.now.lt
 ·exact (h.now.row h1 h2).2.1
theorem SInv.below (h : SInv w0 w N sb C T R s st now) (hb : Below w.heap.size w w') : SInv w0 w' N sb C T R s st now := ⟨h.sto.below hb, h.now.below hb, h.rc, h.nc⟩
theorem SInv.act (h : SInv w0 w N sb C T R s st now) (ha : At w0 w' sb C' T' st') (hc : Chg C w w') (hC : ∀ q, C' q -> C q \/ w.heap.size <= q) (hT : ∀ q, T' q -> T q \/ w.heap.size <= q) : SInv w0 w' N sb C' T' R s st' now :=
 ⟨ha, h.now.keep (hc.keeps fun b hb hC => hb.elim (fun h1 => h.rc b h1 hC) fun h1 => (h.nc b h1).1 hC) hc.size,
 fun q hq hn => (hC q hn).elim (h.rc q hq) fun h1 => by have := h.lt (.inl hq); omega,
 fun q hq => ⟨fun hn => (hC q hn).elim (h.nc q hq).1 fun h1 => by have := h.lt (.inr hq); omega, fun hn => (hT q hn).elim (h.nc q hq).2 fun h1 => by have := h.lt (.inr hq); omega⟩⟩
theorem SInv.wide (h : SInv w0 w N sb C T R s st now) (hN : w0.heap.size <= N) {n : Nat} (hn : ∀ q, (q = N \/ ∃ i, i < 8 /\ (s i).ownBlock = some q) -> q < n) (hR : ∀ q, R q -> R' q) (hR1 : ∀ q, R' q -> R q \/ (q < w0.heap.size \/ n <= q) /\ q < w.heap.size /\ ¬ C q) : SInv w0 w N sb C T R' s st now := by
 refine ⟨h.sto, h.now.wide hR (fun h1 => ?_) (fun q hq => (hR1 q hq).elim (h.now.rw q) fun h1 => h1.2.1) fun i hi g hg h1 => ?_, fun q hq => (hR1 q hq).elim (h.rc q) fun h1 => h1.2.2, h.nc⟩
 ·rcases hR1 N h1 with h2 | h2
  ·exact h.now.nr h2
  ·have := hn N (.inl rfl); omega
 ·rcases hR1 g h1 with h2 | h2
  ·exact (h.now.row hi hg).2.2 h2
  ·have := hn g (.inr ⟨i, hi, hg⟩); have := (h.now.row hi hg).1; omega
theorem SInv.put (h : SInv w0 w N sb C T R s st now) (hl : LibW w0) (hp : PolW w0) (hN : w0.heap.size <= N) {i0 : Nat} (hi : i0 < 8) {u : Value} (hg : w.grownBy w1 (s i0).ownBlock) (hu : ∀ g, u.ownBlock = some g -> (s i0).ownBlock = some g \/ g = w.heap.size)
  (ha : ∀ j, j < 4 -> (j * 2 = i0 -> OwnS rAcn 24 w1 w0.heap.size R u (now' j).acts) /\ (j * 2 ≠ i0 -> (now' j).acts = (now j).acts))
  (hr : ∀ j, j < 4 -> (j * 2 + 1 = i0 -> OwnS rRep 30 w1 w0.heap.size R u (now' j).reps) /\ (j * 2 + 1 ≠ i0 -> (now' j).reps = (now j).reps)) : SInv w0 (w1.setCell ⟨N, i0, none⟩ u) N sb C T R (upd s i0 u) st now' := by
 have hA1 : At w0 w1 sb C T st := h.sto.grown hl hp hg fun g hg => ⟨(h.now.row hi hg).1, h.nc g (.inr ⟨i0, hi, hg⟩)⟩
 refine ⟨hA1.grown hl hp (Z0b [u] i0 : w1.grownBy (w1.setCell ⟨N, i0, none⟩ u) (some N)) fun g hg => ?_, h.now.put hi hg hu ha hr, h.rc, fun q hq => ?_⟩
 ·injection hg with hg
  subst hg
  exact ⟨hN, h.nc _ (.inl rfl)⟩
 ·rcases hq with h1 | ⟨i, h1, h2⟩
  ·exact h.nc q (.inl h1)
  ·by_cases h3 : i = i0
   ·rw [h3, Z4g] at h2
    rcases hu q h2 with h4 | h4
    ·exact h.nc q (.inr ⟨i0, hi, h4⟩)
    ·exact ⟨fun h5 => by have := h.sto.sto.cw q h5; omega, fun h5 => by have := h.sto.sto.tw q h5; omega⟩
   ·rw [Z6r h3] at h2
    exact h.nc q (.inr ⟨i, h1, h2⟩)
theorem SInv.putA (h : SInv w0 w N sb C T R s st now) (hl : LibW w0) (hp : PolW w0) (hN : w0.heap.size <= N) {k : Nat} (hk : k < 4) {u : Value} {xs : List Acn} (hg : w.grownBy w1 (s (k * 2)).ownBlock) (hu : ∀ g, u.ownBlock = some g -> (s (k * 2)).ownBlock = some g \/ g = w.heap.size) (ho : OwnS rAcn 24 w1 w0.heap.size R u xs) :
  SInv w0 (w1.setCell ⟨N, k * 2, none⟩ u) N sb C T R (upd s (k * 2) u) st (fun j => if j = k then ⟨xs, (now j).reps⟩ else now j) := by
 refine h.put hl hp hN (by omega) hg hu (fun j _ => ⟨fun e => ?_, fun e => ?_⟩) fun j _ => ⟨fun e => by omega, fun _ => ?_⟩
 ·rw [if_pos (by omega)]
  exact ho
 ·rw [if_neg (by omega)]
 ·split <;> rfl
theorem SInv.putR (h : SInv w0 w N sb C T R s st now) (hl : LibW w0) (hp : PolW w0) (hN : w0.heap.size <= N) {k : Nat} (hk : k < 4) {u : Value} {xs : List Rep} (hg : w.grownBy w1 (s (k * 2 + 1)).ownBlock) (hu : ∀ g, u.ownBlock = some g -> (s (k * 2 + 1)).ownBlock = some g \/ g = w.heap.size) (ho : OwnS rRep 30 w1 w0.heap.size R u xs) :
  SInv w0 (w1.setCell ⟨N, k * 2 + 1, none⟩ u) N sb C T R (upd s (k * 2 + 1) u) st (fun j => if j = k then ⟨(now j).acts, xs⟩ else now j) := by
 refine h.put hl hp hN (by omega) hg hu (fun j _ => ⟨fun e => by omega, fun _ => ?_⟩) fun j _ => ⟨fun e => ?_, fun e => ?_⟩
 ·split <;> rfl
 ·rw [if_pos (by omega)]
  exact ho
 ·rw [if_neg (by omega)]
theorem SInv.zero (h : SInv w0 w N sb C T R s st now) (hl : LibW w0) (hp : PolW w0) (hN : w0.heap.size <= N) {k : Nat} (hk : k < 4) :
  ∃ s', SInv w0 ((w.setCell ⟨N, k * 2, none⟩ (.slice none 0 0)).setCell ⟨N, k * 2 + 1, none⟩ (.slice none 0 0)) N sb C T R s' st (fun j => if j = k then ⟨[], []⟩ else now j) := by
 have hg : ∀ (w : World) r, w.grownBy w r := fun w r => ⟨rfl, rfl, rfl, L0f _, fun _ _ _ => rfl⟩
 have h1 := h.putA (w1 := w) hl hp hN hk (u := .slice none 0 0) (xs := []) (hg _ _) (fun g e => by simp [Value.ownBlock] at e) (.nil _ _ _ _ _)
 have h2 := h1.putR hl hp hN hk (u := .slice none 0 0) (xs := []) (hg _ _) (fun g e => by simp [Value.ownBlock] at e) (.nil _ _ _ _ _)
 have e : (fun j => if j = k then (⟨[], []⟩ : Did) else now j) = fun j => if j = k then ⟨((fun j => if j = k then (⟨[], (now j).reps⟩ : Did) else now j) j).acts, []⟩ else (fun j => if j = k then (⟨[], (now j).reps⟩ : Did) else now j) j := by
  funext j
  by_cases hj : j = k
  ·simp [hj]
  ·simp [hj]
 exact ⟨_, e ▸ h2⟩
end
theorem Y95 (w : World) (v0 v1 v2 v3 v4 : Value) : ∃ W, (w.alloc (.cells #[v0, v1, v2, v3, v4] 24)).alloc (.cells #[.bool false, .bool false, .int .i64 0, .slice none 0 0, .slice none 0 0, .slice none 0 0, .slice none 0 0] 41) = W /\ Hid (Below w.heap.size w W) /\ Hid (SesAt W (w.heap.size + 1) 0 (fun _ => False) ses0) /\ Hid (∀ j, W.frozen? ⟨w.heap.size + 1, j, none⟩ = false) /\ Hid (W.heap.size = w.heap.size + 2) /\
  W.cell? ⟨w.heap.size, 0, none⟩ = some v0 /\ W.cell? ⟨w.heap.size, 1, none⟩ = some v1 /\ W.cell? ⟨w.heap.size, 2, none⟩ = some v2 /\ W.cell? ⟨w.heap.size, 3, none⟩ = some v3 /\ W.cell? ⟨w.heap.size, 4, none⟩ = some v4 := by
 have z1 : (w.alloc (.cells #[v0, v1, v2, v3, v4] 24)).heap.size = w.heap.size + 1 := by simp
 have hb : Below w.heap.size w (w.alloc (.cells #[v0, v1, v2, v3, v4] 24)) := (L0m _ _).alloc (L0f _) _
 have k : ∀ j, ((w.alloc (.cells #[v0, v1, v2, v3, v4] 24)).alloc (.cells #[.bool false, .bool false, .int .i64 0, .slice none 0 0, .slice none 0 0, .slice none 0 0, .slice none 0 0] 41)).cell? ⟨w.heap.size, j, none⟩ = #[v0, v1, v2, v3, v4][j]? := fun j => (L0j _ _ _ (by simp)).trans (L0b _ _ _ _)
 refine ⟨_, rfl, L0 (hb.alloc (by simp) _), L0 ⟨[.bool false, .bool false, .int .i64 0, .slice none 0 0, .slice none 0 0, .slice none 0 0, .slice none 0 0], ⟨_, _, _, _, rfl, (show InI 0 from ⟨by decide, by decide⟩), Z02 _ _, Z02 _ _, Z02 _ _, Z02 _ _⟩, fun j u hu => ?_⟩, L0 fun j => ?_, L0 (by simp), k 0, k 1, k 2, k 3, k 4⟩
 ·rw [<- z1, L4l]
  refine (L0b _ _ _ _).trans ?_
  rw [<- hu]
  exact List.getElem?_toArray
 ·rw [<- z1]
  simp
theorem Y9u {w : World} {X : Nat} {T T' : Nat -> Prop} {x x' : Ses} {v0 v1 v2 v3 v4 v5 v6 : Value} (hx : SesAt w X 0 T x) (hr : rSes.rel w T' [v0, v1, v2, v3, v4, v5, v6] x') (hT : ¬ T' X) :
  ∃ W, ((((((w.setCell ⟨X, 0, none⟩ v0).setCell ⟨X, 1, none⟩ v1).setCell ⟨X, 2, none⟩ v2).setCell ⟨X, 3, none⟩ v3).setCell ⟨X, 4, none⟩ v4).setCell ⟨X, 5, none⟩ v5).setCell ⟨X, 6, none⟩ v6 = W /\ Hid (SesAt W X 0 T' x') /\ Hid (Wrote X 0 w W) /\ Hid (W.heap.size = w.heap.size) := Y7v (o := 0) hx hr hT
theorem Z80 {w : World} {X : Nat} {T : Nat -> Prop} {x : Ses} (h : SesAt w X 0 T x) : ∃ D dc B bc G gc Q qc, Hid (rSes.rel w T [.bool x.opn, .bool x.strict, .int .i64 x.frm, .slice D x.mine.doms.length dc, .slice B x.mine.tabs.length bc, .slice G x.gone.length gc, .slice Q x.read.length qc] x) /\
  w.cell? ⟨X, 0, none⟩ = some (.bool x.opn) /\ w.cell? ⟨X, 1, none⟩ = some (.bool x.strict) /\ w.cell? ⟨X, 2, none⟩ = some (.int .i64 x.frm) /\ w.cell? ⟨X, 3, none⟩ = some (.slice D x.mine.doms.length dc) /\ w.cell? ⟨X, 4, none⟩ = some (.slice B x.mine.tabs.length bc) /\ w.cell? ⟨X, 5, none⟩ = some (.slice G x.gone.length gc) /\ w.cell? ⟨X, 6, none⟩ = some (.slice Q x.read.length qc) := by
 obtain ⟨D, dc, B, bc, G, gc, Q, qc, h0, h1⟩ := h.out
 exact ⟨D, dc, B, bc, G, gc, Q, qc, L0 h0, h1⟩
theorem Y2o {w W : World} {X : Nat} {T K : Nat -> Prop} {x : Ses} (h : SesAt w X 0 T x) (hk : Keeps K w W) (hT : ∀ q, T q -> K q) (hX : K X) : SesAt W X 0 T x := by
 obtain ⟨xs, h1, h2⟩ := h
 exact ⟨xs, rSes.keep h1 fun b hb hl => hk b (hT b hb) hl, fun j u hu => hk.cell (a := ⟨X, 0 + j, none⟩) hX (h2 j u hu)⟩
theorem X17 {w0 w : World} {N sb : Nat} {C T R : Nat -> Prop} {s : Nat -> Value} {st : Sto} {now now' : Nat -> Did} (h : SInv w0 w N sb C T R s st now) (e : now = now') : SInv w0 w N sb C T R s st now' := e ▸ h
theorem Z6w {w W : World} {K : Nat -> Prop} {q : Nat} {u0 u1 u2 u3 u4 : Value} (h : Keeps K w W) (hq : K q) (g0 : w.cell? ⟨q, 0, none⟩ = some u0) (g1 : w.cell? ⟨q, 1, none⟩ = some u1) (g2 : w.cell? ⟨q, 2, none⟩ = some u2) (g3 : w.cell? ⟨q, 3, none⟩ = some u3) (g4 : w.cell? ⟨q, 4, none⟩ = some u4) :
  W.cell? ⟨q, 0, none⟩ = some u0 /\ W.cell? ⟨q, 1, none⟩ = some u1 /\ W.cell? ⟨q, 2, none⟩ = some u2 /\ W.cell? ⟨q, 3, none⟩ = some u3 /\ W.cell? ⟨q, 4, none⟩ = some u4 :=
 ⟨h.cell (a := ⟨q, 0, none⟩) hq g0, h.cell (a := ⟨q, 1, none⟩) hq g1, h.cell (a := ⟨q, 2, none⟩) hq g2, h.cell (a := ⟨q, 3, none⟩) hq g3, h.cell (a := ⟨q, 4, none⟩) hq g4⟩
section
variable {st : Sto} {now : Nat -> Did} {a : Acn}
theorem Y4a (hk : a.kind = 1) (hc : (doS st a).1.code = 0) : ∃ j : Nat, j < 4 /\ (doS st a).1.n = j /\ 0 <= a.n /\ a.n < 4 := by
 by_cases h200 : 200 <= st.acts
 ·unfold doS at hc
  rw [if_pos h200] at hc
  simp [noR] at hc
 have e : doS st a = Z4q st.up a.n := by unfold doS; rw [if_neg h200, if_neg (by omega), if_pos hk]
 rw [e] at hc ⊢
 unfold Z4q at hc ⊢
 by_cases hn : a.n ≠ 0 /\ a.n ≠ 1
 ·rw [if_pos hn] at hc
  simp [noR] at hc
 ·rw [if_neg hn] at hc ⊢
  revert hc
  cases hf : Y48 st.up with
  | none => intro hc; simp [noR] at hc
  | some k =>
   intro _
   exact ⟨k, L3b.1 (L2h hf), rfl, by omega, by omega⟩
theorem Z22 (h1 : ¬ (a.kind = 1 /\ (doS st a).1.code = 0)) (h2 : ¬ (1 < a.kind /\ a.kind < 6 /\ Y4j st a.n = true)) : Z2r st now a = now := by
 unfold Z2r
 rw [if_neg fun h => h1 ⟨h.1, h.2.1⟩, if_neg h2]
theorem X1d {j : Nat} (hk : a.kind = 1) (hc : (doS st a).1.code = 0) (hj : j < 4) (hn : (doS st a).1.n = j) : Z2r st now a = fun i => if i = j then ⟨[], []⟩ else now i := by
 unfold Z2r
 rw [if_pos ⟨hk, hc, by omega, by omega⟩, hn, L1y]
theorem X1c {k : Nat} (h1 : 1 < a.kind) (h2 : a.kind < 6) (hn : a.n = k) (hk : k < 4) (ho : (st.ses k).opn = true) : Z2r st now a = fun i => if i = k then (now i).add a (doS st a).1 else now i := by
 unfold Z2r
 rw [if_neg (by omega), if_pos ⟨h1, h2, isOpen_at.2 ⟨k, hn, hk, ho⟩⟩, hn, L1y]
theorem Y2j (a : Acn) {n : Nat} (h : ∀ j, (now j).acts.length <= n /\ (now j).reps.length <= n) (j : Nat) : (Z2r st now a j).acts.length <= n + 1 /\ (Z2r st now a j).reps.length <= n + 1 := by
 have hj := h j
 unfold Z2r
 split
 ·dsimp only
  split
  ·exact ⟨L0o _, L0o _⟩
  ·omega
 ·split
  ·dsimp only
   split
   ·unfold Did.add
    simp only [L0h, L0p]
    omega
   ·omega
  ·omega
end
theorem Z8q (l : List Acn) : ∀ n j, (Z28 l n j).acts.length <= n /\ (Z28 l n j).reps.length <= n
 | 0, _ => ⟨L0f _, L0f _⟩
 | n + 1, j => by
  cases ha : l[n]? with
  | some a =>
   rw [Z9x ha]
   exact Y2j _ (Z8q l n) j
  | none =>
   have e : Z28 l (n + 1) = Z28 l n := by rw [Z28, ha]
   rw [e]
   have := Z8q l n j
   omega
theorem Y9f (w : World) : ∃ W1, w.alloc (.cells #[.slice none 0 0, .slice none 0 0, .slice none 0 0, .slice none 0 0, .slice none 0 0, .slice none 0 0, .slice none 0 0, .slice none 0 0] 91) = W1 /\ Hid (Below w.heap.size w W1) /\ Hid (NowAt w W1 w.heap.size (fun _ => False) (fun _ => .slice none 0 0) (fun _ => ⟨[], []⟩)) := by
 refine ⟨_, rfl, L0 bA, L0 ⟨fun j hj => (L0b _ _ _ _).trans ?_, fun j _ => .nil _ _ _ _ _, fun j _ => .nil _ _ _ _ _, fun i j _ _ _ g hg => by simp [Value.ownBlock] at hg, fun i _ => by simp [Value.ownBlock], by simp, id, fun q hq => hq.elim, fun j => by simp⟩⟩
 have hj' : j = 0 \/ j = 1 \/ j = 2 \/ j = 3 \/ j = 4 \/ j = 5 \/ j = 6 \/ j = 7 := by omega
 rcases hj' with rfl | rfl | rfl | rfl | rfl | rfl | rfl | rfl <;> rfl
theorem SInv.first {w w1 w2 : World} {sb : Nat} {C T : Nat -> Prop} {s : Nat -> Value} {now : Nat -> Did} {st : Sto} (hn : NowAt w w1 w.heap.size (fun _ => False) s now) (hs : ∀ i, s i = .slice none 0 0) (ha : At w1 w2 sb C T st) (hb : Below w.heap.size w w1) : SInv w w2 w.heap.size sb C T (fun _ => False) s st now := by
 refine ⟨ha.lower hb, hn.below ha.bl, fun q hq => hq.elim, fun q hq => ?_⟩
 have hl := hn.lt
 rcases hq with h1 | ⟨i, _, h1⟩
 ·exact ⟨fun h => by have := ha.cn q h; omega, fun h => by have := ha.tn q h; omega⟩
 ·rw [hs i] at h1
  simp [Value.ownBlock] at h1
def Y57 (x : Ses) (d : Did) (b1 b2 : Bk) : Prop := ∃ (st : Sto) (now : Nat -> Did) (k : Nat) (a : Acn), SGood st /\ k < 4 /\ (st.ses k).opn = true /\ ¬ 200 <= st.acts /\ a.kind = 6 /\ a.n = k /\ (doS st a).1.code = 0 /\ x = st.ses k /\ d = now k /\ b1 = st.at (st.ses k).frm /\ b2 = (st.states[st.states.length - 1]?).getD bk0
theorem X2r (w : World) (s0 s1 s2 s3 s4 s5 s6 d0 d1 f0 f1 l0 l1 : Value) : ∃ X, (((w.alloc (.cells #[s0, s1, s2, s3, s4, s5, s6] 41)).alloc (.cells #[d0, d1] 48)).alloc (.cells #[f0, f1] 38)).alloc (.cells #[l0, l1] 38) = X /\ Hid (Below w.heap.size w X) /\ Hid (X.heap.size = w.heap.size + 4) /\
  X.cell? ⟨w.heap.size, 1, none⟩ = some s1 /\ X.cell? ⟨w.heap.size, 5, none⟩ = some s5 /\ X.cell? ⟨w.heap.size + 1, 0, none⟩ = some d0 /\ X.cell? ⟨w.heap.size + 1, 1, none⟩ = some d1 /\ X.cell? ⟨w.heap.size + 2, 0, none⟩ = some f0 /\ X.cell? ⟨w.heap.size + 2, 1, none⟩ = some f1 /\ X.cell? ⟨w.heap.size + 3, 0, none⟩ = some l0 /\ X.cell? ⟨w.heap.size + 3, 1, none⟩ = some l1 := by
 obtain ⟨w1, e1⟩ : ∃ w1, w.alloc (.cells #[s0, s1, s2, s3, s4, s5, s6] 41) = w1 := ⟨_, rfl⟩
 obtain ⟨w2, e2⟩ : ∃ w2, w1.alloc (.cells #[d0, d1] 48) = w2 := ⟨_, rfl⟩
 obtain ⟨w3, e3⟩ : ∃ w3, w2.alloc (.cells #[f0, f1] 38) = w3 := ⟨_, rfl⟩
 obtain ⟨w4, e4⟩ : ∃ w4, w3.alloc (.cells #[l0, l1] 38) = w4 := ⟨_, rfl⟩
 have z1 : w1.heap.size = w.heap.size + 1 := by rw [<- e1]; simp
 have z2 : w2.heap.size = w.heap.size + 2 := by rw [<- e2]; simp [z1]
 have z3 : w3.heap.size = w.heap.size + 3 := by rw [<- e3]; simp [z2]
 have z4 : w4.heap.size = w.heap.size + 4 := by rw [<- e4]; simp [z3]
 have k1 : ∀ j, w1.cell? ⟨w.heap.size, j, none⟩ = #[s0, s1, s2, s3, s4, s5, s6][j]? := fun j => by rw [<- e1]; exact L0b _ _ _ _
 have k2 : ∀ j, w2.cell? ⟨w1.heap.size, j, none⟩ = #[d0, d1][j]? := fun j => by rw [<- e2]; exact L0b _ _ _ _
 have k3 : ∀ j, w3.cell? ⟨w2.heap.size, j, none⟩ = #[f0, f1][j]? := fun j => by rw [<- e3]; exact L0b _ _ _ _
 have k4 : ∀ j, w4.cell? ⟨w3.heap.size, j, none⟩ = #[l0, l1][j]? := fun j => by rw [<- e4]; exact L0b _ _ _ _
 have b1 : Below w.heap.size w w1 := e1 ▸ (L0m _ _).alloc (L0f _) _
 have b2 : Below w1.heap.size w1 w2 := e2 ▸ (L0m _ _).alloc (L0f _) _
 have b3 : Below w2.heap.size w2 w3 := e3 ▸ (L0m _ _).alloc (L0f _) _
 have b4 : Below w3.heap.size w3 w4 := e4 ▸ (L0m _ _).alloc (L0f _) _
 have q1 : ∀ j, w4.cell? ⟨w.heap.size, j, none⟩ = #[s0, s1, s2, s3, s4, s5, s6][j]? := fun j => (b4.cell (p := ⟨w.heap.size, j, none⟩) (by show w.heap.size < _; omega)).trans ((b3.cell (p := ⟨w.heap.size, j, none⟩) (by show w.heap.size < _; omega)).trans ((b2.cell (p := ⟨w.heap.size, j, none⟩) (by show w.heap.size < _; omega)).trans (k1 j)))
 have q2 : ∀ j, w4.cell? ⟨w1.heap.size, j, none⟩ = #[d0, d1][j]? := fun j => (b4.cell (p := ⟨w1.heap.size, j, none⟩) (by show w1.heap.size < _; omega)).trans ((b3.cell (p := ⟨w1.heap.size, j, none⟩) (by show w1.heap.size < _; omega)).trans (k2 j))
 have q3 : ∀ j, w4.cell? ⟨w2.heap.size, j, none⟩ = #[f0, f1][j]? := fun j => (b4.cell (p := ⟨w2.heap.size, j, none⟩) (by show w2.heap.size < _; omega)).trans (k3 j)
 rw [e1, e2, e3, e4]
 rw [z1] at q2
 rw [z2] at q3
 rw [z3] at k4
 exact ⟨w4, rfl, L0 (b1.trans ((b2.trans ((b3.trans (b4.mono (by omega))).mono (by omega))).mono (by omega))), L0 z4, q1 1, q1 5, q2 0, q2 1, q3 0, q3 1, k4 0, k4 1⟩
theorem Y8i {x : Ses} {d : Did} {b1 b2 : Bk} {S : Nat -> Prop} {D B G Q E F A1 B1 A2 B2 : Option Addr} {dc bc gc qc ec fc a1 c1 a2 c2 : Nat} (w : World) (hx : rSes.rel w S [.bool x.opn, .bool x.strict, .int .i64 x.frm, .slice D x.mine.doms.length dc, .slice B x.mine.tabs.length bc, .slice G x.gone.length gc, .slice Q x.read.length qc] x) (_hd : rDid.rel w S [.slice E d.acts.length ec, .slice F d.reps.length fc] d) (h1 : rBk.rel w S [.slice A1 b1.doms.length a1, .slice B1 b1.tabs.length c1] b1) (h2 : rBk.rel w S [.slice A2 b2.doms.length a2, .slice B2 b2.tabs.length c2] b2) (he : Y57 x d b1 b2) (hw : LibW w) (hp : PolW w) :
  Calls Tryz.prog 18 #[.agg #[.bool x.opn, .bool x.strict, .int .i64 x.frm, .slice D x.mine.doms.length dc, .slice B x.mine.tabs.length bc, .slice G x.gone.length gc, .slice Q x.read.length qc], .agg #[.slice E d.acts.length ec, .slice F d.reps.length fc], .agg #[.slice A1 b1.doms.length a1, .slice B1 b1.tabs.length c1], .agg #[.slice A2 b2.doms.length a2, .slice B2 b2.tabs.length c2]] w fun e w' => e = .returned (.bool true) /\ Below w.heap.size w w' := by
 have HQ : Hid (∀ s ∈ x.gone, Z1c b2 s = Z1c b1 s) := L0 (by
  obtain ⟨st, now, k, a, hg, hk4, ho, h200, h6, hn, hc, rfl, rfl, rfl, rfl⟩ := he
  exact fun s hs => (Y3a hg ho (Y6y hn hk4 ho h200 h6 hc) s hs).symm)
 obtain ⟨X, e1, HB1, HZ1, _, p5, _, _, f0, f1, l0, l1⟩ := X2r w (.bool x.opn) (.bool x.strict) (.int .i64 x.frm) (.slice D x.mine.doms.length dc) (.slice B x.mine.tabs.length bc) (.slice G x.gone.length gc) (.slice Q x.read.length qc) (.slice E d.acts.length ec) (.slice F d.reps.length fc) (.slice A1 b1.doms.length a1) (.slice B1 b1.tabs.length c1) (.slice A2 b2.doms.length a2) (.slice B2 b2.tabs.length c2)
 have HG : Hid (Elems rStr X S G x.gone /\ x.gone.length <= 8796093022208) := L0 (by
  obtain ⟨_, _, g, _, e, _, _, _, hg, _⟩ := hx
  simp only [L1j, and_true, true_and] at e
  obtain ⟨_, _, rfl, _⟩ := e
  obtain ⟨G', gc', e2, _, _, hby, hE⟩ := rSl.elems hg
  injection e2 with e2 _ _
  subst e2
  exact ⟨hE.keep (.of_below HB1.out), by simp only [rStr] at hby; omega⟩)
 have hgl := HG.out.2
 have HL1 := L0 h1
 have HL2 := L0 h2
 have HW := L0 hw
 have HP := L0 hp
 have HOLD : Hid (∀ wr, Below X.heap.size X wr -> wr.cell? ⟨w.heap.size + 2, 0, none⟩ = some (.slice A1 b1.doms.length a1) /\ wr.cell? ⟨w.heap.size + 2, 1, none⟩ = some (.slice B1 b1.tabs.length c1) /\ wr.cell? ⟨w.heap.size + 3, 0, none⟩ = some (.slice A2 b2.doms.length a2) /\ wr.cell? ⟨w.heap.size + 3, 1, none⟩ = some (.slice B2 b2.tabs.length c2)) := L0 fun wr hb => by
  have hz := HZ1.out
  exact ⟨(hb.cell (p := ⟨w.heap.size + 2, 0, none⟩) (by show w.heap.size + 2 < _; omega)).trans f0, (hb.cell (p := ⟨w.heap.size + 2, 1, none⟩) (by show w.heap.size + 2 < _; omega)).trans f1, (hb.cell (p := ⟨w.heap.size + 3, 0, none⟩) (by show w.heap.size + 3 < _; omega)).trans l0, (hb.cell (p := ⟨w.heap.size + 3, 1, none⟩) (by show w.heap.size + 3 < _; omega)).trans l1⟩
 clear hx h1 h2 he hw hp f0 f1 l0 l1
 go_enter Tryz.func18, Tryz.ntmps18
 go_wp2
 clear e1 p5
 go_loopw [14] (fun i wr => ∃ k : Nat, k <= x.gone.length /\ i = .int .i64 k /\ Hid (Below X.heap.size X wr)) (fun i _ => x.gone.length - (intOf i).toNat)
 case atStart => exact ⟨0, L0o _, rfl, L0 (L0m _ _)⟩
 case round =>
  obtain ⟨k, hk, rfl, HB⟩ := hrel
  by_cases hlt : k < x.gone.length
  ·obtain ⟨f0, f1, l0, l1⟩ := HOLD.out wr HB.out
   obtain ⟨q, o, s, rfl, _, hq, hx, hsl, g0⟩ := HG.out.1.str hlt
   rw [<- HB.out.ce _ hq] at g0
   have hq' : q < wr.heap.size := L0c hq HB.out.size
   have hz2 : w.heap.size + 2 < wr.heap.size := L0e _ _ f0
   have hz3 : w.heap.size + 3 < wr.heap.size := L0e _ _ l0
   have hik : (k : Int) < (x.gone.length : Int) := by omega
   have HBW := L0 (HB1.out.trans (HB.out.mono HB1.out.size))
   have HCa := L0 fun w' (hb : Below wr.heap.size wr w') => Z5y s w' (Rd.below HL1.out (HBW.out.trans (hb.mono HBW.out.size))) hsl (HW.out.below (HBW.out.trans (hb.mono HBW.out.size))) (HP.out.below (HBW.out.trans (hb.mono HBW.out.size)))
   have HCb := L0 fun w' (hb : Below wr.heap.size wr w') => Z5y s w' (Rd.below HL2.out (HBW.out.trans (hb.mono HBW.out.size))) hsl (HW.out.below (HBW.out.trans (hb.mono HBW.out.size))) (HP.out.below (HBW.out.trans (hb.mono HBW.out.size)))
   rw [HQ.out s (L0v hx)] at HCb
   clear hx hsl hq
   go_wp2
   refine wp_region_quiet_below (by kernel_rfl) (by kernel_rfl) ?_
   repeat (go_big_quiet_step (first | with_reducible exact Calls.inBelow HCa.out _ _ | with_reducible exact Calls.inBelow HCb.out _ _))
   refine wpQuiet_nil ?_
   intro _ hw'
   obtain ⟨⟨dq, osq⟩, hw''⟩ := hw'
   subst hw''
   go_wp2
   go_roundw
   case rel => exact ⟨k + 1, by omega, by go_num, L0 (HB.out.trans ((below_regrown _ _ _).mono HB.out.size))⟩
   case measure => simp [intOf]; omega
  ·have hik : ¬ (k : Int) < (x.gone.length : Int) := by omega
   go_wp2
   go_ret
   exact ⟨rfl, HB1.out.trans (HB.out.mono HB1.out.size)⟩
theorem X0r {x : Ses} {d : Did} {b1 b2 : Bk} {S : Nat -> Prop} {D B G Q E F A1 B1 A2 B2 : Option Addr} {dc bc gc qc ec fc a1 c1 a2 c2 : Nat} {f : Nat} (w : World) (ho : x.opn = true) (hf : x.frm = (f : Int)) (hx : rSes.rel w S [.bool true, .bool x.strict, .int .i64 f, .slice D x.mine.doms.length dc, .slice B x.mine.tabs.length bc, .slice G x.gone.length gc, .slice Q x.read.length qc] x) (hd : rDid.rel w S [.slice E d.acts.length ec, .slice F d.reps.length fc] d) (h1 : rBk.rel w S [.slice A1 b1.doms.length a1, .slice B1 b1.tabs.length c1] b1) (h2 : rBk.rel w S [.slice A2 b2.doms.length a2, .slice B2 b2.tabs.length c2] b2) (he : Y57 x d b1 b2) (hw : LibW w) (hp : PolW w) :
  Calls Tryz.prog 18 #[.agg #[.bool true, .bool x.strict, .int .i64 f, .slice D x.mine.doms.length dc, .slice B x.mine.tabs.length bc, .slice G x.gone.length gc, .slice Q x.read.length qc], .agg #[.slice E d.acts.length ec, .slice F d.reps.length fc], .agg #[.slice A1 b1.doms.length a1, .slice B1 b1.tabs.length c1], .agg #[.slice A2 b2.doms.length a2, .slice B2 b2.tabs.length c2]] w fun e w' => e = .returned (.bool true) /\ Below w.heap.size w w' := by
 have h := Y8i w (x := x) (by rw [ho, hf]; exact hx) hd h1 h2 he hw hp
 rwa [ho, hf] at h
