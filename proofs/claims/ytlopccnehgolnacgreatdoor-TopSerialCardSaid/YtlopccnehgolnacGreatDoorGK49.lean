import Derived.Test.YtlopccnehgolnacGreatDoorGK47
import Derived.Test.YtlopccnehgolnacGreatDoorGK45
import Derived.Deep.MidRow
import Derived.BigQuiet
import Derived.Deep.DeepMust
import Derived.Test.YtlopccnehgolnacGreatDoorGK41
import Derived.Test.YtlopccnehgolnacGreatDoorAskS
import Derived.Test.YtlopccnehgolnacGreatDoorWo
import Derived.Test.YtlopccnehgolnacGreatDoorGK30
import Derived.Deep.RegionHeld3
import Derived.Deep.DeepCutAuto
namespace Go.Proofs.YtlopccnehgolnacGreatDoor
open Go.RowKit Rb
open Rd renaming below -> jA
set_option maxRecDepth 100000
set_option maxHeartbeats 25600000
theorem Y9r {w : World} {X o : Nat} {T T' : Nat -> Prop} {x x' : Ses} {v0 v1 v2 v3 v4 v5 v6 : Value} (hx : SesAt w X o T x) (hr : rSes.rel w T' [v0, v1, v2, v3, v4, v5, v6] x') (hT : ¬ T' X) :
  ∃ W, ((((((w.setCell (zn X o) v0).setCell (zn X (o + 1)) v1).setCell (zn X (o + 2)) v2).setCell (zn X (o + 3)) v3).setCell (zn X (o + 4)) v4).setCell (zn X (o + 5)) v5).setCell (zn X (o + 6)) v6 = W /\ Hid (SesAt W X o T' x') /\ Hid (Wrote X o w W) /\ Hid (W.heap.size = w.heap.size) := by
 obtain ⟨D, dc, B, bc, G, gc, R, rc, _, c0, c1, c2, c3, c4, c5, c6⟩ := hx.out
 refine ⟨_, rfl, L0 ⟨[v0, v1, v2, v3, v4, v5, v6], rSes.keep hr (.grown (Z0b [v0, v1, v2, v3, v4, v5, v6] o : w.grownBy (w.setCells X o [v0, v1, v2, v3, v4, v5, v6]) (some X)) fun g hg h => by injection hg with hg; subst hg; exact hT h), fun j u hu => ?_⟩, L0 ?_, L0 (by simp [World.setCell])⟩
 ·match j, hu with
  | 0, hu => obtain rfl := L0s hu; exact (cso).trans ((cso).trans ((cso).trans ((cso).trans ((cso).trans ((cso).trans (L0e _ _ _ c0))))))
  | 1, hu => obtain rfl := L0s hu; exact (cso).trans ((cso).trans ((cso).trans ((cso).trans ((cso).trans (L0e _ _ _ ((cso).trans c1))))))
  | 2, hu => obtain rfl := L0s hu; exact (cso).trans ((cso).trans ((cso).trans ((cso).trans (L0e _ _ _ ((cso).trans ((cso).trans c2))))))
  | 3, hu => obtain rfl := L0s hu; exact (cso).trans ((cso).trans ((cso).trans (L0e _ _ _ ((cso).trans ((cso).trans ((cso).trans c3))))))
  | 4, hu => obtain rfl := L0s hu; exact (cso).trans ((cso).trans (L0e _ _ _ ((cso).trans ((cso).trans ((cso).trans ((cso).trans c4))))))
  | 5, hu => obtain rfl := L0s hu; exact (cso).trans (L0e _ _ _ ((cso).trans ((cso).trans ((cso).trans ((cso).trans ((cso).trans c5))))))
  | 6, hu => obtain rfl := L0s hu; exact L0e _ _ _ ((cso).trans ((cso).trans ((cso).trans ((cso).trans ((cso).trans ((cso).trans c6))))))
  | j + 7, hu => simp at hu
 exact ((((((Wrote.set 0 (by decide) _).trans (.set 1 (by decide) _)).trans (.set 2 (by decide) _)).trans (.set 3 (by decide) _)).trans (.set 4 (by decide) _)).trans (.set 5 (by decide) _)).trans (.set 6 (by decide) _)
def rDid : Rd Did where
 k := 2
 bytes := 48
 rel w S cs x := ∃ v u, cs = [v, u] /\ (rSl rAcn).rel w S [v] x.acts /\ (rSl rRep).rel w S [u] x.reps
 len h := by obtain ⟨v, u, rfl, _⟩ := h; rfl
 keep h hk := by obtain ⟨v, u, e, h1, h2⟩ := h; exact ⟨v, u, e, (rSl rAcn).keep h1 hk, (rSl rRep).keep h2 hk⟩
 mono h hk := by obtain ⟨v, u, e, h1, h2⟩ := h; exact ⟨v, u, e, (rSl rAcn).mono h1 hk, (rSl rRep).mono h2 hk⟩
 one h u hu := by
  obtain ⟨v, u', rfl, h1, h2⟩ := h
  simp at hu
  rcases hu with rfl | rfl
  ·exact (rSl rAcn).one h1 _ (by simp)
  exact (rSl rRep).one h2 _ (by simp)
structure NowAt (w0 w : World) (N : Nat) (R : Nat -> Prop) (s : Nat -> Value) (now : Nat -> Did) : Prop where
 cell : ∀ j, j < 8 -> w.cell? (zn N j) = some (s j)
 acts : ∀ j, j < 4 -> OwnS rAcn 24 w w0.heap.size R (s (j * 2)) (now j).acts
 reps : ∀ j, j < 4 -> OwnS rRep 30 w w0.heap.size R (s (j * 2 + 1)) (now j).reps
 apart : ∀ i j, i < 8 -> j < 8 -> i ≠ j -> ∀ g, (s i).ownBlock = some g -> (s j).ownBlock ≠ some g
 ne : ∀ i, i < 8 -> (s i).ownBlock ≠ some N
 lt : N < w.heap.size
 nr : ¬ R N
 rw : ∀ q, R q -> q < w.heap.size
 frz : ∀ j, w.frozen? (zn N j) = false
section
variable {w0 w w' w1 : World} {N sb : Nat} {C T C' T' R R' : Nat -> Prop} {s : Nat -> Value} {now now' : Nat -> Did} {st st' : Sto}
theorem NowAt.keep (h : NowAt w0 w N R s now) (hk : Keeps (fun q => R q \/ q = N \/ ∃ i, i < 8 /\ (s i).ownBlock = some q) w w') (hz : w.heap.size <= w'.heap.size) : NowAt w0 w' N R s now :=
 ⟨fun j hj => hk.cell (a := (zn N j)) (.inr (.inl rfl)) (h.cell j hj), fun j hj => (h.acts j hj).keeps fun b hb hl => hk b (hb.imp id fun e => .inr ⟨j * 2, by omega, e⟩) hl,
 fun j hj => (h.reps j hj).keeps fun b hb hl => hk b (hb.imp id fun e => .inr ⟨j * 2 + 1, by omega, e⟩) hl, h.apart, h.ne, L0c h.lt hz, h.nr, fun q hq => L0c (h.rw q hq) hz,
 fun j => (L1a (a := (zn N j)) (hk N (.inr (.inl rfl)) h.lt)).trans (h.frz j)⟩
theorem NowAt.below (h : NowAt w0 w N R s now) (hb : Bw w w') : NowAt w0 w' N R s now := h.keep (.of_below hb) hb.size
theorem NowAt.row (h : NowAt w0 w N R s now) {i : Nat} (hi : i < 8) {g : Nat} (hg : (s i).ownBlock = some g) : w0.heap.size <= g /\ g < w.heap.size /\ ¬ R g := by
 rcases Nat.mod_two_eq_zero_or_one i with h0 | h0
 ·have e : i = i / 2 * 2 := by omega
  rw [e] at hg
  have ho := h.acts (i / 2) (by omega)
  obtain ⟨_, _, k2, _⟩ := id ho
  exact ⟨(ho.lt g hg).1, (ho.lt g hg).2, k2 g hg⟩
 have e : i = i / 2 * 2 + 1 := by omega
 rw [e] at hg
 have ho := h.reps (i / 2) (by omega)
 obtain ⟨_, _, k2, _⟩ := id ho
 exact ⟨(ho.lt g hg).1, (ho.lt g hg).2, k2 g hg⟩
theorem NowAt.wide (h : NowAt w0 w N R s now) (hR : ∀ q, R q -> R' q) (hn : ¬ R' N) (hw : ∀ q, R' q -> q < w.heap.size) (ho : ∀ i, i < 8 -> ∀ g, (s i).ownBlock = some g -> ¬ R' g) : NowAt w0 w N R' s now :=
 ⟨h.cell, fun j hj => (h.acts j hj).wide (fun b hb _ => hR b hb) (ho _ (by omega)), fun j hj => (h.reps j hj).wide (fun b hb _ => hR b hb) (ho _ (by omega)), h.apart, h.ne, h.lt, hn, hw, h.frz⟩
theorem NowAt.did (h : NowAt w0 w N R s now) {k : Nat} (hk : k < 4) : rDid.rel w (fun q => q < w.heap.size) [s (k * 2), s (k * 2 + 1)] (now k) :=
 ⟨_, _, rfl, (rSl rAcn).mono ((h.acts k hk).self.rel (by decide)) fun _ _ h => h, (rSl rRep).mono ((h.reps k hk).self.rel (by decide)) fun _ _ h => h⟩
def upd (s : Nat -> Value) (i : Nat) (u : Value) : Nat -> Value := fun j => if j = i then u else s j
theorem Z46 (s : Nat -> Value) (i : Nat) (u : Value) : upd s i u i = u := if_pos rfl
theorem Z7p {s : Nat -> Value} {i j : Nat} {u : Value} (h : j ≠ i) : upd s i u j = s j := if_neg h
theorem NowAt.put (h : NowAt w0 w N R s now) {i0 : Nat} (hi : i0 < 8) {u : Value} (hg : w.grownBy w1 (s i0).ownBlock) (hu : ∀ g, u.ownBlock = some g -> (s i0).ownBlock = some g \/ g = w.heap.size)
  (ha : ∀ j, j < 4 -> (j * 2 = i0 -> OwnS rAcn 24 w1 w0.heap.size R u (now' j).acts) /\ (j * 2 ≠ i0 -> (now' j).acts = (now j).acts))
  (hr : ∀ j, j < 4 -> (j * 2 + 1 = i0 -> OwnS rRep 30 w1 w0.heap.size R u (now' j).reps) /\ (j * 2 + 1 ≠ i0 -> (now' j).reps = (now j).reps)) : NowAt w0 (w1.setCell (zn N i0) u) N R (upd s i0 u) now' := by
 have hgs : w1.grownBy (w1.setCell (zn N i0) u) (some N) := Z0b [u] i0
 have hz := hg.size
 have huN : u.ownBlock ≠ some N := fun e => by
  rcases hu N e with h1 | h1
  ·exact h.ne i0 hi h1
  have := h.lt; omega
 have hkN : ∀ K : Nat -> Prop, ¬ K N -> Keeps K w1 (w1.setCell (zn N i0) u) := fun K hK => .grown hgs fun g hg h => by injection hg with hg; exact hK (hg ▸ h)
 have hkj : ∀ j, j < 8 -> j ≠ i0 -> Keeps (fun b => R b \/ (s j).ownBlock = some b) w (w1.setCell (zn N i0) u) := fun j hj hne => by
  refine Keeps.trans (w' := w1) (.grown hg fun g hg hK => ?_) (hkN _ fun hK => hK.elim h.nr (h.ne j hj))
  rcases hK with hK | hK
  ·exact (h.row hi hg).2.2 hK
  exact h.apart i0 j hi hj (fun e => hne e.symm) g hg hK
 refine ⟨fun j hj => ?_, fun j hj => ?_, fun j hj => ?_, fun i j hii hj hne g hgi hgj => ?_, fun i hii => ?_, L0c h.lt (L0h hz hgs.size), h.nr, fun q hq => L0c (h.rw q hq) (L0h hz hgs.size), fun j => ?_⟩
 ·by_cases hji : j = i0
  ·subst hji
   rw [Z46]
   exact L0e _ _ _ (hg.cell (h.cell j hj) fun e => h.ne j hj e.symm)
  rw [Z7p hji]
  exact (cso (by simp; omega)).trans (hg.cell (h.cell j hj) fun e => h.ne i0 hi e.symm)
 ·by_cases hji : j * 2 = i0
  ·rw [hji, Z46]
   exact ((ha j hj).1 hji).keeps (hkN _ fun hK => hK.elim h.nr huN)
  rw [Z7p hji, (ha j hj).2 hji]
  exact (h.acts j hj).keeps (hkj _ (by omega) hji)
 ·by_cases hji : j * 2 + 1 = i0
  ·rw [hji, Z46]
   exact ((hr j hj).1 hji).keeps (hkN _ fun hK => hK.elim h.nr huN)
  rw [Z7p hji, (hr j hj).2 hji]
  exact (h.reps j hj).keeps (hkj _ (by omega) hji)
 ·by_cases h1 : i = i0
  ·subst h1
   rw [Z46] at hgi
   rw [Z7p fun e => hne e.symm] at hgj
   rcases hu g hgi with h2 | h2
   ·exact h.apart i j hii hj hne g h2 hgj
   have := (h.row hj hgj).2.1; omega
  rw [Z7p h1] at hgi
  by_cases h2 : j = i0
  ·subst h2
   rw [Z46] at hgj
   rcases hu g hgj with h3 | h3
   ·exact h.apart i j hii hj hne g hgi h3
   have := (h.row hii hgi).2.1; omega
  rw [Z7p h2] at hgj
  exact h.apart i j hii hj hne g hgi hgj
 ·by_cases h1 : i = i0
  ·rw [h1, Z46]
   exact huN
  rw [Z7p h1]
  exact h.ne i hii
 rw [L0k]
 exact (L1a (a := (zn N j)) (hg.block N h.lt fun e => h.ne i0 hi e.symm)).trans (h.frz j)
structure SInv (w0 w : World) (N sb : Nat) (C T R : Nat -> Prop) (s : Nat -> Value) (st : Sto) (now : Nat -> Did) : Prop where
 sto : At w0 w sb C T st
 now : NowAt w0 w N R s now
 rc : ∀ q, R q -> ¬ C q
 nc : ∀ q, (q = N \/ ∃ i, i < 8 /\ (s i).ownBlock = some q) -> ¬ C q /\ ¬ T q
theorem SInv.lt (h : SInv w0 w N sb C T R s st now) {q : Nat} (hq : R q \/ q = N \/ ∃ i, i < 8 /\ (s i).ownBlock = some q) : q < w.heap.size := by
 rcases hq with h1 | h1 | ⟨i, h1, h2⟩
 ·exact h.now.rw q h1
 ·exact h1 ▸ h.now.lt
 exact (h.now.row h1 h2).2.1
theorem SInv.below (h : SInv w0 w N sb C T R s st now) (hb : Bw w w') : SInv w0 w' N sb C T R s st now := ⟨h.sto.below hb, h.now.below hb, h.rc, h.nc⟩
theorem SInv.act (h : SInv w0 w N sb C T R s st now) (ha : At w0 w' sb C' T' st') (hc : Chg C w w') (hC : ∀ q, C' q -> C q \/ w.heap.size <= q) (hT : ∀ q, T' q -> T q \/ w.heap.size <= q) : SInv w0 w' N sb C' T' R s st' now :=
 ⟨ha, h.now.keep (hc.keeps fun b hb hC => hb.elim (fun h1 => h.rc b h1 hC) fun h1 => (h.nc b h1).1 hC) hc.size,
 fun q hq hn => (hC q hn).elim (h.rc q hq) fun h1 => by have := h.lt (.inl hq); omega,
 fun q hq => ⟨fun hn => (hC q hn).elim (h.nc q hq).1 fun h1 => by have := h.lt (.inr hq); omega, fun hn => (hT q hn).elim (h.nc q hq).2 fun h1 => by have := h.lt (.inr hq); omega⟩⟩
theorem SInv.wide (h : SInv w0 w N sb C T R s st now) (hN : w0.heap.size <= N) {n : Nat} (hn : ∀ q, (q = N \/ ∃ i, i < 8 /\ (s i).ownBlock = some q) -> q < n) (hR : ∀ q, R q -> R' q) (hR1 : ∀ q, R' q -> R q \/ (q < w0.heap.size \/ n <= q) /\ q < w.heap.size /\ ¬ C q) : SInv w0 w N sb C T R' s st now := by
 refine ⟨h.sto, h.now.wide hR (fun h1 => ?_) (fun q hq => (hR1 q hq).elim (h.now.rw q) fun h1 => h1.2.1) fun i hi g hg h1 => ?_, fun q hq => (hR1 q hq).elim (h.rc q) fun h1 => h1.2.2, h.nc⟩
 ·rcases hR1 N h1 with h2 | h2
  ·exact h.now.nr h2
  have := hn N (.inl rfl); omega
 rcases hR1 g h1 with h2 | h2
 ·exact (h.now.row hi hg).2.2 h2
 have := hn g (.inr ⟨i, hi, hg⟩); have := (h.now.row hi hg).1; omega
theorem SInv.put (h : SInv w0 w N sb C T R s st now) (hl : LibW w0) (hp : PolW w0) (hN : w0.heap.size <= N) {i0 : Nat} (hi : i0 < 8) {u : Value} (hg : w.grownBy w1 (s i0).ownBlock) (hu : ∀ g, u.ownBlock = some g -> (s i0).ownBlock = some g \/ g = w.heap.size)
  (ha : ∀ j, j < 4 -> (j * 2 = i0 -> OwnS rAcn 24 w1 w0.heap.size R u (now' j).acts) /\ (j * 2 ≠ i0 -> (now' j).acts = (now j).acts))
  (hr : ∀ j, j < 4 -> (j * 2 + 1 = i0 -> OwnS rRep 30 w1 w0.heap.size R u (now' j).reps) /\ (j * 2 + 1 ≠ i0 -> (now' j).reps = (now j).reps)) : SInv w0 (w1.setCell (zn N i0) u) N sb C T R (upd s i0 u) st now' := by
 have hA1 : At w0 w1 sb C T st := h.sto.grown hl hp hg fun g hg => ⟨(h.now.row hi hg).1, h.nc g (.inr ⟨i0, hi, hg⟩)⟩
 refine ⟨hA1.grown hl hp (Z0b [u] i0 : w1.grownBy (w1.setCell (zn N i0) u) (some N)) fun g hg => ?_, h.now.put hi hg hu ha hr, h.rc, fun q hq => ?_⟩
 ·injection hg with hg
  subst hg
  exact ⟨hN, h.nc _ (.inl rfl)⟩
 rcases hq with h1 | ⟨i, h1, h2⟩
 ·exact h.nc q (.inl h1)
 by_cases h3 : i = i0
 ·rw [h3, Z46] at h2
  rcases hu q h2 with h4 | h4
  ·exact h.nc q (.inr ⟨i0, hi, h4⟩)
  exact ⟨fun h5 => by have := h.sto.sto.cw q h5; omega, fun h5 => by have := h.sto.sto.tw q h5; omega⟩
 rw [Z7p h3] at h2
 exact h.nc q (.inr ⟨i, h1, h2⟩)
theorem SInv.putA (h : SInv w0 w N sb C T R s st now) (hl : LibW w0) (hp : PolW w0) (hN : w0.heap.size <= N) {k : Nat} (hk : k < 4) {u : Value} {xs : List Acn} (hg : w.grownBy w1 (s (k * 2)).ownBlock) (hu : ∀ g, u.ownBlock = some g -> (s (k * 2)).ownBlock = some g \/ g = w.heap.size) (ho : OwnS rAcn 24 w1 w0.heap.size R u xs) :
  SInv w0 (w1.setCell (zn N (k * 2)) u) N sb C T R (upd s (k * 2) u) st (fun j => if j = k then ⟨xs, (now j).reps⟩ else now j) := by
 refine h.put hl hp hN (by omega) hg hu (fun j _ => ⟨fun e => ?_, fun e => ?_⟩) fun j _ => ⟨fun e => by omega, fun _ => ?_⟩
 ·rw [if_pos (by omega)]
  exact ho
 ·rw [if_neg (by omega)]
 split <;> rfl
theorem SInv.putR (h : SInv w0 w N sb C T R s st now) (hl : LibW w0) (hp : PolW w0) (hN : w0.heap.size <= N) {k : Nat} (hk : k < 4) {u : Value} {xs : List Rep} (hg : w.grownBy w1 (s (k * 2 + 1)).ownBlock) (hu : ∀ g, u.ownBlock = some g -> (s (k * 2 + 1)).ownBlock = some g \/ g = w.heap.size) (ho : OwnS rRep 30 w1 w0.heap.size R u xs) :
  SInv w0 (w1.setCell (zn N (k * 2 + 1)) u) N sb C T R (upd s (k * 2 + 1) u) st (fun j => if j = k then ⟨(now j).acts, xs⟩ else now j) := by
 refine h.put hl hp hN (by omega) hg hu (fun j _ => ⟨fun e => by omega, fun _ => ?_⟩) fun j _ => ⟨fun e => ?_, fun e => ?_⟩
 ·split <;> rfl
 ·rw [if_pos (by omega)]
  exact ho
 rw [if_neg (by omega)]
theorem SInv.zero (h : SInv w0 w N sb C T R s st now) (hl : LibW w0) (hp : PolW w0) (hN : w0.heap.size <= N) {k : Nat} (hk : k < 4) :
  ∃ s', SInv w0 ((w.setCell (zn N (k * 2)) (nl)).setCell (zn N (k * 2 + 1)) (nl)) N sb C T R s' st (fun j => if j = k then ⟨[], []⟩ else now j) := by
 have hg : ∀ (w : World) r, w.grownBy w r := fun w r => ⟨rfl, rfl, rfl, L0g _, fun _ _ _ => rfl⟩
 have h1 := h.putA (w1 := w) hl hp hN hk (u := nl) (xs := []) (hg _ _) (fun g e => by simp [Value.ownBlock] at e) (.nil _ _ _ _ _)
 have h2 := h1.putR hl hp hN hk (u := nl) (xs := []) (hg _ _) (fun g e => by simp [Value.ownBlock] at e) (.nil _ _ _ _ _)
 have e : (fun j => if j = k then (⟨[], []⟩ : Did) else now j) = fun j => if j = k then ⟨((fun j => if j = k then (⟨[], (now j).reps⟩ : Did) else now j) j).acts, []⟩ else (fun j => if j = k then (⟨[], (now j).reps⟩ : Did) else now j) j := by
  funext j
  by_cases hj : j = k
  ·simp [hj]
  simp [hj]
 exact ⟨_, e ▸ h2⟩
end
theorem X2b (w : World) (v0 v1 v2 v3 v4 : Value) : ∃ W, (w.alloc (.cells #[v0, v1, v2, v3, v4] 24)).alloc (.cells #[.bool false, .bool false, .int .i64 0, nl, nl, nl, nl] 41) = W /\ Hid (Bw w W) /\ Hid (SesAt W (w.heap.size + 1) 0 (fun _ => False) ses0) /\ Hid (∀ j, W.frozen? (zn (w.heap.size + 1) j) = false) /\ Hid (W.heap.size = w.heap.size + 2) /\
  W.cell? (zn w.heap.size 0) = some v0 /\ W.cell? (zn w.heap.size 1) = some v1 /\ W.cell? (zn w.heap.size 2) = some v2 /\ W.cell? (zn w.heap.size 3) = some v3 /\ W.cell? (zn w.heap.size 4) = some v4 := by
 have z1 : (w.alloc (.cells #[v0, v1, v2, v3, v4] 24)).heap.size = w.heap.size + 1 := by simp
 have hb : Bw w (w.alloc (.cells #[v0, v1, v2, v3, v4] 24)) := (L0m _ _).alloc (L0g _) _
 have k : ∀ j, ((w.alloc (.cells #[v0, v1, v2, v3, v4] 24)).alloc (.cells #[.bool false, .bool false, .int .i64 0, nl, nl, nl, nl] 41)).cell? (zn w.heap.size j) = #[v0, v1, v2, v3, v4][j]? := fun j => (L0j _ _ _ (by simp)).trans (L0b _ _ _ _)
 refine ⟨_, rfl, L0 (hb.alloc (by simp) _), L0 ⟨[.bool false, .bool false, .int .i64 0, nl, nl, nl, nl], ⟨_, _, _, _, rfl, (show InI 0 from ⟨by decide, by decide⟩), Z01 _ _, Z01 _ _, Z01 _ _, Z01 _ _⟩, fun j u hu => ?_⟩, L0 fun j => ?_, L0 (by simp), k 0, k 1, k 2, k 3, k 4⟩
 ·rw [<- z1, L4x]
  refine (L0b _ _ _ _).trans ?_
  rw [<- hu]
  exact List.getElem?_toArray
 rw [<- z1]
 simp
theorem X1w {w : World} {X : Nat} {T T' : Nat -> Prop} {x x' : Ses} {v0 v1 v2 v3 v4 v5 v6 : Value} (hx : SesAt w X 0 T x) (hr : rSes.rel w T' [v0, v1, v2, v3, v4, v5, v6] x') (hT : ¬ T' X) :
  ∃ W, ((((((w.setCell (zn X 0) v0).setCell (zn X 1) v1).setCell (zn X 2) v2).setCell (zn X 3) v3).setCell (zn X 4) v4).setCell (zn X 5) v5).setCell (zn X 6) v6 = W /\ Hid (SesAt W X 0 T' x') /\ Hid (Wrote X 0 w W) /\ Hid (W.heap.size = w.heap.size) := Y9r (o := 0) hx hr hT
theorem Y0a {w : World} {X : Nat} {T : Nat -> Prop} {x : Ses} (h : SesAt w X 0 T x) : ∃ D dc B bc G gc Q qc, Hid (rSes.rel w T [.bool x.opn, .bool x.strict, .int .i64 x.frm, .slice D x.mine.doms.length dc, .slice B x.mine.tabs.length bc, .slice G x.gone.length gc, .slice Q x.read.length qc] x) /\
  w.cell? (zn X 0) = some (.bool x.opn) /\ w.cell? (zn X 1) = some (.bool x.strict) /\ w.cell? (zn X 2) = some (.int .i64 x.frm) /\ w.cell? (zn X 3) = some (.slice D x.mine.doms.length dc) /\ w.cell? (zn X 4) = some (.slice B x.mine.tabs.length bc) /\ w.cell? (zn X 5) = some (.slice G x.gone.length gc) /\ w.cell? (zn X 6) = some (.slice Q x.read.length qc) := by
 obtain ⟨D, dc, B, bc, G, gc, Q, qc, h0, h1⟩ := h.out
 exact ⟨D, dc, B, bc, G, gc, Q, qc, L0 h0, h1⟩
theorem Y4d {w W : World} {X : Nat} {T K : Nat -> Prop} {x : Ses} (h : SesAt w X 0 T x) (hk : Keeps K w W) (hT : ∀ q, T q -> K q) (hX : K X) : SesAt W X 0 T x := by
 obtain ⟨xs, h1, h2⟩ := h
 exact ⟨xs, rSes.keep h1 fun b hb hl => hk b (hT b hb) hl, fun j u hu => hk.cell (a := (zn X (0 + j))) hX (h2 j u hu)⟩
theorem X4f {w0 w : World} {N sb : Nat} {C T R : Nat -> Prop} {s : Nat -> Value} {st : Sto} {now now' : Nat -> Did} (h : SInv w0 w N sb C T R s st now) (e : now = now') : SInv w0 w N sb C T R s st now' := e ▸ h
theorem Z7t {w W : World} {K : Nat -> Prop} {q : Nat} {u0 u1 u2 u3 u4 : Value} (h : Keeps K w W) (hq : K q) (g0 : w.cell? (zn q 0) = some u0) (g1 : w.cell? (zn q 1) = some u1) (g2 : w.cell? (zn q 2) = some u2) (g3 : w.cell? (zn q 3) = some u3) (g4 : w.cell? (zn q 4) = some u4) :
  W.cell? (zn q 0) = some u0 /\ W.cell? (zn q 1) = some u1 /\ W.cell? (zn q 2) = some u2 /\ W.cell? (zn q 3) = some u3 /\ W.cell? (zn q 4) = some u4 :=
 ⟨h.cell (a := (zn q 0)) hq g0, h.cell (a := (zn q 1)) hq g1, h.cell (a := (zn q 2)) hq g2, h.cell (a := (zn q 3)) hq g3, h.cell (a := (zn q 4)) hq g4⟩
section
variable {st : Sto} {now : Nat -> Did} {a : Acn}
theorem Y52 (hk : a.kind = 1) (hc : (doS st a).1.code = 0) : ∃ j : Nat, j < 4 /\ (doS st a).1.n = j /\ 0 <= a.n /\ a.n < 4 := by
 by_cases h200 : 200 <= st.acts
 ·unfold doS at hc
  rw [if_pos h200] at hc
  simp [noR] at hc
 have e : doS st a = Z4q st.up a.n := by unfold doS; rw [if_neg h200, if_neg (by omega), if_pos hk]
 rw [e] at hc ⊢
 unfold Z4q at hc ⊢
 by_cases hn : a.n ≠ 0 /\ a.n ≠ 1
 ·rw [if_pos hn] at hc
  simp [noR] at hc
 rw [if_neg hn] at hc ⊢
 revert hc
 cases hf : Y47 st.up with
 | none => intro hc; simp [noR] at hc
 | some k =>
  intro _
  exact ⟨k, L2k.1 (L1s hf), rfl, by omega, by omega⟩
theorem Z1x (h1 : ¬ (a.kind = 1 /\ (doS st a).1.code = 0)) (h2 : ¬ (1 < a.kind /\ a.kind < 6 /\ Y3q st a.n = true)) : Z1h st now a = now := by
 unfold Z1h
 rw [if_neg fun h => h1 ⟨h.1, h.2.1⟩, if_neg h2]
theorem X3n {j : Nat} (hk : a.kind = 1) (hc : (doS st a).1.code = 0) (hj : j < 4) (hn : (doS st a).1.n = j) : Z1h st now a = fun i => if i = j then ⟨[], []⟩ else now i := by
 unfold Z1h
 rw [if_pos ⟨hk, hc, by omega, by omega⟩, hn, L1q]
theorem X3m {k : Nat} (h1 : 1 < a.kind) (h2 : a.kind < 6) (hn : a.n = k) (hk : k < 4) (ho : (st.ses k).opn = true) : Z1h st now a = fun i => if i = k then (now i).add a (doS st a).1 else now i := by
 unfold Z1h
 rw [if_neg (by omega), if_pos ⟨h1, h2, isOpen_at.2 ⟨k, hn, hk, ho⟩⟩, hn, L1q]
theorem Y33 (a : Acn) {n : Nat} (h : ∀ j, (now j).acts.length <= n /\ (now j).reps.length <= n) (j : Nat) : (Z1h st now a j).acts.length <= n + 1 /\ (Z1h st now a j).reps.length <= n + 1 := by
 have hj := h j
 unfold Z1h
 split
 ·dsimp only
  split
  ·exact ⟨L0o _, L0o _⟩
  omega
 split
 ·dsimp only
  split
  ·unfold Did.add
   simp only [L0i, L0p]
   omega
  omega
 omega
end
theorem Z9y (l : List Acn) : ∀ n j, (Z3k l n j).acts.length <= n /\ (Z3k l n j).reps.length <= n
 | 0, _ => ⟨L0g _, L0g _⟩
 | n + 1, j => by
  cases ha : l[n]? with
  | some a =>
   rw [Z74 ha]
   exact Y33 _ (Z9y l n) j
  | none =>
   have e : Z3k l (n + 1) = Z3k l n := by rw [Z3k, ha]
   rw [e]
   have := Z9y l n j
   omega
theorem Y8z (l : List Acn) : ∀ n, n <= 200 -> n <= l.length -> HInv (Z0x l n) (Z3k l n)
 | 0, _, _ => HInv.start
 | n + 1, h, hl => by
  have ha : l[n]? = some l[n] := L0f (by omega)
  rw [Z3r ha, Z74 ha]
  exact (Y8z l n (by omega) (by omega)).step (Y5h l n) (by have := Z6s l n (by omega) (by omega); omega) _
theorem X1h (w : World) : ∃ W1, w.alloc (.cells #[nl, nl, nl, nl, nl, nl, nl, nl] 91) = W1 /\ Hid (Bw w W1) /\ Hid (NowAt w W1 w.heap.size (fun _ => False) (fun _ => nl) (fun _ => ⟨[], []⟩)) := by
 refine ⟨_, rfl, L0 bA, L0 ⟨fun j hj => (L0b _ _ _ _).trans ?_, fun j _ => .nil _ _ _ _ _, fun j _ => .nil _ _ _ _ _, fun i j _ _ _ g hg => by simp [Value.ownBlock] at hg, fun i _ => by simp [Value.ownBlock], by simp, id, fun q hq => hq.elim, fun j => by simp⟩⟩
 have hj' : j = 0 \/ j = 1 \/ j = 2 \/ j = 3 \/ j = 4 \/ j = 5 \/ j = 6 \/ j = 7 := by omega
 rcases hj' with rfl | rfl | rfl | rfl | rfl | rfl | rfl | rfl <;> rfl
theorem SInv.first {w w1 w2 : World} {sb : Nat} {C T : Nat -> Prop} {s : Nat -> Value} {now : Nat -> Did} {st : Sto} (hn : NowAt w w1 w.heap.size (fun _ => False) s now) (hs : ∀ i, s i = nl) (ha : At w1 w2 sb C T st) (hb : Bw w w1) : SInv w w2 w.heap.size sb C T (fun _ => False) s st now := by
 refine ⟨ha.lower hb, hn.below ha.bl, fun q hq => hq.elim, fun q hq => ?_⟩
 have hl := hn.lt
 rcases hq with h1 | ⟨i, _, h1⟩
 ·exact ⟨fun h => by have := ha.cn q h; omega, fun h => by have := ha.tn q h; omega⟩
 rw [hs i] at h1
 simp [Value.ownBlock] at h1
def X2v (x : Ses) (d : Did) (b1 b2 : Bk) : Prop := ∃ (st : Sto) (now : Nat -> Did) (k : Nat) (a : Acn), SGood st /\ HInv st now /\ k < 4 /\ (st.ses k).opn = true /\ ¬ 200 <= st.acts /\ a.kind = 6 /\ a.n = k /\ (doS st a).1.code = 0 /\ x = st.ses k /\ d = now k /\ b1 = st.at (st.ses k).frm /\ b2 = (st.states[st.states.length - 1]?).getD bk0
theorem X4c (w : World) (s0 s1 s2 s3 s4 s5 s6 d0 d1 f0 f1 l0 l1 : Value) : ∃ X, (((w.alloc (.cells #[s0, s1, s2, s3, s4, s5, s6] 41)).alloc (.cells #[d0, d1] 48)).alloc (.cells #[f0, f1] 38)).alloc (.cells #[l0, l1] 38) = X /\ Hid (Bw w X) /\ Hid (X.heap.size = w.heap.size + 4) /\
  X.cell? (zn w.heap.size 1) = some s1 /\ X.cell? (zn w.heap.size 5) = some s5 /\ X.cell? (zn (w.heap.size + 1) 0) = some d0 /\ X.cell? (zn (w.heap.size + 1) 1) = some d1 /\ X.cell? (zn (w.heap.size + 2) 0) = some f0 /\ X.cell? (zn (w.heap.size + 2) 1) = some f1 /\ X.cell? (zn (w.heap.size + 3) 0) = some l0 /\ X.cell? (zn (w.heap.size + 3) 1) = some l1 := by
 obtain ⟨w1, e1⟩ : ∃ w1, w.alloc (.cells #[s0, s1, s2, s3, s4, s5, s6] 41) = w1 := ⟨_, rfl⟩
 obtain ⟨w2, e2⟩ : ∃ w2, w1.alloc (.cells #[d0, d1] 48) = w2 := ⟨_, rfl⟩
 obtain ⟨w3, e3⟩ : ∃ w3, w2.alloc (.cells #[f0, f1] 38) = w3 := ⟨_, rfl⟩
 obtain ⟨w4, e4⟩ : ∃ w4, w3.alloc (.cells #[l0, l1] 38) = w4 := ⟨_, rfl⟩
 have z1 : w1.heap.size = w.heap.size + 1 := by rw [<- e1]; simp
 have z2 : w2.heap.size = w.heap.size + 2 := by rw [<- e2]; simp [z1]
 have z3 : w3.heap.size = w.heap.size + 3 := by rw [<- e3]; simp [z2]
 have z4 : w4.heap.size = w.heap.size + 4 := by rw [<- e4]; simp [z3]
 have k1 : ∀ j, w1.cell? (zn w.heap.size j) = #[s0, s1, s2, s3, s4, s5, s6][j]? := fun j => by rw [<- e1]; exact L0b _ _ _ _
 have k2 : ∀ j, w2.cell? (zn w1.heap.size j) = #[d0, d1][j]? := fun j => by rw [<- e2]; exact L0b _ _ _ _
 have k3 : ∀ j, w3.cell? (zn w2.heap.size j) = #[f0, f1][j]? := fun j => by rw [<- e3]; exact L0b _ _ _ _
 have k4 : ∀ j, w4.cell? (zn w3.heap.size j) = #[l0, l1][j]? := fun j => by rw [<- e4]; exact L0b _ _ _ _
 have b1 : Bw w w1 := e1 ▸ (L0m _ _).alloc (L0g _) _
 have b2 : Bw w1 w2 := e2 ▸ (L0m _ _).alloc (L0g _) _
 have b3 : Bw w2 w3 := e3 ▸ (L0m _ _).alloc (L0g _) _
 have b4 : Bw w3 w4 := e4 ▸ (L0m _ _).alloc (L0g _) _
 have q1 : ∀ j, w4.cell? (zn w.heap.size j) = #[s0, s1, s2, s3, s4, s5, s6][j]? := fun j => (b4.cell (p := (zn w.heap.size j)) (by show w.heap.size < _; omega)).trans ((b3.cell (p := (zn w.heap.size j)) (by show w.heap.size < _; omega)).trans ((b2.cell (p := (zn w.heap.size j)) (by show w.heap.size < _; omega)).trans (k1 j)))
 have q2 : ∀ j, w4.cell? (zn w1.heap.size j) = #[d0, d1][j]? := fun j => (b4.cell (p := (zn w1.heap.size j)) (by show w1.heap.size < _; omega)).trans ((b3.cell (p := (zn w1.heap.size j)) (by show w1.heap.size < _; omega)).trans (k2 j))
 have q3 : ∀ j, w4.cell? (zn w2.heap.size j) = #[f0, f1][j]? := fun j => (b4.cell (p := (zn w2.heap.size j)) (by show w2.heap.size < _; omega)).trans (k3 j)
 rw [e1, e2, e3, e4]
 rw [z1] at q2
 rw [z2] at q3
 rw [z3] at k4
 exact ⟨w4, rfl, L0 (b1.trans ((b2.trans ((b3.trans (b4.mono (by omega))).mono (by omega))).mono (by omega))), L0 z4, q1 1, q1 5, q2 0, q2 1, q3 0, q3 1, k4 0, k4 1⟩
structure RpAt (n : Nat) (w : World) (X : Nat) (T : Nat -> Prop) (v u g : Value) (x : Rp) : Prop where
 c0 : w.cell? (zn X 0) = some (.bool true)
 c1 : w.cell? (zn X 1) = some (.bool false)
 c2 : w.cell? (zn X 2) = some (.int .i64 0)
 c3 : w.cell? (zn X 3) = some v
 c4 : w.cell? (zn X 4) = some u
 c5 : w.cell? (zn X 5) = some g
 c6 : w.cell? (zn X 6) = some (nl)
 mine : rBk.rel w T [v, u] x.mine
 gone : OwnS rStr 9 w n (fun _ => False) g x.gone
 ng : ∀ q, g.ownBlock = some q -> ¬ T q /\ q ≠ X
 nx : ¬ T X
 lt : X < w.heap.size
 ge : X < n
 tw : ∀ q, T q -> q < w.heap.size
 frz : ∀ j, w.frozen? (zn X j) = false
section
variable {n : Nat} {w w' w1 : World} {X : Nat} {T T' : Nat -> Prop} {v u g v' u' g' : Value} {x : Rp}
theorem RpAt.keep (h : RpAt n w X T v u g x) (hk : Keeps (fun q => T q \/ q = X \/ g.ownBlock = some q) w w') (hz : w.heap.size <= w'.heap.size) : RpAt n w' X T v u g x :=
 have k : ∀ j y, w.cell? (zn X j) = some y -> w'.cell? (zn X j) = some y := fun j _ hy => hk.cell (a := (zn X j)) (.inr (.inl rfl)) hy
 ⟨k 0 _ h.c0, k 1 _ h.c1, k 2 _ h.c2, k 3 _ h.c3, k 4 _ h.c4, k 5 _ h.c5, k 6 _ h.c6, rBk.keep h.mine fun b hb hl => hk b (.inl hb) hl, h.gone.keeps fun b hb hl => hk b (hb.elim False.elim fun e => .inr (.inr e)) hl, h.ng, h.nx, L0c h.lt hz, h.ge,
 fun q hq => L0c (h.tw q hq) hz, fun j => (L1a (a := (zn X j)) (hk X (.inr (.inl rfl)) h.lt)).trans (h.frz j)⟩
theorem RpAt.below (h : RpAt n w X T v u g x) (hb : Bw w w') : RpAt n w' X T v u g x := h.keep (.of_below hb) hb.size
theorem RpAt.shape (h : RpAt n w X T v u g x) : ∃ D dc B bc G gc, v = .slice D x.mine.doms.length dc /\ u = .slice B x.mine.tabs.length bc /\ g = .slice G x.gone.length gc := by
 obtain ⟨v1, u1, e, h1, h2⟩ := h.mine
 simp only [L1f, and_true] at e
 obtain ⟨rfl, rfl⟩ := e
 obtain ⟨D, dc, e1, _⟩ := rSl.elems h1
 obtain ⟨B, bc, e2, _⟩ := rSl.elems h2
 obtain ⟨G, gc, e3⟩ := h.gone.self.value
 exact ⟨D, dc, B, bc, G, gc, e1, e2, e3⟩
theorem RpAt.ses (h : RpAt n w X T v u g x) : rSes.rel w (fun q => q < w.heap.size) [.bool true, .bool false, .int .i64 0, v, u, g, nl] x.ses := by
 obtain ⟨v1, u1, e, h1, h2⟩ := h.mine
 simp only [L1f, and_true] at e
 obtain ⟨rfl, rfl⟩ := e
 exact ⟨_, _, _, _, rfl, (show InI 0 from ⟨by decide, by decide⟩), (rSl rDm).mono h1 fun _ _ h => h, (rSl rTb).mono h2 fun _ _ h => h, (rSl rStr).mono (h.gone.self.rel (by decide)) fun _ _ h => h, Z01 _ _⟩
theorem RpAt.setMine (h : RpAt n w X T v u g x) {b : Bk} (hb : Bw w w1) (hm : rBk.rel w1 T' [v', u'] b) (hT : ∀ q, T' q -> (T q \/ w.heap.size <= q) /\ q < w1.heap.size) :
  ∃ W, (w1.setCell (zn X 3) v').setCell (zn X 4) u' = W /\ Hid (RpAt n W X T' v' u' g ⟨b, x.gone⟩) /\ Hid (w1.grownBy W (some X)) /\ w1.frozen? (zn X 3) = false /\ w1.frozen? (zn X 4) = false /\ (∃ y, w1.cell? (zn X 3) = some y) /\ ∃ y, w1.cell? (zn X 4) = some y := by
 have h1 := h.below hb
 have hg : w1.grownBy ((w1.setCell (zn X 3) v').setCell (zn X 4) u') (some X) := Z0b [v', u'] 3
 have hnx : ¬ T' X := fun e => (hT X e).1.elim h.nx fun e => by have := h.lt; omega
 have k : ∀ (K : Nat -> Prop), ¬ K X -> Keeps K w1 ((w1.setCell (zn X 3) v').setCell (zn X 4) u') := fun K hK => .grown hg fun q hq e => by injection hq with hq; exact hK (hq ▸ e)
 have o : ∀ j y, j ≠ 3 -> j ≠ 4 -> w1.cell? (zn X j) = some y -> ((w1.setCell (zn X 3) v').setCell (zn X 4) u').cell? (zn X j) = some y := fun j y h3 h4 hy =>
  (cso (by simp; omega)).trans ((cso (by simp; omega)).trans hy)
 refine ⟨_, rfl, L0 ⟨o 0 _ (by decide) (by decide) h1.c0, o 1 _ (by decide) (by decide) h1.c1, o 2 _ (by decide) (by decide) h1.c2, ?_, ?_, o 5 _ (by decide) (by decide) h1.c5, o 6 _ (by decide) (by decide) h1.c6, rBk.keep hm (k _ hnx), h1.gone.keeps (k _ fun e => e.elim id fun e => (h.ng X e).2 rfl), fun q hq => ⟨fun e => (hT q e).1.elim (h.ng q hq).1 fun e => by have := (h.gone.lt q hq).2; omega, (h.ng q hq).2⟩, hnx, L0c h1.lt hg.size, h.ge, fun q hq => L0c (hT q hq).2 hg.size, fun j => by rw [L0k, L0k]; exact h1.frz j⟩, L0 hg, h1.frz 3, h1.frz 4, ⟨_, h1.c3⟩, ⟨_, h1.c4⟩⟩
 ·exact (cso).trans (L0e _ _ _ h1.c3)
 exact L0e _ _ _ ((cso).trans h1.c4)
theorem RpAt.setGone (h : RpAt n w X T v u g x) {l : List Txt} {S : Nat -> Prop} (hg : w.grownBy w1 g.ownBlock) (ho : OwnS rStr 9 w1 n S g' l) (hS : ∀ q, ¬ S q) (hn : ∀ q, g'.ownBlock = some q -> g.ownBlock = some q \/ w.heap.size <= q) :
  ∃ W, w1.setCell (zn X 5) g' = W /\ Hid (RpAt n W X T v u g' ⟨x.mine, l⟩) /\ w1.frozen? (zn X 5) = false /\ (∃ y, w1.cell? (zn X 5) = some y) := by
 have hx : g.ownBlock ≠ some X := fun e => (h.ng X e).2 rfl
 have k1 : ∀ j y, w.cell? (zn X j) = some y -> w1.cell? (zn X j) = some y := fun j y hy => hg.cell hy fun e => hx e.symm
 have hgs : w1.grownBy (w1.setCell (zn X 5) g') (some X) := Z0b [g'] 5
 have kX : ∀ (K : Nat -> Prop), ¬ K X -> Keeps K w1 (w1.setCell (zn X 5) g') := fun K hK => .grown hgs fun q hq e => by injection hq with hq; exact hK (hq ▸ e)
 have o : ∀ j y, j ≠ 5 -> w.cell? (zn X j) = some y -> (w1.setCell (zn X 5) g').cell? (zn X j) = some y := fun j y h5 hy => (cso (by simp; omega)).trans (k1 j y hy)
 have hz := hg.size
 have hf : ∀ j, w1.frozen? (zn X j) = false := fun j => (L1a (a := (zn X j)) (hg.block X h.lt fun e => hx e.symm)).trans (h.frz j)
 have hnX : g'.ownBlock ≠ some X := fun e => (hn X e).elim hx fun e => by have := h.lt; omega
 refine ⟨_, rfl, L0 ⟨o 0 _ (by decide) h.c0, o 1 _ (by decide) h.c1, o 2 _ (by decide) h.c2, o 3 _ (by decide) h.c3, o 4 _ (by decide) h.c4, L0e _ _ _ (k1 5 _ h.c5), o 6 _ (by decide) h.c6, rBk.keep (rBk.keep h.mine (.grown hg fun q hq e => (h.ng q hq).1 e)) (kX _ h.nx), ?_, fun q hq => ⟨fun e => (hn q hq).elim (fun e1 => (h.ng q e1).1 e) fun e1 => by have := h.tw q e; omega, fun e => hnX (e ▸ hq)⟩, h.nx, L0c h.lt (L0h hz hgs.size), h.ge, fun q hq => L0c (h.tw q hq) (L0h hz hgs.size), fun j => by rw [L0k]; exact hf j⟩, hf 5, ⟨_, k1 5 _ h.c5⟩⟩
 exact (ho.wide (S' := fun _ => False) (fun q hq _ => hS q hq) fun _ _ e => e).keeps (kX _ fun e => e.elim id hnX)
end
theorem RpAt.frame {W1 W7 w8 W9 : World} {X : Nat} {T : Nat -> Prop} {v u g u' : Value} {x : Rp} (h : RpAt W1.heap.size W7 X T v u g x) (hb : W1.grownBy W7 (some X)) (hg : W7.grownBy w8 g.ownBlock) (e : w8.setCell (zn X 5) u' = W9) : W1.grownBy W9 (some X) := by
 subst e
 have hgs : w8.grownBy (w8.setCell (zn X 5) u') (some X) := Z0b [u'] 5
 refine Z0f ⟨hg.os.trans hb.os, hg.tape.trans hb.tape, hg.output.trans hb.output, L0h hb.size hg.size, fun k hk hn => (hg.block k (L0c hk hb.size) fun e => ?_).trans (hb.block k hk hn)⟩ hgs
 have := (h.gone.lt k e.symm).1
 omega
theorem Y4t (w : World) (v0 v1 d0 d1 : Value) : ∃ W, ((w.alloc (.cells #[v0, v1] 38)).alloc (.cells #[d0, d1] 48)).alloc (.cells #[.bool true, .bool false, .int .i64 0, nl, nl, nl, nl] 41) = W /\ Hid (Bw w W) /\ Hid (W.heap.size = w.heap.size + 3) /\
  Hid (RpAt W.heap.size W (w.heap.size + 2) (fun _ => False) (nl) (nl) (nl) ⟨bk0, []⟩) /\ W.cell? (zn w.heap.size 0) = some v0 /\ W.cell? (zn w.heap.size 1) = some v1 /\ W.cell? (zn (w.heap.size + 1) 0) = some d0 /\ W.cell? (zn (w.heap.size + 1) 1) = some d1 := by
 obtain ⟨w1, e1⟩ : ∃ w1, w.alloc (.cells #[v0, v1] 38) = w1 := ⟨_, rfl⟩
 obtain ⟨w2, e2⟩ : ∃ w2, w1.alloc (.cells #[d0, d1] 48) = w2 := ⟨_, rfl⟩
 obtain ⟨w3, e3⟩ : ∃ w3, w2.alloc (.cells #[.bool true, .bool false, .int .i64 0, nl, nl, nl, nl] 41) = w3 := ⟨_, rfl⟩
 have z1 : w1.heap.size = w.heap.size + 1 := by rw [<- e1]; simp
 have z2 : w2.heap.size = w.heap.size + 2 := by rw [<- e2]; simp [z1]
 have z3 : w3.heap.size = w.heap.size + 3 := by rw [<- e3]; simp [z2]
 have k1 : ∀ j, w1.cell? (zn w.heap.size j) = #[v0, v1][j]? := fun j => by rw [<- e1]; exact L0b _ _ _ _
 have k2 : ∀ j, w2.cell? (zn w1.heap.size j) = #[d0, d1][j]? := fun j => by rw [<- e2]; exact L0b _ _ _ _
 have k3 : ∀ j, w3.cell? (zn w2.heap.size j) = #[.bool true, .bool false, .int .i64 0, nl, nl, nl, nl][j]? := fun j => by rw [<- e3]; exact L0b _ _ _ _
 have f3 : ∀ j, w3.frozen? (zn w2.heap.size j) = false := fun j => by rw [<- e3]; simp
 have b1 : Bw w w1 := e1 ▸ (L0m _ _).alloc (L0g _) _
 have b2 : Bw w1 w2 := e2 ▸ (L0m _ _).alloc (L0g _) _
 have b3 : Bw w2 w3 := e3 ▸ (L0m _ _).alloc (L0g _) _
 have q1 : ∀ j, w3.cell? (zn w.heap.size j) = #[v0, v1][j]? := fun j => (b3.cell (p := (zn w.heap.size j)) (by show w.heap.size < _; omega)).trans ((b2.cell (p := (zn w.heap.size j)) (by show w.heap.size < _; omega)).trans (k1 j))
 have q2 : ∀ j, w3.cell? (zn w1.heap.size j) = #[d0, d1][j]? := fun j => (b3.cell (p := (zn w1.heap.size j)) (by show w1.heap.size < _; omega)).trans (k2 j)
 rw [e1, e2, e3]
 rw [z1] at q2
 rw [z2] at k3 f3
 exact ⟨w3, rfl, L0 (b1.trans ((b2.trans (b3.mono (by omega))).mono (by omega))), L0 z3, L0 ⟨k3 0, k3 1, k3 2, k3 3, k3 4, k3 5, k3 6, ⟨_, _, rfl, Z01 _ _, Z01 _ _⟩, .nil _ _ _ _ _, fun q e => by simp [Value.ownBlock] at e, id, by omega, by omega, fun q e => e.elim, f3⟩, q1 0, q1 1, q2 0, q2 1⟩
theorem X4y (w : World) (v0 v1 v2 v3 v4 u0 u1 u2 u3 u4 : Value) : ∃ W, (w.alloc (.cells #[v0, v1, v2, v3, v4] 24)).alloc (.cells #[u0, u1, u2, u3, u4] 30) = W /\ Hid (Bw w W) /\ Hid (W.heap.size = w.heap.size + 2) /\
  (W.cell? (zn w.heap.size 0) = some v0 /\ W.cell? (zn w.heap.size 2) = some v2 /\ W.cell? (zn w.heap.size 3) = some v3 /\ W.cell? (zn w.heap.size 4) = some v4) /\ W.cell? (zn (w.heap.size + 1) 0) = some u0 /\ W.cell? (zn (w.heap.size + 1) 2) = some u2 /\ W.cell? (zn (w.heap.size + 1) 3) = some u3 := by
 obtain ⟨w1, e1⟩ : ∃ w1, w.alloc (.cells #[v0, v1, v2, v3, v4] 24) = w1 := ⟨_, rfl⟩
 obtain ⟨w2, e2⟩ : ∃ w2, w1.alloc (.cells #[u0, u1, u2, u3, u4] 30) = w2 := ⟨_, rfl⟩
 have z1 : w1.heap.size = w.heap.size + 1 := by rw [<- e1]; simp
 have z2 : w2.heap.size = w.heap.size + 2 := by rw [<- e2]; simp [z1]
 have k1 : ∀ j, w1.cell? (zn w.heap.size j) = #[v0, v1, v2, v3, v4][j]? := fun j => by rw [<- e1]; exact L0b _ _ _ _
 have k2 : ∀ j, w2.cell? (zn w1.heap.size j) = #[u0, u1, u2, u3, u4][j]? := fun j => by rw [<- e2]; exact L0b _ _ _ _
 have b1 : Bw w w1 := e1 ▸ (L0m _ _).alloc (L0g _) _
 have b2 : Bw w1 w2 := e2 ▸ (L0m _ _).alloc (L0g _) _
 have q1 : ∀ j, w2.cell? (zn w.heap.size j) = #[v0, v1, v2, v3, v4][j]? := fun j => (b2.cell (p := (zn w.heap.size j)) (by show w.heap.size < _; omega)).trans (k1 j)
 rw [e1, e2]
 rw [z1] at k2
 exact ⟨w2, rfl, L0 (b1.trans (b2.mono (by omega))), L0 z2, ⟨q1 0, q1 2, q1 3, q1 4⟩, k2 0, k2 2, k2 3⟩
theorem Y2o {w5 w6 : World} {T : Nat -> Prop} {n : Nat} {v u : Value} {b : Bk} {S : Nat -> Prop} (ho : OwnS rDm 63 w6 w5.heap.size S v b.doms) (hp : OwnS rTb 66 w6 w5.heap.size S u b.tabs) (hn : n <= w5.heap.size) (hS : ∀ q, S q -> T q \/ n <= q) : rBk.rel w6 (fun q => (T q \/ n <= q) /\ q < w6.heap.size) [v, u] b :=
 ⟨_, _, rfl, (rSl rDm).mono (ho.self.rel (by decide)) fun q hq hl => ⟨hq.elim (hS q) fun h => .inr (L0h hn h), hl⟩, (rSl rTb).mono (hp.self.rel (by decide)) fun q hq hl => ⟨hq.elim (hS q) fun h => .inr (L0h hn h), hl⟩⟩
theorem Y7s {b : Bk} {d : Did} {S : Nat -> Prop} {E F A1 B1 : Option Addr} {ec fc a1 c1 : Nat} (w : World) (h1 : rBk.rel w S [.slice A1 b.doms.length a1, .slice B1 b.tabs.length c1] b) (hd : rDid.rel w S [.slice E d.acts.length ec, .slice F d.reps.length fc] d) (hk : AgainOk b d) (hnb : Neat b 4 4) (hw : LibW w) (hp : PolW w) :
  Calls Tryz.prog 17 #[.agg #[.slice A1 b.doms.length a1, .slice B1 b.tabs.length c1], .agg #[.slice E d.acts.length ec, .slice F d.reps.length fc]] w fun e w' => e = .returned (.bool true) /\ Bw w w' := by
 have HEA : Hid (Elems rAcn w S E d.acts /\ Elems rRep w S F d.reps) := L0 (by
  obtain ⟨_, _, e, ha, hr⟩ := hd
  simp only [L1f, and_true] at e
  obtain ⟨rfl, rfl⟩ := e
  obtain ⟨_, _, e1, _, _, _, hA⟩ := rSl.elems ha
  obtain ⟨_, _, e2, _, _, _, hR⟩ := rSl.elems hr
  injection e1 with e1
  injection e2 with e2
  subst e1 e2
  exact ⟨hA, hR⟩)
 have hlen := hk.le
 have HLN2 : Hid (d.reps.length = d.acts.length) := L0 hk.len
 have HB1 := L0 h1
 have HOK := L0 hk
 have HNB := L0 hnb
 have HW := L0 hw
 have HP := L0 hp
 obtain ⟨W1, e1, HBI, HZ1, HR1, p0, p1, d0, d1⟩ := Y4t w (.slice A1 b.doms.length a1) (.slice B1 b.tabs.length c1) (.slice E d.acts.length ec) (.slice F d.reps.length fc)
 have HPD : Hid (∀ wr, W1.grownBy wr (some (w.heap.size + 2)) -> wr.cell? (zn w.heap.size 0) = some (.slice A1 b.doms.length a1) /\ wr.cell? (zn w.heap.size 1) = some (.slice B1 b.tabs.length c1) /\ wr.cell? (zn (w.heap.size + 1) 1) = some (.slice F d.reps.length fc)) := L0 fun wr hg => ⟨hg.cell p0 (by simp), hg.cell p1 (by simp), hg.cell d1 (by simp)⟩
 have HE1 := L0 e1
 clear h1 hd hk hnb hw hp e1 p0 p1 d0 d1
 go_enter Tryz.func17, Tryz.ntmps17
 go_wp2
 rw [HE1.o]
 go_loopw [20] (fun i wr => ∃ (k : Nat) (T : Nat -> Prop) (v u g : Value), k <= d.acts.length /\ i = .int .i64 k /\ Hid (RpAt W1.heap.size wr (w.heap.size + 2) T v u g (rpTo d k)) /\ Hid (W1.grownBy wr (some (w.heap.size + 2)))) (fun i _ => d.acts.length - (intOf i).toNat)
 exact ⟨0, _, _, _, _, L0o _, rfl, HR1, L0 ⟨rfl, rfl, rfl, L0g _, fun _ _ _ => rfl⟩⟩
 clear HR1
 obtain ⟨k, T, v, u, g, hk, rfl, HRP, HF⟩ := hrel
 have HBF : Hid (Bw w wr) := L0 (HBI.o.grown HF.o HBI.o.size fun q hq => by have := L0s hq; omega)
 by_cases hlt : k < d.acts.length
 ·have hik : (k : Int) < d.acts.length := by omega
  obtain ⟨x, hxe⟩ : ∃ x, rpTo d k = x := ⟨_, rfl⟩
  rw [hxe] at HRP
  obtain ⟨D, dc, B, bc, G, gc, rfl, rfl, rfl⟩ := HRP.o.shape
  obtain ⟨q, off, a, I, ic, rfl, _, hq, hx, hr, g0, g1, g2, g3, g4⟩ := (HEA.o.1.keep (.of_below HBF.o)).acn hlt
  obtain ⟨q2, off2, r, J, jc, K, kc, rfl, hq2, hxr, hrr, r0, r1, r2, r3, r4⟩ := (HEA.o.2.keep (.of_below HBF.o)).rep (i := k) (by rw [HLN2.o]; exact hlt)
  have hik2 : (k : Int) < d.reps.length := by rw [HLN2.o]; exact hik
  have HRT : Hid (rpTo d (k + 1) = Z11 x a r) := L0 (by rw [Y9m hx hxr, hxe])
  have HST : Hid (StepOk b x a r) := L0 (by rw [<- hxe]; exact HOK.o.st k a r hx hxr)
  have HNP : Hid (((x.mine.doms.map (·.name)).Nodup /\ (x.mine.tabs.map (·.name)).Nodup) /\ x.mine.doms.length <= 200 /\ x.mine.tabs.length <= 200) := L0 (by have h := Z96 d k; rw [hxe] at h; exact ⟨⟨h.hd, h.ht⟩, by have := h.ld; omega, by have := h.lt; omega⟩)
  have HGL : Hid (x.gone.length <= 200) := L0 (by rw [<- hxe]; have := Z95 d k; omega)
  have HTX : Hid (a.name.length <= 140737488355328 /\ a.text.length <= 140737488355328 /\ (rSl rInt).rel wr S [.slice I a.inp.length ic] a.inp) := L0 (by
   obtain ⟨z, e, _, _, h1, h2, h3⟩ := hr
   simp only [L1f, and_true, true_and] at e
   subst e
   exact ⟨h1, h2, h3⟩)
  obtain ⟨W2, e2, HB2, HZ2, ⟨j0, j2, j3, j4⟩, s0, s2, s3⟩ := X4y wr (.int .i64 a.kind) (.int .i64 a.n) (sq a.name) (sq a.text) (.slice I a.inp.length ic) (.int .i64 r.code) (.int .i64 r.n) (sq r.text) (.slice J r.ans.length jc) (.slice K r.at'.length kc)
  have HRP2 := L0 (HRP.o.below HB2.o)
  have HF2 : Hid (W1.grownBy W2 (some (w.heap.size + 2))) := L0 (Z0f HF.o (Z0i HB2.o))
  have HBW2 : Hid (Bw w W2) := L0 (HBF.o.trans (HB2.o.mono HBF.o.size))
  have HLW : Hid (∀ w', Bw W2 w' -> LibW w' /\ PolW w') := L0 fun w' hb => ⟨HW.o.below (HBW2.o.trans (hb.mono HBW2.o.size)), HP.o.below (HBW2.o.trans (hb.mono HBW2.o.size))⟩
  have HLW2 : Hid (LibW W2 /\ PolW W2) := L0 (HLW.o W2 (L0m _ _))
  have HRR : Hid (rRep.rel W2 S [.int .i64 r.code, .int .i64 r.n, sq r.text, .slice J r.ans.length jc, .slice K r.at'.length kc] r) := L0 (jA hrr HB2.o)
  obtain ⟨p0, p1, pd⟩ := HPD.o wr HF.o
  obtain ⟨P0, P1, _⟩ := HPD.o W2 HF2.o
  have hwx : w.heap.size + 2 < wr.heap.size := HRP.o.lt
  have hw1 : w.heap.size + 1 < wr.heap.size := by omega
  have hw0 : w.heap.size < wr.heap.size := by omega
  clear hx hxr hr hrr hxe
  go_upto_region 7 with fail
  clear hq hq2 hw1 hw0 hwx e2 g0 g1 g2 g3 g4 r0 r1 r2 r3 r4 p0 p1 pd
  obtain ⟨wv, hwv⟩ : ∃ x, x = wr := ⟨_, rfl⟩
  subst hwv
  obtain ⟨v, hvv⟩ : ∃ z, Z1o b x.ses = z := ⟨_, rfl⟩
  have HVV := L0 hvv
  clear hvv
  have HVW : Hid (∀ w0', Bw W2 w0' -> Calls Tryz.prog 23 #[.agg #[.slice A1 b.doms.length a1, .slice B1 b.tabs.length c1], .agg #[.bool true, .bool false, .int .i64 0, .slice D x.mine.doms.length dc, .slice B x.mine.tabs.length bc, .slice G x.gone.length gc, nl]] w0' fun e w' => ∃ A3 c3 A4 c4, e = .returned (.agg #[.slice A3 v.doms.length c3, .slice A4 v.tabs.length c4]) /\ rBk.rel w' (fun q => q < w'.heap.size) [.slice A3 v.doms.length c3, .slice A4 v.tabs.length c4] v /\ Bw w0' w') := L0 fun w0' hb0 => by
   have h1 := Z8v (S := fun q => q < w0'.heap.size) w0' (rBk.mono (jA HB1.o (HBW2.o.trans (hb0.mono HBW2.o.size))) fun q _ h => h) (HRP2.o.below hb0).ses (fun _ h => h) HNB.o (by have := HNP.o; show 4 + x.mine.doms.length < _; omega) (by have := HNP.o; show 4 + x.mine.tabs.length < _; omega)
   refine h1.mono ?_
   rintro e w' ⟨v1, u1, rfl, hr1, hb1⟩
   rw [HVV.o] at hr1
   have hr2 := hr1
   obtain ⟨v2, u2, e2, hd, ht⟩ := hr1
   simp only [L1f, and_true] at e2
   obtain ⟨rfl, rfl⟩ := e2
   obtain ⟨A3, c3, rfl, _⟩ := rSl.elems hd
   obtain ⟨A4, c4, rfl, _⟩ := rSl.elems ht
   exact ⟨A3, c3, A4, c4, rfl, rBk.mono hr2 fun q _ h => h, hb1⟩
  rcases (show a.kind = 2 \/ a.kind = 3 \/ a.kind = 4 \/ a.kind = 5 \/ (a.kind ≠ 2 /\ a.kind ≠ 3 /\ a.kind ≠ 4 /\ a.kind ≠ 5) by omega) with hkd | hkd | hkd | hkd | hkd
  ·have t2 : (a.kind == 2) = true := by rw [hkd]; rfl
   have t3 : (a.kind == 3) = false := by rw [hkd]; rfl
   have t4 : (a.kind == 4) = false := by rw [hkd]; rfl
   have t5 : (a.kind == 5) = false := by rw [hkd]; rfl
   by_cases hc0 : r.code = 0
   ·have hc : (r.code != 0) = false := by rw [hc0]; rfl
    rcases Z92 a.text with ⟨e0, hx0, hps⟩ | ⟨dm, hgd, hps⟩ | ⟨t, hgt, hps⟩
    ·have h := HST.o.put hkd hc0
     rw [hps] at h
     exact absurd h hx0
    ·have HPS := L0 hps
     have HNX : Hid (rpTo d (k + 1) = ⟨Z3y x.mine dm, x.gone ++ [dm.name]⟩) := L0 (by rw [HRT.o]; unfold Z11; rw [if_pos hkd, if_neg (by simp [hc0]), hps]; rfl)
     have HDM : Hid (dm.name.length <= 140737488355328 /\ InI dm.lo /\ InI dm.hi) := L0 (by obtain ⟨q1, q2, q3⟩ := Z58 hgd; have z1 := Z4m q1; have z2 := (Z07 _).1 q2; have z3 := (Z07 _).1 q3; exact ⟨by omega, ⟨by omega, by omega⟩, ⟨by omega, by omega⟩⟩)
     have HNR : Hid (rStr.rel W2 (fun _ => False) [sq dm.name] dm.name) := L0 ⟨rfl, HDM.o.1⟩
     clear hgd hps
     go_upto_region 15 with (first
      | (go_at_call 44; (with_reducible refine (X18 HPS.o W2 HTX.o.2.1 HLW2.o.1 HLW2.o.2).mono ?_); rintro e w3 ⟨P1, p1, P2, p2, rfl, hr3, hb3⟩; have HB3 := L0 hb3; have HR3 := L0 hr3; clear hb3 hr3; obtain ⟨W4, e4, HPB, HB4, HX4⟩ := PrB.start w3 63 66; obtain ⟨W5, e5, n0, n1, n2, m0, m1, m2, m3, m4, HB5, _⟩ := HPB.o.store dm [] 0 false (.slice P1 0 p1) (.slice P2 0 p2); have a0 := HPB.o.a0; have a1' := HPB.o.a1; have a2 := HPB.o.a2; have b0 := HPB.o.b0; have b1 := HPB.o.b1; have b2 := HPB.o.b2; have b3 := HPB.o.b3; have b4 := HPB.o.b4; have x0 := HPB.o.x 0; have x1 := HPB.o.x 1; have x2 := HPB.o.x 2; have y0 := HPB.o.y 0; have y1 := HPB.o.y 1; have y2 := HPB.o.y 2; have y3 := HPB.o.y 3; have y4 := HPB.o.y 4; have HBX := L0 (HB5.o _ HB3.o.size _ (HB3.o.trans (HB4.o.mono HB3.o.size))); have HU5 := L0 (HB5.o w3.heap.size (L0g _) w3 HB4.o)))
     have HRP5 := L0 (HRP2.o.below HBX.o)
     have c3 := HRP5.o.c3
     have c4 := HRP5.o.c4
     have HF5 : Hid (W1.grownBy W5 (some (w.heap.size + 2))) := L0 (Z0f HF2.o (Z0i HBX.o))
     have HQL : Hid (W2.heap.size <= w3.heap.size) := L0 HB3.o.size
     have HREL : Hid (rBk.rel W5 (fun q => (T q \/ W2.heap.size <= q) /\ q < W5.heap.size) [.slice D x.mine.doms.length dc, .slice B x.mine.tabs.length bc] x.mine) := L0 (rBk.mono HRP5.o.mine fun q hq hl => ⟨.inl hq, hl⟩)
     have HNM5 : Hid (W5.cell? (zn w3.heap.size 0) = some (sq dm.name)) := L0 n0
     clear e4 e5 a0 a1' a2 b0 b1 b2 b3 b4 x0 x1 x2 y0 y1 y2 y3 y4
     go_upto_region 16 with (first
      | (go_at_call 46; (with_reducible refine (Y1t dm W5 HREL.o (fun _ h => h.2) HDM.o HNP.o.1.1 (by have := HNP.o.2.1; omega)).mono ?_); rintro e w6 ⟨v6, u6, rfl, ho6, hp6, hb6⟩; obtain ⟨A6, l6, k6, rfl⟩ := ho6.shape; obtain ⟨B6, m6, j6, rfl⟩ := hp6.shape; obtain ⟨W7, e7, HRP7, HG7, f3, f4, h3, h4⟩ := HRP2.o.setMine (b := Z3y x.mine dm) (HBX.o.trans (hb6.mono HBX.o.size)) (T' := fun q => (T q \/ W2.heap.size <= q) /\ q < w6.heap.size) (Y2o ho6 hp6 HBX.o.size fun _ h => h.1) (fun _ hq => hq); obtain ⟨y3, h3⟩ := h3; obtain ⟨y4, h4⟩ := h4; have HB6 := L0 hb6; clear ho6 hp6 hb6))
     have HNM7 : Hid (W7.cell? (zn w3.heap.size 0) = some (sq dm.name)) := L0 (HG7.o.cell ((HB6.o.ce 0 (L0d _ _ HNM5.o)).trans HNM5.o) (fun e => by have e2 : w3.heap.size = w.heap.size + 2 := L0s e; have := HRP2.o.lt; have := HQL.o; omega))
     have HF7 : Hid (W1.grownBy W7 (some (w.heap.size + 2))) := L0 (Z0f (Z0f HF5.o (Z0i HB6.o)) HG7.o)
     clear c3 c4 n0 n1 n2 m0 m1 m2 m3 m4 e7 f3 f4 h3 h4
     have c5 := HRP7.o.c5
     have nm7 : W7.cell? (zn w3.heap.size 0) = some (sq dm.name) := HNM7.o
     have HGB : Hid ((x.gone.length + 1) * rStr.bytes <= 140737488355328) := L0 (by have := HGL.o; simp only [rStr]; omega)
     have HGS : Hid (W1.heap.size <= W7.heap.size) := L0 HF7.o.size
     go_wp2_with (at_builtin; refine Z1t (R := rStr) (x := dm.name) Y54 rfl (.tmp 66) (.tmp 69) rfl rfl HRP7.o.gone [sq dm.name] rfl rfl (fun _ => False) HNR.o (fun _ h => h.elim) HGB.o HGS.o ?_; intro v8 w8 ho8 hg8 hv8; obtain ⟨G8, c8, e8⟩ := ho8.value; rw [show (x.gone ++ [dm.name]).length = x.gone.length + 1 by simp] at e8; subst e8; obtain ⟨W9, e9, HRP9, f9, h9⟩ := HRP7.o.setGone hg8 ho8 (fun _ h => h.1.elim id id) (fun q hq => by rcases hv8 with h | h; exact .inl (h ▸ hq); exact .inr (by rw [h] at hq; have := L0s hq; omega)); obtain ⟨y9, h9⟩ := h9; have HF9 : Hid (W1.grownBy W9 (some (w.heap.size + 2))) := L0 (HRP7.o.frame HF7.o hg8 e9); clear ho8 hg8 hv8)
     go_roundw
     exact ⟨k + 1, _, _, _, _, by omega, by go_num, L0 (by rw [HNX.o]; exact HRP9.o), HF9⟩
     simp [intOf]; omega
    have HPS := L0 hps
    have HNX : Hid (rpTo d (k + 1) = ⟨Z47 x.mine t, x.gone ++ [t.name]⟩) := L0 (by rw [HRT.o]; unfold Z11; rw [if_pos hkd, if_neg (by simp [hc0]), hps]; rfl)
    have HNL0 : Hid (t.name.length <= 140737488355328) := L0 (by have := Z59 hgt; omega)
    have HNR : Hid (rStr.rel W2 (fun _ => False) [sq t.name] t.name) := L0 ⟨rfl, HNL0.o⟩
    clear hgt hps
    go_upto_region 13 with (first
     | (go_at_call 44; (with_reducible refine (X17 HPS.o W2 HTX.o.2.1 HLW2.o.1 HLW2.o.2).mono ?_); rintro e w3 ⟨P1, p1, P2, p2, rfl, hr3, hb3⟩; have HB3 := L0 hb3; have HR3 := L0 hr3; clear hb3 hr3; obtain ⟨W4, e4, HPB, HB4, HX4⟩ := PrB.start w3 63 66; obtain ⟨W5, e5, n0, n1, n2, m0, m1, m2, m3, m4, HB5, _⟩ := HPB.o.store dm0 t.name t.pol t.comp (.slice P1 t.ins.length p1) (.slice P2 t.rules.length p2); have a0 := HPB.o.a0; have a1' := HPB.o.a1; have a2 := HPB.o.a2; have b0 := HPB.o.b0; have b1 := HPB.o.b1; have b2 := HPB.o.b2; have b3 := HPB.o.b3; have b4 := HPB.o.b4; have x0 := HPB.o.x 0; have x1 := HPB.o.x 1; have x2 := HPB.o.x 2; have y0 := HPB.o.y 0; have y1 := HPB.o.y 1; have y2 := HPB.o.y 2; have y3 := HPB.o.y 3; have y4 := HPB.o.y 4; have HBX := L0 (HB5.o _ HB3.o.size _ (HB3.o.trans (HB4.o.mono HB3.o.size))); have HU5 := L0 (HB5.o w3.heap.size (L0g _) w3 HB4.o); simp only [dm0] at e5 n0 n1 n2))
    have HRP5 := L0 (HRP2.o.below HBX.o)
    have c3 := HRP5.o.c3
    have c4 := HRP5.o.c4
    have HF5 : Hid (W1.grownBy W5 (some (w.heap.size + 2))) := L0 (Z0f HF2.o (Z0i HBX.o))
    have HQL : Hid (W2.heap.size <= w3.heap.size) := L0 HB3.o.size
    have HREL : Hid (rBk.rel W5 (fun q => (T q \/ W2.heap.size <= q) /\ q < W5.heap.size) [.slice D x.mine.doms.length dc, .slice B x.mine.tabs.length bc] x.mine) := L0 (rBk.mono HRP5.o.mine fun q hq hl => ⟨.inl hq, hl⟩)
    have HNM5 : Hid (W5.cell? (zn (w3.heap.size + 1) 0) = some (sq t.name)) := L0 m0
    have HTB : Hid (rTb.rel W5 (fun q => (T q \/ W2.heap.size <= q) /\ q < W5.heap.size) [sq t.name, .int .i64 t.pol, .bool t.comp, .slice P1 t.ins.length p1, .slice P2 t.rules.length p2] t) := L0 (rTb.mono (jA HR3.o HU5.o) fun q hq hl => ⟨.inr (by rcases hq with h | h; exact h.elim; exact h), hl⟩)
    clear e4 e5 a0 a1' a2 b0 b1 b2 b3 b4 x0 x1 x2 y0 y1 y2 y3 y4
    go_upto_region 14 with (first
     | (go_at_call 45; (with_reducible refine (Z4u t W5 HREL.o (fun _ h => h.2) HTB.o HNP.o.1.2 (by have := HNP.o.2.2; omega)).mono ?_); rintro e w6 ⟨v6, u6, rfl, ho6, hp6, hb6⟩; obtain ⟨A6, l6, k6, rfl⟩ := ho6.shape; obtain ⟨B6, m6, j6, rfl⟩ := hp6.shape; obtain ⟨W7, e7, HRP7, HG7, f3, f4, h3, h4⟩ := HRP2.o.setMine (b := Z47 x.mine t) (HBX.o.trans (hb6.mono HBX.o.size)) (T' := fun q => (T q \/ W2.heap.size <= q) /\ q < w6.heap.size) (Y2o ho6 hp6 HBX.o.size fun _ h => h.1) (fun _ hq => hq); obtain ⟨y3, h3⟩ := h3; obtain ⟨y4, h4⟩ := h4; have HB6 := L0 hb6; clear ho6 hp6 hb6))
    have HNM7 : Hid (W7.cell? (zn (w3.heap.size + 1) 0) = some (sq t.name)) := L0 (HG7.o.cell ((HB6.o.ce 0 (L0d _ _ HNM5.o)).trans HNM5.o) (fun e => by have e2 : w3.heap.size + 1 = w.heap.size + 2 := L0s e; have := HRP2.o.lt; have := HQL.o; omega))
    have HF7 : Hid (W1.grownBy W7 (some (w.heap.size + 2))) := L0 (Z0f (Z0f HF5.o (Z0i HB6.o)) HG7.o)
    clear c3 c4 n0 n1 n2 m0 m1 m2 m3 m4 e7 f3 f4 h3 h4
    have c5 := HRP7.o.c5
    have nm7 : W7.cell? (zn (w3.heap.size + 1) 0) = some (sq t.name) := HNM7.o
    have HGB : Hid ((x.gone.length + 1) * rStr.bytes <= 140737488355328) := L0 (by have := HGL.o; simp only [rStr]; omega)
    have HGS : Hid (W1.heap.size <= W7.heap.size) := L0 HF7.o.size
    go_wp2_with (at_builtin; refine Z1t (R := rStr) (x := t.name) Y54 rfl (.tmp 54) (.tmp 57) rfl rfl HRP7.o.gone [sq t.name] rfl rfl (fun _ => False) HNR.o (fun _ h => h.elim) HGB.o HGS.o ?_; intro v8 w8 ho8 hg8 hv8; obtain ⟨G8, c8, e8⟩ := ho8.value; rw [show (x.gone ++ [t.name]).length = x.gone.length + 1 by simp] at e8; subst e8; obtain ⟨W9, e9, HRP9, f9, h9⟩ := HRP7.o.setGone hg8 ho8 (fun _ h => h.1.elim id id) (fun q hq => by rcases hv8 with h | h; exact .inl (h ▸ hq); exact .inr (by rw [h] at hq; have := L0s hq; omega)); obtain ⟨y9, h9⟩ := h9; have HF9 : Hid (W1.grownBy W9 (some (w.heap.size + 2))) := L0 (HRP7.o.frame HF7.o hg8 e9); clear ho8 hg8 hv8)
    go_roundw
    exact ⟨k + 1, _, _, _, _, by omega, by go_num, L0 (by rw [HNX.o]; exact HRP9.o), HF9⟩
    simp [intOf]; omega
   have hc : (r.code != 0) = true := bne_iff_ne.2 hc0
   have HNX : Hid (rpTo d (k + 1) = x) := L0 (by rw [HRT.o]; unfold Z11; rw [if_pos hkd, if_pos hc0])
   go_wp2
   go_roundw
   exact ⟨k + 1, T, _, _, _, by omega, by go_num, L0 (by rw [HNX.o]; exact HRP2.o), HF2⟩
   simp [intOf]; omega
  ·have t2 : (a.kind == 2) = false := by rw [hkd]; rfl
   have t3 : (a.kind == 3) = true := by rw [hkd]; rfl
   have t4 : (a.kind == 4) = false := by rw [hkd]; rfl
   have t5 : (a.kind == 5) = false := by rw [hkd]; rfl
   by_cases hc0 : r.code = 0
   ·have hc : (r.code == 0) = true := by rw [hc0]; rfl
    have HNX : Hid (rpTo d (k + 1) = ⟨Z0r x.mine a.name, x.gone ++ [a.name]⟩) := L0 (by rw [HRT.o]; unfold Z11; rw [if_neg (by omega), if_pos hkd, if_pos hc0])
    have HNR : Hid (rStr.rel W2 (fun _ => False) [sq a.name] a.name) := L0 ⟨rfl, HTX.o.1⟩
    have c3 := HRP2.o.c3
    have c4 := HRP2.o.c4
    have HREL : Hid (rBk.rel W2 (fun q => (T q \/ W2.heap.size <= q) /\ q < W2.heap.size) [.slice D x.mine.doms.length dc, .slice B x.mine.tabs.length bc] x.mine) := L0 (rBk.mono HRP2.o.mine fun q hq hl => ⟨.inl hq, hl⟩)
    have HN2 := L0 j2
    go_upto_region 20 with (first
     | (go_at_call 35; (with_reducible refine (Z4v a.name W2 HREL.o (fun _ h => h.2)).mono ?_); rintro e w6 ⟨v6, u6, rfl, ho6, hp6, _, hb6⟩; obtain ⟨A6, l6, k6, rfl⟩ := ho6.shape; obtain ⟨B6, m6, j6, rfl⟩ := hp6.shape; obtain ⟨W7, e7, HRP7, HG7, f3, f4, h3, h4⟩ := HRP2.o.setMine (b := Z0r x.mine a.name) hb6 (T' := fun q => (T q \/ W2.heap.size <= q) /\ q < w6.heap.size) (Y2o ho6 hp6 (L0g _) fun _ h => h.1) (fun _ hq => hq); obtain ⟨y3, h3⟩ := h3; obtain ⟨y4, h4⟩ := h4; have HB6 := L0 hb6; clear ho6 hp6 hb6))
    have HNM7 : Hid (W7.cell? (zn wv.heap.size 2) = some (sq a.name)) := L0 (HG7.o.cell ((HB6.o.ce 2 (L0d _ _ HN2.o)).trans HN2.o) (fun e => by have e2 : wv.heap.size = w.heap.size + 2 := L0s e; have := HRP.o.lt; omega))
    have HF7 : Hid (W1.grownBy W7 (some (w.heap.size + 2))) := L0 (Z0f (Z0f HF2.o (Z0i HB6.o)) HG7.o)
    clear c3 c4 e7 f3 f4 h3 h4
    have c5 := HRP7.o.c5
    have nm7 : W7.cell? (zn wv.heap.size 2) = some (sq a.name) := HNM7.o
    have HGB : Hid ((x.gone.length + 1) * rStr.bytes <= 140737488355328) := L0 (by have := HGL.o; simp only [rStr]; omega)
    have HGS : Hid (W1.heap.size <= W7.heap.size) := L0 HF7.o.size
    go_wp2_with (at_builtin; refine Z1t (R := rStr) (x := a.name) Y54 rfl (.tmp 84) (.tmp 87) rfl rfl HRP7.o.gone [sq a.name] rfl rfl (fun _ => False) HNR.o (fun _ h => h.elim) HGB.o HGS.o ?_; intro v8 w8 ho8 hg8 hv8; obtain ⟨G8, c8, e8⟩ := ho8.value; rw [show (x.gone ++ [a.name]).length = x.gone.length + 1 by simp] at e8; subst e8; obtain ⟨W9, e9, HRP9, f9, h9⟩ := HRP7.o.setGone hg8 ho8 (fun _ h => h.1.elim id id) (fun q hq => by rcases hv8 with h | h; exact .inl (h ▸ hq); exact .inr (by rw [h] at hq; have := L0s hq; omega)); obtain ⟨y9, h9⟩ := h9; have HF9 : Hid (W1.grownBy W9 (some (w.heap.size + 2))) := L0 (HRP7.o.frame HF7.o hg8 e9); clear ho8 hg8 hv8)
    go_roundw
    exact ⟨k + 1, _, _, _, _, by omega, by go_num, L0 (by rw [HNX.o]; exact HRP9.o), HF9⟩
    simp [intOf]; omega
   have hc : (r.code == 0) = false := beq_eq_false_iff_ne.2 hc0
   have HNX : Hid (rpTo d (k + 1) = x) := L0 (by rw [HRT.o]; unfold Z11; rw [if_neg (by omega), if_pos hkd, if_neg hc0])
   go_wp2
   go_roundw
   exact ⟨k + 1, T, _, _, _, by omega, by go_num, L0 (by rw [HNX.o]; exact HRP2.o), HF2⟩
   simp [intOf]; omega
  ·have t2 : (a.kind == 2) = false := by rw [hkd]; rfl
   have t3 : (a.kind == 3) = false := by rw [hkd]; rfl
   have t4 : (a.kind == 4) = true := by rw [hkd]; rfl
   have t5 : (a.kind == 5) = false := by rw [hkd]; rfl
   have HNX : Hid (rpTo d (k + 1) = x) := L0 (by rw [HRT.o]; unfold Z11; rw [if_neg (by omega), if_neg (by omega)])
   by_cases hc0 : r.code = 1
   ·have hc : (r.code != 1) = false := by rw [hc0]; rfl
    go_upto_region 22 with fail
    go_quiet (fail)
    go_wp2
    go_roundw
    exact ⟨k + 1, T, _, _, _, by omega, by go_num, L0 (by rw [HNX.o]; exact HRP2.o.below (Z0h (L0m _ _) _)), L0 (Z0f HF2.o (Z0i (Z0h (L0m _ _) _)))⟩
    simp [intOf]; omega
   have hc : (r.code != 1) = true := bne_iff_ne.2 hc0
   have HGET : Hid (Z0y (Z1o b x.ses) a.name = r.text) := L0 (HST.o.get hkd hc0)
   have cx0 := HRP2.o.c0
   have cx1 := HRP2.o.c1
   have cx2 := HRP2.o.c2
   have cx3 := HRP2.o.c3
   have cx4 := HRP2.o.c4
   have cx5 := HRP2.o.c5
   have cx6 := HRP2.o.c6
   have HKP : Hid (∀ W', Bw W2 W' -> W'.cell? (zn w.heap.size 0) = some (.slice A1 b.doms.length a1) /\ W'.cell? (zn w.heap.size 1) = some (.slice B1 b.tabs.length c1) /\ W'.cell? (zn (w.heap.size + 2) 0) = some (.bool true) /\ W'.cell? (zn (w.heap.size + 2) 1) = some (.bool false) /\ W'.cell? (zn (w.heap.size + 2) 2) = some (.int .i64 0) /\ W'.cell? (zn (w.heap.size + 2) 3) = some (.slice D x.mine.doms.length dc) /\ W'.cell? (zn (w.heap.size + 2) 4) = some (.slice B x.mine.tabs.length bc) /\ W'.cell? (zn (w.heap.size + 2) 5) = some (.slice G x.gone.length gc) /\ W'.cell? (zn (w.heap.size + 2) 6) = some (nl) /\ W'.cell? (zn wv.heap.size 2) = some (sq a.name) /\ W'.cell? (zn (wv.heap.size + 1) 0) = some (.int .i64 r.code) /\ W'.cell? (zn (wv.heap.size + 1) 2) = some (sq r.text)) := L0 fun W' hb => ⟨(hb.ce 0 (L0d _ _ P0)).trans P0, (hb.ce 1 (L0d _ _ P1)).trans P1, (hb.ce 0 (L0d _ _ cx0)).trans cx0, (hb.ce 1 (L0d _ _ cx1)).trans cx1, (hb.ce 2 (L0d _ _ cx2)).trans cx2, (hb.ce 3 (L0d _ _ cx3)).trans cx3, (hb.ce 4 (L0d _ _ cx4)).trans cx4, (hb.ce 5 (L0d _ _ cx5)).trans cx5, (hb.ce 6 (L0d _ _ cx6)).trans cx6, (hb.ce 2 (L0d _ _ j2)).trans j2, (hb.ce 0 (L0d _ _ s0)).trans s0, (hb.ce 2 (L0d _ _ s2)).trans s2⟩
   rw [HVV.o] at HGET
   clear j0 j3 j4 s3
   go_upto_region 22 with fail
   go_region_held3 (fun W' => W'.cell? (zn w.heap.size 0) = some (.slice A1 b.doms.length a1) /\ W'.cell? (zn w.heap.size 1) = some (.slice B1 b.tabs.length c1) /\ W'.cell? (zn (w.heap.size + 2) 0) = some (.bool true) /\ W'.cell? (zn (w.heap.size + 2) 1) = some (.bool false) /\ W'.cell? (zn (w.heap.size + 2) 2) = some (.int .i64 0) /\ W'.cell? (zn (w.heap.size + 2) 3) = some (.slice D x.mine.doms.length dc) /\ W'.cell? (zn (w.heap.size + 2) 4) = some (.slice B x.mine.tabs.length bc) /\ W'.cell? (zn (w.heap.size + 2) 5) = some (.slice G x.gone.length gc) /\ W'.cell? (zn (w.heap.size + 2) 6) = some (nl) /\ W'.cell? (zn wv.heap.size 2) = some (sq a.name) /\ W'.cell? (zn (wv.heap.size + 1) 0) = some (.int .i64 r.code) /\ W'.cell? (zn (wv.heap.size + 1) 2) = some (sq r.text)) (go_keep) (first
    | (go_at_call 23; ((with_reducible refine (HVW.o _ (by first | exact L0m _ _ | exact ⟨rfl, rfl, rfl, L0g _, fun _ _ => rfl⟩)).mono ?_); rintro e w5 ⟨A3, c3', A4, c4', rfl, hr5, hb5⟩; have HR5 := L0 hr5; have HB5 : Hid (Bw W2 w5) := L0 ⟨hb5.os, hb5.tape, hb5.output, hb5.size, hb5.block⟩; obtain ⟨t10, t11, t12, t13, t14, t15, t16, t17, t18, t19, t20, t21⟩ := HKP.o w5 HB5.o; have HLW5 := L0 (HLW.o w5 HB5.o); clear hr5 hb5))
    | (go_at_call 19; ((with_reducible refine (X19 HGET.o w5 HR5.o HTX.o.1 HLW5.o.1 HLW5.o.2).mono ?_); rintro e w6 ⟨rfl, hb6⟩; have HB6 := L0 (HB5.o.trans (hb6.mono HB5.o.size)); obtain ⟨y10, y11, y12, y13, y14, y15, y16, y17, y18, y19, y20, y21⟩ := HKP.o w6 HB6.o; clear hb6)))
   all_goals
    go_wp2
    go_roundw
    exact ⟨k + 1, T, _, _, _, by omega, by go_num, L0 (by rw [HNX.o]; exact HRP2.o.below HB6.o), L0 (Z0f HF2.o (Z0i HB6.o))⟩
    simp [intOf]; omega
  ·have t2 : (a.kind == 2) = false := by rw [hkd]; rfl
   have t3 : (a.kind == 3) = false := by rw [hkd]; rfl
   have t4 : (a.kind == 4) = false := by rw [hkd]; rfl
   have t5 : (a.kind == 5) = true := by rw [hkd]; rfl
   have HNX : Hid (rpTo d (k + 1) = x) := L0 (by rw [HRT.o]; unfold Z11; rw [if_neg (by omega), if_neg (by omega)])
   have HASK : Hid (askB (Z1o b x.ses) a.inp = (r.ans, r.code)) := L0 (HST.o.ask hkd)
   have cx0 := HRP2.o.c0
   have cx1 := HRP2.o.c1
   have cx2 := HRP2.o.c2
   have cx3 := HRP2.o.c3
   have cx4 := HRP2.o.c4
   have cx5 := HRP2.o.c5
   have cx6 := HRP2.o.c6
   have HKP : Hid (∀ W', Bw W2 W' -> W'.cell? (zn w.heap.size 0) = some (.slice A1 b.doms.length a1) /\ W'.cell? (zn w.heap.size 1) = some (.slice B1 b.tabs.length c1) /\ W'.cell? (zn (w.heap.size + 2) 0) = some (.bool true) /\ W'.cell? (zn (w.heap.size + 2) 1) = some (.bool false) /\ W'.cell? (zn (w.heap.size + 2) 2) = some (.int .i64 0) /\ W'.cell? (zn (w.heap.size + 2) 3) = some (.slice D x.mine.doms.length dc) /\ W'.cell? (zn (w.heap.size + 2) 4) = some (.slice B x.mine.tabs.length bc) /\ W'.cell? (zn (w.heap.size + 2) 5) = some (.slice G x.gone.length gc) /\ W'.cell? (zn (w.heap.size + 2) 6) = some (nl) /\ W'.cell? (zn wv.heap.size 4) = some (.slice I a.inp.length ic) /\ W'.cell? (zn (wv.heap.size + 1) 0) = some (.int .i64 r.code) /\ W'.cell? (zn (wv.heap.size + 1) 3) = some (.slice J r.ans.length jc)) := L0 fun W' hb => ⟨(hb.ce 0 (L0d _ _ P0)).trans P0, (hb.ce 1 (L0d _ _ P1)).trans P1, (hb.ce 0 (L0d _ _ cx0)).trans cx0, (hb.ce 1 (L0d _ _ cx1)).trans cx1, (hb.ce 2 (L0d _ _ cx2)).trans cx2, (hb.ce 3 (L0d _ _ cx3)).trans cx3, (hb.ce 4 (L0d _ _ cx4)).trans cx4, (hb.ce 5 (L0d _ _ cx5)).trans cx5, (hb.ce 6 (L0d _ _ cx6)).trans cx6, (hb.ce 4 (L0d _ _ j4)).trans j4, (hb.ce 0 (L0d _ _ s0)).trans s0, (hb.ce 3 (L0d _ _ s3)).trans s3⟩
   rw [HVV.o] at HASK
   have HIN : Hid (∀ w', Bw W2 w' -> (rSl rInt).rel w' S [.slice I a.inp.length ic] a.inp) := L0 fun w' hb => jA (jA HTX.o.2.2 HB2.o) hb
   clear j0 j2 j3 s2
   go_upto_region 25 with fail
   go_region_held3 (fun W' => W'.cell? (zn w.heap.size 0) = some (.slice A1 b.doms.length a1) /\ W'.cell? (zn w.heap.size 1) = some (.slice B1 b.tabs.length c1) /\ W'.cell? (zn (w.heap.size + 2) 0) = some (.bool true) /\ W'.cell? (zn (w.heap.size + 2) 1) = some (.bool false) /\ W'.cell? (zn (w.heap.size + 2) 2) = some (.int .i64 0) /\ W'.cell? (zn (w.heap.size + 2) 3) = some (.slice D x.mine.doms.length dc) /\ W'.cell? (zn (w.heap.size + 2) 4) = some (.slice B x.mine.tabs.length bc) /\ W'.cell? (zn (w.heap.size + 2) 5) = some (.slice G x.gone.length gc) /\ W'.cell? (zn (w.heap.size + 2) 6) = some (nl) /\ W'.cell? (zn wv.heap.size 4) = some (.slice I a.inp.length ic) /\ W'.cell? (zn (wv.heap.size + 1) 0) = some (.int .i64 r.code) /\ W'.cell? (zn (wv.heap.size + 1) 3) = some (.slice J r.ans.length jc)) (go_keep) (first
    | (go_at_call 23; ((with_reducible refine (HVW.o _ (by first | exact L0m _ _ | exact ⟨rfl, rfl, rfl, L0g _, fun _ _ => rfl⟩)).mono ?_); rintro e w5 ⟨A3, c3', A4, c4', rfl, hr5, hb5⟩; have HR5 := L0 hr5; have HB5 : Hid (Bw W2 w5) := L0 ⟨hb5.os, hb5.tape, hb5.output, hb5.size, hb5.block⟩; obtain ⟨t10, t11, t12, t13, t14, t15, t16, t17, t18, t19, t20, t21⟩ := HKP.o w5 HB5.o; clear hr5 hb5))
    | (go_at_call 47; ((with_reducible refine (X15 w5 HR5.o (HIN.o w5 HB5.o) HASK.o).mono ?_); rintro e w6 ⟨A6, c6', S6, rfl, hr6, hb6⟩; have HB6 := L0 (HB5.o.trans (hb6.mono HB5.o.size)); obtain ⟨y10, y11, y12, y13, y14, y15, y16, y17, y18, y19, y20, y21⟩ := HKP.o w6 HB6.o; have HR6 := L0 hr6; clear hr6 hb6)))
   all_goals
    have HE6 : Hid (Elems rAn w6 (fun _ => True) A6 r.ans /\ Elems rAn w6 (fun _ => True) J r.ans) := L0 (by
     obtain ⟨_, _, e6, _, _, _, h6⟩ := rSl.elems HR6.o
     injection e6 with e6 _ _
     subst e6
     obtain ⟨_, _, e7, _, _, _, h7, _⟩ := HRR.o
     simp only [L1f, and_true, true_and] at e7
     obtain ⟨rfl, rfl⟩ := e7
     obtain ⟨_, _, e8, _, _, _, h8⟩ := rSl.elems h7
     injection e8 with e8 _ _
     subst e8
     exact ⟨h6.mono fun _ _ _ => trivial, (h8.keep (.of_below HB6.o)).mono fun _ _ _ => trivial⟩)
    have hn0 : (r.code != r.code) = false := by simp
    have hn1 : ((r.ans.length : Int) != (r.ans.length : Int)) = false := by simp
    have hln : r.ans.length <= 4398046511104 := by
     obtain ⟨_, _, _, _, _, h9, _⟩ := rSl.elems HR6.o
     simp only [rAn] at h9
     omega
    have HS3 := L0 y21
    go_upto_region 29 with fail
    clear y10 y11 y12 y13 y14 y15 y16 y17 y18 y19 y20 y21 t10 t11 t12 t13 t14 t15 t16 t17 t18 t19 t20 t21 cx0 cx1 cx2 cx3 cx4 cx5 cx6 P0 P1 j4 s0 s3
    have s3 := HS3.o
    go_loopw [131] (fun i wr => ∃ m : Nat, m <= r.ans.length /\ i = .int .i64 m /\ Hid (Bw w6 wr)) (fun i _ => r.ans.length - (intOf i).toNat)
    exact ⟨0, L0o _, rfl, L0 (L0m _ _)⟩
    obtain ⟨m, hm, rfl, HB⟩ := hrel
    by_cases hlm : m < r.ans.length
    ·obtain ⟨b1, o1, y, rfl, hb1, hx, g0, g1, g2⟩ := HE6.o.1.an hlm
     obtain ⟨b2, o2, y', rfl, hb2, hx', h0, h1, h2⟩ := HE6.o.2.an hlm
     obtain rfl : y = y' := by rw [hx] at hx'; exact L0s hx'
     rw [<- HB.o.ce _ hb1] at g0 g1 g2
     rw [<- HB.o.ce _ hb2] at h0 h1 h2
     have hmi : (m : Int) < r.ans.length := by omega
     have s3 := (HB.o.ce 3 (L0d _ _ HS3.o)).trans HS3.o
     clear hx hx'
     go_wp2
     go_region
     all_goals
      go_wp2
      go_roundw
      exact ⟨m + 1, by omega, by go_num, L0 HB.o.drew⟩
      simp [intOf]; omega
    have hmi : ¬ (m : Int) < r.ans.length := by omega
    go_wp2
    go_roundw
    exact ⟨k + 1, T, _, _, _, by omega, by go_num, L0 (by rw [HNX.o]; exact HRP2.o.below (HB6.o.trans (HB.o.mono HB6.o.size))), L0 (Z0f HF2.o (Z0i (HB6.o.trans (HB.o.mono HB6.o.size))))⟩
    simp [intOf]; omega
  have t2 : (a.kind == 2) = false := by simp; omega
  have t3 : (a.kind == 3) = false := by simp; omega
  have t4 : (a.kind == 4) = false := by simp; omega
  have t5 : (a.kind == 5) = false := by simp; omega
  have HNX : Hid (rpTo d (k + 1) = x) := L0 (by rw [HRT.o]; unfold Z11; rw [if_neg hkd.1, if_neg hkd.2.1])
  go_wp2
  go_roundw
  exact ⟨k + 1, T, _, _, _, by omega, by go_num, L0 (by rw [HNX.o]; exact HRP2.o), HF2⟩
  simp [intOf]; omega
 have hik : ¬ (k : Int) < d.acts.length := by omega
 go_wp2
 go_ret
 exact ⟨rfl, HBF.o⟩
theorem X0l {x : Ses} {d : Did} {b1 b2 : Bk} {S : Nat -> Prop} {D B G Q E F A1 B1 A2 B2 : Option Addr} {dc bc gc qc ec fc a1 c1 a2 c2 : Nat} (w : World) (_hx : rSes.rel w S [.bool x.opn, .bool x.strict, .int .i64 x.frm, .slice D x.mine.doms.length dc, .slice B x.mine.tabs.length bc, .slice G x.gone.length gc, .slice Q x.read.length qc] x) (hd : rDid.rel w S [.slice E d.acts.length ec, .slice F d.reps.length fc] d) (_h1 : rBk.rel w S [.slice A1 b1.doms.length a1, .slice B1 b1.tabs.length c1] b1) (h2 : rBk.rel w S [.slice A2 b2.doms.length a2, .slice B2 b2.tabs.length c2] b2) (he : X2v x d b1 b2) (hw : LibW w) (hp : PolW w) :
  Calls Tryz.prog 16 #[.agg #[.bool x.opn, .bool x.strict, .int .i64 x.frm, .slice D x.mine.doms.length dc, .slice B x.mine.tabs.length bc, .slice G x.gone.length gc, .slice Q x.read.length qc], .agg #[.slice E d.acts.length ec, .slice F d.reps.length fc], .agg #[.slice A1 b1.doms.length a1, .slice B1 b1.tabs.length c1], .agg #[.slice A2 b2.doms.length a2, .slice B2 b2.tabs.length c2]] w fun e w' => e = .returned (.bool true) /\ Bw w w' := by
 by_cases hs : x.strict = true
 ·have HQ : Hid (AgainOk b2 d /\ Neat b2 4 4) := L0 (by
   obtain ⟨st, now, k, a, hg, hi, hk4, ho, h200, h6, hn, hc, rfl, rfl, rfl, rfl⟩ := he
   have hne := hg.ne
   refine ⟨hi.serial hg ho hs (Y8r hn hk4 ho h200 h6 hc), Z73 (hg.chk _ ?_)⟩
   rw [L0f (show st.states.length - 1 < st.states.length by omega)]
   exact L2c _)
  rw [hs]
  obtain ⟨X, e1, HB1, HZ1, p1, _, d0, d1, _, _, l0, l1⟩ := X4c w (.bool x.opn) (.bool true) (.int .i64 x.frm) (.slice D x.mine.doms.length dc) (.slice B x.mine.tabs.length bc) (.slice G x.gone.length gc) (.slice Q x.read.length qc) (.slice E d.acts.length ec) (.slice F d.reps.length fc) (.slice A1 b1.doms.length a1) (.slice B1 b1.tabs.length c1) (.slice A2 b2.doms.length a2) (.slice B2 b2.tabs.length c2)
  have HAG := L0 (Y7s X (jA h2 HB1.o) (jA hd HB1.o) HQ.o.1 HQ.o.2 (hw.below HB1.o) (hp.below HB1.o))
  clear _hx _h1 h2 hd he hw hp
  go_enter Tryz.func16, Tryz.ntmps16
  go_wp2_with (go_at_call 17; (with_reducible refine HAG.o.mono ?_); rintro e w1 ⟨rfl, hb⟩; have HB := L0 hb; clear hb)
  go_ret
  exact ⟨rfl, HB1.o.trans (HB.o.mono HB1.o.size)⟩
 have hs2 : x.strict = false := by simpa using hs
 rw [hs2]
 obtain ⟨X, e1, HB1, _, p1, _⟩ := X4c w (.bool x.opn) (.bool false) (.int .i64 x.frm) (.slice D x.mine.doms.length dc) (.slice B x.mine.tabs.length bc) (.slice G x.gone.length gc) (.slice Q x.read.length qc) (.slice E d.acts.length ec) (.slice F d.reps.length fc) (.slice A1 b1.doms.length a1) (.slice B1 b1.tabs.length c1) (.slice A2 b2.doms.length a2) (.slice B2 b2.tabs.length c2)
 clear _hx _h1 h2 hd he hw hp
 go_enter Tryz.func16, Tryz.ntmps16
 go_wp2
 go_ret
 exact ⟨rfl, HB1.o⟩
theorem X2y {x : Ses} {d : Did} {b1 b2 : Bk} {S : Nat -> Prop} {D B G Q E F A1 B1 A2 B2 : Option Addr} {dc bc gc qc ec fc a1 c1 a2 c2 : Nat} {f : Nat} (w : World) (ho : x.opn = true) (hf : x.frm = (f : Int)) (hx : rSes.rel w S [.bool true, .bool x.strict, .int .i64 f, .slice D x.mine.doms.length dc, .slice B x.mine.tabs.length bc, .slice G x.gone.length gc, .slice Q x.read.length qc] x) (hd : rDid.rel w S [.slice E d.acts.length ec, .slice F d.reps.length fc] d) (h1 : rBk.rel w S [.slice A1 b1.doms.length a1, .slice B1 b1.tabs.length c1] b1) (h2 : rBk.rel w S [.slice A2 b2.doms.length a2, .slice B2 b2.tabs.length c2] b2) (he : X2v x d b1 b2) (hw : LibW w) (hp : PolW w) :
  Calls Tryz.prog 16 #[.agg #[.bool true, .bool x.strict, .int .i64 f, .slice D x.mine.doms.length dc, .slice B x.mine.tabs.length bc, .slice G x.gone.length gc, .slice Q x.read.length qc], .agg #[.slice E d.acts.length ec, .slice F d.reps.length fc], .agg #[.slice A1 b1.doms.length a1, .slice B1 b1.tabs.length c1], .agg #[.slice A2 b2.doms.length a2, .slice B2 b2.tabs.length c2]] w fun e w' => e = .returned (.bool true) /\ Bw w w' := by
 have h := X0l w (x := x) (by rw [ho, hf]; exact hx) hd h1 h2 he hw hp
 rwa [ho, hf] at h
