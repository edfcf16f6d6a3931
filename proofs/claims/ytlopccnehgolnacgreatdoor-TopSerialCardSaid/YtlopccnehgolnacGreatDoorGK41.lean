import Derived.Test.YtlopccnehgolnacGreatDoorGK16
import Derived.Test.YtlopccnehgolnacGreatDoorGK17
import Derived.Test.YtlopccnehgolnacGreatDoorGK30
import Derived.Test.YtlopccnehgolnacGreatDoorShow
import Derived.Test.YtlopccnehgolnacGreatDoorGK42
import Derived.BigQuiet
import Derived.Deep.DeepMust
import Derived.Test.YtlopccnehgolnacGreatDoorGK37
namespace Go.Proofs.YtlopccnehgolnacGreatDoor
open Go.RowKit Rb
open List renaming foldl_append -> jA
open Nat renaming lt_of_le_of_lt -> jB, not_lt_zero -> jC
open Rd renaming below -> jD
open Go.World renaming setCell -> jE
set_option maxRecDepth 100000
set_option maxHeartbeats 6400000
structure Chg (C : Nat -> Prop) (w w' : World) : Prop where
 os : w'.os = w.os
 tape : w'.tape = w.tape
 output : w'.output = w.output
 size : w.heap.size <= w'.heap.size
 block : ∀ k, k < w.heap.size -> ¬ C k -> w'.heap[k]? = w.heap[k]?
section
variable {C C' T T' S : Nat -> Prop} {w w' w'' : World}
theorem Chg.refl (C : Nat -> Prop) (w : World) : Chg C w w := ⟨rfl, rfl, rfl, L0g _, fun _ _ _ => rfl⟩
theorem Chg.next (h : Chg C w w') (k : Chg C' w' w'') (hC : ∀ q, C' q -> C q \/ w.heap.size <= q) : Chg C w w'' :=
 ⟨k.os.trans h.os, k.tape.trans h.tape, k.output.trans h.output, L0h h.size k.size, fun q hq hn => (k.block q (L0c hq h.size) fun hc => by rcases hC q hc with h1 | h1; exact hn h1; omega).trans (h.block q hq hn)⟩
theorem Chg.trans (h : Chg C w w') (k : Chg C w' w'') : Chg C w w'' := h.next k fun _ h => .inl h
theorem Chg.below (h : Bw w w') : Chg C w w' := ⟨h.os, h.tape, h.output, h.size, fun k hk _ => h.block k hk⟩
theorem Chg.grown {row : Option Nat} (h : w.grownBy w' row) (hr : ∀ g, row = some g -> C g \/ w.heap.size <= g) : Chg C w w' :=
 ⟨h.os, h.tape, h.output, h.size, fun k hk hn => h.block k hk fun e => by rcases hr k e.symm with h1 | h1; exact hn h1; omega⟩
theorem Chg.setCell {p : Addr} (hp : C p.block) (u : Value) : Chg C w (w.setCell p u) := ⟨rfl, rfl, rfl, by simp [jE], fun k _ hn => L3 w p u k fun e => hn (e ▸ hp)⟩
theorem Chg.keeps (h : Chg C w w') (hS : ∀ b, S b -> ¬ C b) : Keeps S w w' := fun b hb hlt => h.block b hlt (hS b hb)
theorem Chg.toBelow {B : Nat} (h : Chg C w w') (hB : B <= w.heap.size) (hC : ∀ q, C q -> B <= q) : Below B w w' := ⟨h.os, h.tape, h.output, h.size, fun k hk => h.block k (by omega) fun hc => by have := hC k hc; omega⟩
end
structure Acn where
 kind : Int
 n : Int
 name : Txt
 text : Txt
 inp : List Int
def rAcn : Rd Acn where
 k := 5
 bytes := 72
 rel w S cs x := ∃ u, cs = [.int .i64 x.kind, .int .i64 x.n, sq x.name, sq x.text, u] /\ InI x.kind /\ InI x.n /\ x.name.length <= 140737488355328 /\ x.text.length <= 140737488355328 /\ (rSl rInt).rel w S [u] x.inp
 len h := by obtain ⟨u, rfl, _⟩ := h; rfl
 keep h hk := by obtain ⟨u, e, h1, h2, h3, h4, h5⟩ := h; exact ⟨u, e, h1, h2, h3, h4, (rSl rInt).keep h5 hk⟩
 mono h hk := by obtain ⟨u, e, h1, h2, h3, h4, h5⟩ := h; exact ⟨u, e, h1, h2, h3, h4, (rSl rInt).mono h5 hk⟩
 one h x hx := by
  obtain ⟨u, rfl, _, _, _, _, h5⟩ := h
  simp at hx
  rcases hx with rfl | rfl | rfl | rfl | rfl
  ·rfl
  ·rfl
  ·rfl
  ·rfl
  exact (rSl rInt).one h5 _ (by simp)
structure Sto where
 states : List Bk
 ses : Nat -> Ses
 acts : Nat
def bk0 : Bk := ⟨[], []⟩
def ses0 : Ses := ⟨false, false, 0, bk0, [], []⟩
def sto0 : Sto := ⟨[bk0], fun _ => ses0, 0⟩
def Sto.put (st : Sto) (k : Nat) (x : Ses) : Sto := ⟨st.states, fun j => if j = k then x else st.ses j, st.acts⟩
def Sto.at (st : Sto) (i : Int) : Bk := (st.states[i.toNat]?).getD bk0
def noR (e : Int) : Rep := ⟨e, 0, [], [], []⟩
def SesAt (w : World) (sb o : Nat) (T : Nat -> Prop) (x : Ses) : Prop := ∃ xs, rSes.rel w T xs x /\ ∀ j u, xs[j]? = some u -> w.cell? (zn sb (o + j)) = some u
section
variable {w w' : World} {sb o : Nat} {T T' C : Nat -> Prop} {x : Ses}
theorem SesAt.out (h : SesAt w sb o T x) : ∃ D dc B bc G gc R rc, rSes.rel w T [.bool x.opn, .bool x.strict, .int .i64 x.frm, .slice D x.mine.doms.length dc, .slice B x.mine.tabs.length bc, .slice G x.gone.length gc, .slice R x.read.length rc] x /\
  w.cell? (zn sb o) = some (.bool x.opn) /\ w.cell? (zn sb (o + 1)) = some (.bool x.strict) /\ w.cell? (zn sb (o + 2)) = some (.int .i64 x.frm) /\ w.cell? (zn sb (o + 3)) = some (.slice D x.mine.doms.length dc) /\ w.cell? (zn sb (o + 4)) = some (.slice B x.mine.tabs.length bc) /\ w.cell? (zn sb (o + 5)) = some (.slice G x.gone.length gc) /\ w.cell? (zn sb (o + 6)) = some (.slice R x.read.length rc) := by
 obtain ⟨xs, hr, hc⟩ := h
 have hr' := hr
 obtain ⟨v, u, g, r, rfl, _, h1, h2, h3, h4⟩ := hr
 obtain ⟨D, dc, rfl, _⟩ := rSl.elems h1
 obtain ⟨B, bc, rfl, _⟩ := rSl.elems h2
 obtain ⟨G, gc, rfl, _⟩ := rSl.elems h3
 obtain ⟨R, rc, rfl, _⟩ := rSl.elems h4
 exact ⟨D, dc, B, bc, G, gc, R, rc, hr', hc 0 _ rfl, hc 1 _ rfl, hc 2 _ rfl, hc 3 _ rfl, hc 4 _ rfl, hc 5 _ rfl, hc 6 _ rfl⟩
theorem SesAt.keep (h : SesAt w sb o T x) (hk : Keeps (fun b => T b \/ b = sb) w w') : SesAt w' sb o T x := by
 obtain ⟨xs, hr, hc⟩ := h
 exact ⟨xs, rSes.keep hr fun b hb hlt => hk b (.inl hb) hlt, fun j u hu => hk.cell (a := (zn sb (o + j))) (.inr rfl) (hc j u hu)⟩
theorem SesAt.below (h : SesAt w sb o T x) (hb : Bw w w') : SesAt w' sb o T x := h.keep (.of_below hb)
theorem SesAt.mono (h : SesAt w sb o T x) (hT : ∀ b, T b -> b < w.heap.size -> T' b) : SesAt w sb o T' x := by
 obtain ⟨xs, hr, hc⟩ := h
 exact ⟨xs, rSes.mono hr hT, hc⟩
theorem SesAt.other (h : SesAt w sb o T x) (hg : w.grownBy w' (some sb)) (hs : ¬ T sb) (hc : ∀ j, j < 7 -> w'.cell? (zn sb (o + j)) = w.cell? (zn sb (o + j))) : SesAt w' sb o T x := by
 obtain ⟨xs, hr, hx⟩ := h
 have hl := rSes.len hr
 refine ⟨xs, rSes.keep hr (.grown hg fun g hg h => by injection hg with hg; subst hg; exact hs h), fun j u hu => ?_⟩
 have hj : j < 7 := by have := (L0n.1 hu).1; have e : rSes.k = 7 := rfl; omega
 rw [hc j hj]
 exact hx j u hu
theorem SesAt.set1 {x' : Ses} (h : SesAt w sb o T x) (hs : ¬ T sb) (i : Nat) (u : Value) (_hi : i < 7) (hr : ∀ xs, rSes.rel w T xs x -> rSes.rel w T (xs.set i u) x') : SesAt (w.setCell (zn sb (o + i)) u) sb o T x' := by
 obtain ⟨xs, hx, hc⟩ := h
 have hl : xs.length = 7 := rSes.len hx
 refine ⟨xs.set i u, rSes.keep (hr xs hx) (.setCell (p := (zn sb (o + i))) hs u), fun j v hv => ?_⟩
 rw [List.getElem?_set] at hv
 split at hv
 ·rename_i hij
  subst hij
  split at hv
  ·cases hv
   have h1 := hc i xs[i] (L0f (by omega))
   exact L0e _ _ _ h1
  cases hv
 rename_i hij
 exact (L0a _ _ _ _ (by simp <;> omega)).trans (hc j v hv)
theorem SesAt.setGone (h : SesAt w sb o T x) (hs : ¬ T sb) {u : Value} {l : List Txt} (hu : (rSl rStr).rel w T [u] l) : SesAt (w.setCell (zn sb (o + 5)) u) sb o T { x with gone := l } := by
 refine h.set1 hs 5 u (by decide) fun xs hx => ?_
 obtain ⟨v, y, g, r, rfl, h0, h1, h2, h3, h4⟩ := hx
 exact ⟨v, y, u, r, rfl, h0, h1, h2, hu, h4⟩
theorem SesAt.setRead (h : SesAt w sb o T x) (hs : ¬ T sb) {u : Value} {l : List Txt} (hu : (rSl rStr).rel w T [u] l) : SesAt (w.setCell (zn sb (o + 6)) u) sb o T { x with read := l } := by
 refine h.set1 hs 6 u (by decide) fun xs hx => ?_
 obtain ⟨v, y, g, r, rfl, h0, h1, h2, h3, h4⟩ := hx
 exact ⟨v, y, g, u, rfl, h0, h1, h2, h3, hu⟩
theorem SesAt.setMine (h : SesAt w sb o T x) (hs : ¬ T sb) {v u : Value} {b : Bk} (hb : rBk.rel w T [v, u] b) : SesAt ((w.setCell (zn sb (o + 3)) v).setCell (zn sb (o + 4)) u) sb o T { x with mine := b } := by
 obtain ⟨v', u', e, h1, h2⟩ := hb
 simp only [L1f, and_true] at e
 obtain ⟨rfl, rfl⟩ := e
 have k : SesAt (w.setCell (zn sb (o + 3)) v) sb o T { x with mine := ⟨b.doms, x.mine.tabs⟩ } := by
  refine h.set1 hs 3 v (by decide) fun xs hx => ?_
  obtain ⟨v1, y, g, r, rfl, q0, q1, q2, q3, q4⟩ := hx
  exact ⟨v, y, g, r, rfl, q0, h1, q2, q3, q4⟩
 refine k.set1 hs 4 u (by decide) fun xs hx => ?_
 obtain ⟨v1, y, g, r, rfl, q0, q1, q2, q3, q4⟩ := hx
 exact ⟨v1, u, g, r, rfl, q0, q1, (rSl rTb).keep h2 (.setCell (p := (zn sb (o + 3))) hs v), q3, q4⟩
end
structure Wrote (sb o : Nat) (w w' : World) : Prop where
 hg : w.grownBy w' (some sb)
 cell : ∀ j, j < o \/ o + 7 <= j -> w'.cell? (zn sb j) = w.cell? (zn sb j)
 frz : ∀ j, w'.frozen? (zn sb j) = w.frozen? (zn sb j)
section
variable {w w' w'' : World} {sb o : Nat}
theorem Wrote.refl (sb o : Nat) (w : World) : Wrote sb o w w := ⟨⟨rfl, rfl, rfl, L0g _, fun _ _ _ => rfl⟩, fun _ _ => rfl, fun _ => rfl⟩
theorem Wrote.trans (h : Wrote sb o w w') (k : Wrote sb o w' w'') : Wrote sb o w w'' := ⟨Z0f h.hg k.hg, fun j hj => (k.cell j hj).trans (h.cell j hj), fun j => (k.frz j).trans (h.frz j)⟩
theorem Wrote.below (h : Bw w w') (hs : sb < w.heap.size) : Wrote sb o w w' := ⟨Z0i h, fun j _ => h.ce j hs, fun j => h.fr j hs⟩
theorem Wrote.set (i : Nat) (hi : i < 7) (u : Value) : Wrote sb o w (w.setCell (zn sb (o + i)) u) :=
 ⟨⟨rfl, rfl, rfl, by simp [jE], fun k _ hn => L3 w _ u k fun e => hn (by rw [e])⟩, fun j hj => L0a _ _ _ _ (by simp <;> omega), fun j => by rw [L0k]⟩
theorem Wrote.keeps {S : Nat -> Prop} (h : Wrote sb o w w') (hs : ¬ S sb) : Keeps S w w' := .grown h.hg fun g hg h => by injection hg with hg; subst hg; exact hs h
end
def LibC (C : Nat -> Prop) (w : World) : Prop := ∀ w', Chg C w w' -> LibW w' /\ PolW w'
theorem LibC.lib {C : Nat -> Prop} {w : World} (h : LibC C w) : LibW w := (h w (.refl _ _)).1
theorem LibC.pol {C : Nat -> Prop} {w : World} (h : LibC C w) : PolW w := (h w (.refl _ _)).2
theorem LibC.chg {C C' : Nat -> Prop} {w w' : World} (h : LibC C w) (hc : Chg C w w') (hC : ∀ q, C' q -> C q \/ w.heap.size <= q) : LibC C' w' := fun _ k => h _ (hc.next k hC)
theorem LibC.below {C : Nat -> Prop} {w w' : World} (h : LibC C w) (hb : Bw w w') : LibC C w' := h.chg (.below hb) fun _ h => .inl h
theorem OwnS.wide {α : Type} {R : Rd α} {e : TypeId} {w : World} {base : Nat} {S S' : Nat -> Prop} {v : Value} {xs : List α} (h : OwnS R e w base S v xs) (hS : ∀ b, S b -> b < w.heap.size -> S' b) (hn : ∀ g, v.ownBlock = some g -> ¬ S' g) : OwnS R e w base S' v xs := by
 obtain ⟨cells, h1, _, h3, h4⟩ := h
 exact ⟨cells, h1, hn, h3, fun i x hx => R.mono (h4 i x hx) hS⟩
structure StoAt (w : World) (sb : Nat) (C T : Nat -> Prop) (st : Sto) : Prop where
 row : ∃ v, w.cell? (zn sb 0) = some v /\ OwnS rBk 38 w 0 T v st.states /\ ∀ g, v.ownBlock = some g -> C g /\ g ≠ sb
 ses : ∀ k, k < 4 -> SesAt w sb (1 + k * 7) T (st.ses k)
 act : w.cell? (zn sb 29) = some (.int .i64 st.acts)
 frz : ∀ j, w.frozen? (zn sb j) = false
 csb : C sb
 cw : ∀ q, C q -> q < w.heap.size
 tw : ∀ q, T q -> q < w.heap.size
 ct : ∀ q, T q -> ¬ C q
section
variable {w w' : World} {sb k : Nat} {C C' T T' : Nat -> Prop} {st : Sto} {x : Ses}
theorem StoAt.lt (h : StoAt w sb C T st) : sb < w.heap.size := h.cw sb h.csb
theorem StoAt.nT (h : StoAt w sb C T st) : ¬ T sb := fun ht => h.ct sb ht h.csb
theorem StoAt.keep (h : StoAt w sb C T st) (hk : Keeps (fun b => T b \/ C b) w w') (hz : w.heap.size <= w'.heap.size) : StoAt w' sb C T st := by
 obtain ⟨v, h0, h1, h2⟩ := h.row
 have ks : ∀ j, w'.cell? (zn sb j) = w.cell? (zn sb j) := fun j => L1d (hk sb (.inr h.csb) h.lt)
 refine ⟨⟨v, (ks 0).trans h0, ?_, h2⟩, fun j hj => (h.ses j hj).keep fun b hb hl => hk b (hb.imp id fun e => by rw [e]; exact h.csb) hl, (ks 29).trans h.act, fun j => (L1a (hk sb (.inr h.csb) h.lt)).trans (h.frz j), h.csb, fun q hq => L0c (h.cw q hq) hz, fun q hq => L0c (h.tw q hq) hz, h.ct⟩
 obtain ⟨cells, k1, k2, k3, k4⟩ := h1
 refine ⟨cells, ⟨k1.1, ?_⟩, k2, k3, fun i y hy => rBk.keep (k4 i y hy) fun b hb hl => hk b (.inl hb) hl⟩
 rcases k1.2 with h0 | ⟨g, cap, cur, hv, hb, hh, hrest⟩
 ·exact .inl h0
 have hg := h2 g (by rw [hv]; rfl)
 exact .inr ⟨g, cap, cur, hv, hb, (hk g (.inr hg.1) (h.cw g hg.1)).trans hh, hrest⟩
theorem StoAt.below (h : StoAt w sb C T st) (hb : Bw w w') : StoAt w' sb C T st := h.keep (.of_below hb) hb.size
theorem StoAt.wide (h : StoAt w sb C T st) (hT : ∀ q, T q -> T' q) (hw : ∀ q, T' q -> q < w.heap.size) (hc : ∀ q, T' q -> ¬ C q) : StoAt w sb C T' st := by
 obtain ⟨v, h0, h1, h2⟩ := h.row
 exact ⟨⟨v, h0, h1.wide (fun b hb _ => hT b hb) fun g hg ht => hc g ht (h2 g hg).1, h2⟩, fun j hj => (h.ses j hj).mono fun b hb _ => hT b hb, h.act, h.frz, h.csb, h.cw, hw, hc⟩
theorem StoAt.setSes (h : StoAt w sb C T st) (hk : k < 4) (hw : Wrote sb (1 + k * 7) w w') (hx : SesAt w' sb (1 + k * 7) T' x) (hT : ∀ q, T q -> T' q) (hT1 : ∀ q, T' q -> q < w'.heap.size) (hT2 : ∀ q, T' q -> T q \/ w.heap.size <= q) : StoAt w' sb C T' (st.put k x) := by
 obtain ⟨v, h0, h1, h2⟩ := h.row
 have hct : ∀ q, T' q -> ¬ C q := fun q hq hc => by
  rcases hT2 q hq with h' | h'
  ·exact h.ct q h' hc
  have := h.cw q hc; omega
 refine ⟨⟨v, (hw.cell 0 (by omega)).trans h0, ?_, h2⟩, fun j hj => ?_, (hw.cell 29 (by omega)).trans h.act, fun j => (hw.frz j).trans (h.frz j), h.csb, fun q hq => L0c (h.cw q hq) hw.hg.size, hT1, hct⟩
 ·exact (h1.grown hw.hg fun g hg => by injection hg with hg; subst hg; exact ⟨fun e => (h2 _ e).2 rfl, h.nT⟩).wide (fun b hb _ => hT b hb) fun g hg ht => hct g ht (h2 g hg).1
 show SesAt w' sb (1 + j * 7) T' (if j = k then x else st.ses j)
 split
 ·rename_i e; subst e; exact hx
 rename_i e
 exact ((h.ses j hj).other hw.hg h.nT fun i hi => hw.cell _ (by omega)).mono fun b hb _ => hT b hb
theorem StoAt.setAct (h : StoAt w sb C T st) (n : Nat) : StoAt (w.setCell (zn sb 29) (.int .i64 n)) sb C T { st with acts := n } := by
 obtain ⟨v, h0, h1, h2⟩ := h.row
 have hg : w.grownBy (w.setCell (zn sb 29) (.int .i64 n)) (some sb) := ⟨rfl, rfl, rfl, by simp [jE], fun k _ hn => L3 w _ _ k fun e => hn (by rw [e])⟩
 have hz : (w.setCell (zn sb 29) (.int .i64 n)).heap.size = w.heap.size := by simp [jE]
 refine ⟨⟨v, (cso).trans h0, h1.grown hg fun g hg => by injection hg with hg; subst hg; exact ⟨fun e => (h2 _ e).2 rfl, h.nT⟩, h2⟩, fun j hj => ?_, L0e _ _ _ h.act, fun j => by rw [L0k]; exact h.frz j, h.csb, fun q hq => by rw [hz]; exact h.cw q hq, fun q hq => by rw [hz]; exact h.tw q hq, h.ct⟩
 exact (h.ses j hj).other hg h.nT fun i hi => L0a _ _ _ _ (by simp <;> omega)
theorem Wrote.chg {o : Nat} (h : Wrote sb o w w') (hc : C sb) : Chg C w w' := .grown h.hg fun g hg => by injection hg with hg; subst hg; exact .inl hc
theorem Z7j {o : Nat} (hx : SesAt w sb o T x) (hs : ¬ T sb) (a b : Bool) (f : Int) (hf : InI f) :
  ∃ W, ((((((w.setCell (zn sb o) (.bool a)).setCell (zn sb (o + 1)) (.bool b)).setCell (zn sb (o + 2)) (.int .i64 f)).setCell (zn sb (o + 3)) (nl)).setCell (zn sb (o + 4)) (nl)).setCell (zn sb (o + 5)) (nl)).setCell (zn sb (o + 6)) (nl) = W /\
   Hid (SesAt W sb o T ⟨a, b, f, bk0, [], []⟩) /\ Hid (Wrote sb o w W) /\ Hid (W.heap.size = w.heap.size) := by
 have n0 : ∀ {α : Type} (R : Rd α) (w : World), (rSl R).rel w T [nl] [] := fun R w => ⟨none, 0, rfl, L0g _, by decide, by simp, fun i x hx => by simp at hx⟩
 have k0 := hx.set1 (x' := { x with opn := a }) hs 0 (.bool a) (by decide) (by rintro xs ⟨v, y, g, r, rfl, h0, h1, h2, h3, h4⟩; exact ⟨v, y, g, r, rfl, h0, h1, h2, h3, h4⟩)
 have k1 := k0.set1 (x' := { x with opn := a, strict := b }) hs 1 (.bool b) (by decide) (by rintro xs ⟨v, y, g, r, rfl, h0, h1, h2, h3, h4⟩; exact ⟨v, y, g, r, rfl, h0, h1, h2, h3, h4⟩)
 have k2 := k1.set1 (x' := { x with opn := a, strict := b, frm := f }) hs 2 (.int .i64 f) (by decide) (by rintro xs ⟨v, y, g, r, rfl, h0, h1, h2, h3, h4⟩; exact ⟨v, y, g, r, rfl, hf, h1, h2, h3, h4⟩)
 have k3 := k2.set1 (x' := { x with opn := a, strict := b, frm := f, mine := ⟨[], x.mine.tabs⟩ }) hs 3 (nl) (by decide) (by rintro xs ⟨v, y, g, r, rfl, h0, h1, h2, h3, h4⟩; exact ⟨_, y, g, r, rfl, h0, n0 _ _, h2, h3, h4⟩)
 have k4 := k3.set1 (x' := { x with opn := a, strict := b, frm := f, mine := bk0 }) hs 4 (nl) (by decide) (by rintro xs ⟨v, y, g, r, rfl, h0, h1, h2, h3, h4⟩; exact ⟨v, _, g, r, rfl, h0, h1, n0 _ _, h3, h4⟩)
 have k5 := k4.set1 (x' := { x with opn := a, strict := b, frm := f, mine := bk0, gone := [] }) hs 5 (nl) (by decide) (by rintro xs ⟨v, y, g, r, rfl, h0, h1, h2, h3, h4⟩; exact ⟨v, y, _, r, rfl, h0, h1, h2, n0 _ _, h4⟩)
 have k6 := k5.set1 (x' := ⟨a, b, f, bk0, [], []⟩) hs 6 (nl) (by decide) (by rintro xs ⟨v, y, g, r, rfl, h0, h1, h2, h3, h4⟩; exact ⟨v, y, g, _, rfl, h0, h1, h2, h3, n0 _ _⟩)
 refine ⟨_, rfl, L0 k6, L0 ?_, L0 (by simp [jE])⟩
 exact ((((((Wrote.set 0 (by decide) _).trans (.set 1 (by decide) _)).trans (.set 2 (by decide) _)).trans (.set 3 (by decide) _)).trans (.set 4 (by decide) _)).trans (.set 5 (by decide) _)).trans (.set 6 (by decide) _)
end
theorem X3x {w W : World} (h1 : W.heap.size = w.heap.size + 2) (h2 : W.heap[w.heap.size]? = some (.cells #[nl, nl] 38 (0, 0))) (h3 : ∀ j u, [.slice (some (zn w.heap.size 0)) 1 1, .bool false, .bool false, .int .i64 0, nl, nl, nl, nl, .bool false, .bool false, .int .i64 0, nl, nl, nl, nl, .bool false, .bool false, .int .i64 0, nl, nl, nl, nl, .bool false, .bool false, .int .i64 0, nl, nl, nl, nl, .int .i64 0][j]? = some u -> W.cell? (zn (w.heap.size + 1) j) = some u) (h4 : ∀ j, W.frozen? (zn (w.heap.size + 1) j) = false) :
  StoAt W (w.heap.size + 1) (fun q => q = w.heap.size \/ q = w.heap.size + 1) (fun _ => False) sto0 := by
 refine ⟨⟨.slice (some (zn w.heap.size 0)) 1 1, h3 0 _ rfl, ⟨[nl, nl], ⟨rfl, .inr ⟨w.heap.size, 1, _, rfl, L0o _, h2, L0g _, by decide, rfl, rfl⟩⟩, fun _ _ h => h, fun _ => by decide, fun i x hx => ?_⟩, fun g hg => ?_⟩, fun k hk => ?_, h3 29 _ rfl, h4, .inr rfl, fun q hq => by rcases hq with rfl | rfl <;> omega, fun q hq => hq.elim, fun q hq => hq.elim⟩
 ·match i, hx with
  | 0, hx =>
   obtain rfl : bk0 = x := by simpa [sto0] using hx
   exact ⟨_, _, rfl, Z01 _ _, Z01 _ _⟩
  | i + 1, hx => simp [sto0] at hx
 ·simp [Value.ownBlock] at hg
  subst hg
  exact ⟨.inl rfl, by omega⟩
 refine ⟨[.bool false, .bool false, .int .i64 0, nl, nl, nl, nl], ⟨_, _, _, _, rfl, (show InI 0 from ⟨by decide, by decide⟩), Z01 _ _, Z01 _ _, Z01 _ _, Z01 _ _⟩, fun j u hu => ?_⟩
 refine h3 (1 + k * 7 + j) u ?_
 have hj : j < 7 := by have := (L0n.1 hu).1; simpa using this
 have hk' : k = 0 \/ k = 1 \/ k = 2 \/ k = 3 := by omega
 have hj' : j = 0 \/ j = 1 \/ j = 2 \/ j = 3 \/ j = 4 \/ j = 5 \/ j = 6 := by omega
 rcases hk' with rfl | rfl | rfl | rfl <;> rcases hj' with rfl | rfl | rfl | rfl | rfl | rfl | rfl <;> exact hu
theorem X2z (w : World) : Calls Tryz.prog 26 #[] w fun e w' => e = .returned (.pointer (some (zn (w.heap.size + 1) 0))) /\ StoAt w' (w.heap.size + 1) (fun q => q = w.heap.size \/ q = w.heap.size + 1) (fun _ => False) sto0 /\ Bw w w' := by
 obtain ⟨W, e0, HB, HS, H2, H3, H4⟩ : ∃ W, (w.alloc (.cells #[nl, nl] 38)).alloc (.cells #[.slice (some (zn w.heap.size 0)) 1 1, .bool false, .bool false, .int .i64 0, nl, nl, nl, nl, .bool false, .bool false, .int .i64 0, nl, nl, nl, nl, .bool false, .bool false, .int .i64 0, nl, nl, nl, nl, .bool false, .bool false, .int .i64 0, nl, nl, nl, nl, .int .i64 0] 79) = W /\ Hid (Bw w W) /\ Hid (W.heap.size = w.heap.size + 2) /\ Hid (W.heap[w.heap.size]? = some (.cells #[nl, nl] 38 (0, 0))) /\
   Hid (∀ j u, [.slice (some (zn w.heap.size 0)) 1 1, .bool false, .bool false, .int .i64 0, nl, nl, nl, nl, .bool false, .bool false, .int .i64 0, nl, nl, nl, nl, .bool false, .bool false, .int .i64 0, nl, nl, nl, nl, .bool false, .bool false, .int .i64 0, nl, nl, nl, nl, .int .i64 0][j]? = some u -> W.cell? (zn (w.heap.size + 1) j) = some u) /\ Hid (∀ j, W.frozen? (zn (w.heap.size + 1) j) = false) := by
  have z1 : (w.alloc (.cells #[nl, nl] 38)).heap.size = w.heap.size + 1 := by simp
  refine ⟨_, rfl, L0 (bA.alloc (by simp) _), L0 (by simp), L0 ?_, L0 fun j u hu => ?_, L0 fun j => ?_⟩
  ·exact (L3z _ _ _ (by simp)).trans (heap_alloc_new w _)
  ·rw [<- z1]
   exact (L0b _ _ _ _).trans (by simpa using hu)
  rw [<- z1]
  simp
 go_enter Tryz.func26, Tryz.ntmps26
 go_wp2
 go_ret
 exact ⟨rfl, X3x HS.o H2.o H3.o H4.o, HB.o⟩
def Y47 (st : Sto) : Option Nat := (List.range 4).find? fun k => !(st.ses k).opn
def sesN (n : Int) (m : Nat) : Ses := ⟨true, n == 1, (m : Int) - 1, bk0, [], []⟩
def Z4q (st : Sto) (n : Int) : Rep × Sto :=
 if n ≠ 0 /\ n ≠ 1 then (noR 2, st)
 else match Y47 st with
  | some k => (⟨0, k, [], [], []⟩, st.put k (sesN n st.states.length))
  | none => (noR 11, st)
theorem Y0x {st : Sto} {k : Nat} (hk : k < 4) (h : (st.ses k).opn = false) (hl : ∀ j, j < k -> (st.ses j).opn = true) : Y47 st = some k := by
 unfold Y47
 rw [List.find?_eq_some_iff_append]
 refine ⟨by simp [h], List.range k, (List.range' (k + 1) (4 - k - 1)), ?_, fun a ha => by simpa using hl a (L2k.1 ha)⟩
 have hk' : k = 0 \/ k = 1 \/ k = 2 \/ k = 3 := by omega
 rcases hk' with rfl | rfl | rfl | rfl <;> rfl
theorem Y0w {st : Sto} (hl : ∀ j, j < 4 -> (st.ses j).opn = true) : Y47 st = none := by
 unfold Y47
 rw [L3m]
 intro x hx
 simp [hl x (List.mem_range.1 hx)]
theorem Z2q {w : World} {S : Nat -> Prop} {c n : Int} {s : Txt} (h1 : InI c) (h2 : InI n) (h3 : s.length <= 140737488355328) : rRep.rel w S [.int .i64 c, .int .i64 n, sq s, nl, nl] ⟨c, n, s, [], []⟩ :=
 ⟨_, _, rfl, h1, h2, h3, Z01 _ _, Z01 _ _⟩
theorem Y38 {w : World} (h : Bw w w) : ∃ W, w.alloc (.cells #[.int .i64 0, .int .i64 0, .string ⟨#[]⟩, nl, nl] 30) = W /\ Hid (Bw w W) /\ Hid (W.heap.size = w.heap.size + 1) /\
  Hid (W.cell? (zn w.heap.size 0) = some (.int .i64 0) /\ W.cell? (zn w.heap.size 1) = some (.int .i64 0) /\ W.cell? (zn w.heap.size 2) = some (.string ⟨#[]⟩) /\ W.cell? (zn w.heap.size 3) = some (nl) /\ W.cell? (zn w.heap.size 4) = some (nl)) /\ Hid (∀ j, W.frozen? (zn w.heap.size j) = false) :=
 ⟨_, rfl, L0 (h.alloc (L0g _) _), L0 (by simp), L0 ⟨L0b _ _ _ _, L0b _ _ _ _, L0b _ _ _ _, L0b _ _ _ _, L0b _ _ _ _⟩, L0 fun j => by simp⟩
theorem Z1r {w : World} {q : Nat} {u0 u1 u2 u3 u4 : Value} (v0 v1 v2 v3 v4 : Value) (h0 : w.cell? (zn q 0) = some u0) (h1 : w.cell? (zn q 1) = some u1) (h2 : w.cell? (zn q 2) = some u2) (h3 : w.cell? (zn q 3) = some u3) (h4 : w.cell? (zn q 4) = some u4) :
  ∃ W, ((((w.setCell (zn q 0) v0).setCell (zn q 1) v1).setCell (zn q 2) v2).setCell (zn q 3) v3).setCell (zn q 4) v4 = W /\ Hid (w.grownBy W (some q)) /\ W.cell? (zn q 0) = some v0 /\ W.cell? (zn q 1) = some v1 /\ W.cell? (zn q 2) = some v2 /\ W.cell? (zn q 3) = some v3 /\ W.cell? (zn q 4) = some v4 := by
 refine ⟨_, rfl, L0 (Z0b [v0, v1, v2, v3, v4] 0 : w.grownBy (w.setCells q 0 [v0, v1, v2, v3, v4]) (some q)), ?_, ?_, ?_, ?_, ?_⟩
 ·exact (cso).trans ((cso).trans ((cso).trans ((cso).trans (L0e _ _ _ h0))))
 ·exact (cso).trans ((cso).trans ((cso).trans (L0e _ _ _ ((cso).trans h1))))
 ·exact (cso).trans ((cso).trans (L0e _ _ _ ((cso).trans ((cso).trans h2))))
 ·exact (cso).trans (L0e _ _ _ ((cso).trans ((cso).trans ((cso).trans h3))))
 exact L0e _ _ _ ((cso).trans ((cso).trans ((cso).trans ((cso).trans h4))))
theorem Y26 {s : Nat} {fn : Func} {R : Ending -> World -> Prop} {a : Act} {w : World} {q : Nat} {v0 v1 v2 v3 v4 : Value} (hres : fn.results = #[.cell s 30]) (ha : a.tmps.getD s undef = .pointer (some (zn q 0))) (hd : a.defers = []) (c0 : w.cell? (zn q 0) = some v0) (c1 : w.cell? (zn q 1) = some v1) (c2 : w.cell? (zn q 2) = some v2) (c3 : w.cell? (zn q 3) = some v3) (c4 : w.cell? (zn q 4) = some v4)
  (hR : R (.returned (.agg #[v0, v1, v2, v3, v4])) w) : bodyPost Tryz.prog fn R .ret a w := by
 refine bodyPost_ret ?_ hd hR
 have ha' : a.tmps[s]?.getD undef = .pointer (some (zn q 0)) := by simpa using ha
 simp [results, hres, ha', go_sem, c0, c1, c2, c3, c4]
structure RepRet (R : Ending -> World -> Prop) (s : Nat) (a : Act) (w : World) : Prop where
 hd : a.defers = []
 hr : ∃ q v0 v1 v2 v3 v4, a.tmps.getD s undef = .pointer (some (zn q 0)) /\ (w.cell? (zn q 0) = some v0 /\ w.cell? (zn q 1) = some v1 /\ w.cell? (zn q 2) = some v2 /\ w.cell? (zn q 3) = some v3 /\ w.cell? (zn q 4) = some v4) /\ R (.returned (.agg #[v0, v1, v2, v3, v4])) w
def Y8d (R : Ending -> World -> Prop) (s : Nat) : Exit -> Act -> World -> Prop
 | .ret, a, w => RepRet R s a w
 | _, _, _ => False
theorem Z0k {fn : Func} {R : Ending -> World -> Prop} {s : Nat} (hres : fn.results = #[.cell s 30]) : ∀ e a w, Y8d R s e a w -> bodyPost Tryz.prog fn R e a w := by
 intro e a w h
 cases e with
 | ret =>
  obtain ⟨hd, q, v0, v1, v2, v3, v4, ha, ⟨c0, c1, c2, c3, c4⟩, hR⟩ := h
  exact Y26 hres ha hd c0 c1 c2 c3 c4 hR
 | _ => exact h.elim
theorem Z0g {R : Ending -> World -> Prop} {s : Nat} {a : Act} {w : World} {q : Nat} {v0 v1 v2 v3 v4 : Value} (ha : a.tmps.getD s undef = .pointer (some (zn q 0))) (hd : a.defers = []) (c0 : w.cell? (zn q 0) = some v0) (c1 : w.cell? (zn q 1) = some v1) (c2 : w.cell? (zn q 2) = some v2) (c3 : w.cell? (zn q 3) = some v3) (c4 : w.cell? (zn q 4) = some v4)
  (hR : R (.returned (.agg #[v0, v1, v2, v3, v4])) w) : Y8d R s .ret a w := ⟨hd, q, v0, v1, v2, v3, v4, ha, ⟨c0, c1, c2, c3, c4⟩, hR⟩
theorem Y40 {w W W' : World} {q : Nat} {C : Nat -> Prop} (hb : Bw w W) (hg : W.grownBy W' (some q)) (hq : w.heap.size <= q) : Chg C w W' :=
 (Chg.below hb).next (C' := fun b => b = q) (.grown hg fun g hg => by injection hg with hg; exact .inl hg.symm) fun b hb => .inr (by omega)
theorem StoAt.away {w w' : World} {sb q : Nat} {C T : Nat -> Prop} {st : Sto} (h : StoAt w sb C T st) (hg : w.grownBy w' (some q)) (hq : ¬ T q /\ ¬ C q) : StoAt w' sb C T st :=
 h.keep (.grown hg fun g hg hb => by injection hg with hg; subst hg; exact hb.elim hq.1 hq.2) hg.size
theorem X0m {C T : Nat -> Prop} {sb : Nat} {st : Sto} (n : Int) (w : World) (h : StoAt w sb C T st) (_hn : InI n) (hl : 0 < st.states.length) :
  Calls Tryz.prog 32 #[.pointer (some (zn sb 0)), .int .i64 n] w fun e w' => ∃ rs, e = .returned (.agg rs.toArray) /\ rRep.rel w' (fun _ => False) rs (Z4q st n).1 /\ StoAt w' sb C T (Z4q st n).2 /\ Chg C w w' := by
 have HSL := L0 h.lt
 obtain ⟨W, e0, HB, HZ, HC, HF⟩ := Y38 (L0m w.heap.size w)
 have HA : Hid (StoAt W sb C T st) := L0 (h.below HB.o)
 have HQ : Hid (¬ T w.heap.size /\ ¬ C w.heap.size) := L0 ⟨fun ht => L3y _ (h.tw _ ht), fun hc => L3y _ (h.cw _ hc)⟩
 have HL := L0 hl
 obtain ⟨c0, c1, c2, c3, c4⟩ := HC.o
 have f0 := HF.o 0
 have f1 := HF.o 1
 have f2 := HF.o 2
 have f3 := HF.o 3
 have f4 := HF.o 4
 clear h _hn hl
 have hcs : (n ≠ 0 /\ n ≠ 1) \/ n = 0 \/ n = 1 := by omega
 rcases hcs with ⟨h0, h1⟩ | h01
 ·have HO : Hid (Z4q st n = (noR 2, st)) := L0 (by unfold Z4q; rw [if_pos ⟨h0, h1⟩])
  have q0 : (n != 0) = true := bne_iff_ne.2 h0
  have q1 : (n != 1) = true := bne_iff_ne.2 h1
  obtain ⟨W2, e2, HG2, d0, d1, d2, d3, d4⟩ := Z1r (.int .i64 2) (.int .i64 0) (.string ⟨#[]⟩) (nl) (nl) c0 c1 c2 c3 c4
  clear h0 h1
  go_enter Tryz.func32, Tryz.ntmps32
  refine Code.wp_mono (Z0k Tryz.results32) ?_
  go_wp2
  refine Z0g (by rfl) rfl d0 d1 d2 d3 d4 ?_
  exact ⟨[.int .i64 2, .int .i64 0, .string ⟨#[]⟩, nl, nl], rfl, by rw [HO.o]; exact Z2q (by unfold InI; omega) (by unfold InI; omega) (by simp), by rw [HO.o]; exact HA.o.away HG2.o HQ.o, Y40 HB.o HG2.o (L0g _)⟩
 have hl2 : st.states.length <= 2932031007402 := by
  obtain ⟨v, _, h1, _⟩ := HA.o.row
  obtain ⟨_, _, _, h3, _⟩ := h1
  have := h3 (by decide)
  simp only [rBk] at this
  omega
 obtain ⟨A, ac, s0⟩ : ∃ A c, W.cell? (zn sb 0) = some (.slice A st.states.length c) := by
  obtain ⟨v, h0, h1, _⟩ := HA.o.row
  obtain ⟨A, c, rfl⟩ := h1.value
  exact ⟨A, c, h0⟩
 have HS0 := L0 s0
 clear s0
 rcases h01 with rfl | rfl
 ·have HT0 := L0 HA.o.tw
  go_enter Tryz.func32, Tryz.ntmps32
  refine Code.wp_mono (Z0k Tryz.results32) ?_
  go_wp2
  go_loop [5, 13] (fun _ si => ∃ k : Nat, si = .int .i64 k /\ k <= 4 /\ Hid (∀ j, j < k -> (st.ses j).opn = true)) (fun _ si => 4 - (intOf si).toNat)
  exact ⟨0, by go_num, L0o _, L0 fun j hj => absurd hj (jC _)⟩
  obtain ⟨k, rfl, hk, HK⟩ := hrel
  by_cases hlt : k < 4
  ·have hki : (k : Int) < 4 := by omega
   have hk0 : (0 : Int) <= k := by omega
   obtain ⟨D, dc, B, bc, G, gc, R, rc, hr, b0, b1, b2, b3, b4, b5, b6⟩ := (HA.o.ses k hlt).out
   cases ho : (st.ses k).opn
   ·have s0 := HS0.o
    have g0 : W.frozen? (zn sb (1 + k * 7)) = false := HA.o.frz _
    have g1 : W.frozen? (zn sb (1 + k * 7 + 1)) = false := HA.o.frz _
    have g2 : W.frozen? (zn sb (1 + k * 7 + 2)) = false := HA.o.frz _
    have g3 : W.frozen? (zn sb (1 + k * 7 + 3)) = false := HA.o.frz _
    have g4 : W.frozen? (zn sb (1 + k * 7 + 4)) = false := HA.o.frz _
    have g5 : W.frozen? (zn sb (1 + k * 7 + 5)) = false := HA.o.frz _
    have g6 : W.frozen? (zn sb (1 + k * 7 + 6)) = false := HA.o.frz _
    rw [ho] at b0
    have HO : Hid (Z4q st 0 = (⟨0, k, [], [], []⟩, st.put k (sesN 0 st.states.length))) := L0 (by unfold Z4q; rw [if_neg (by simp), Y0x hlt ho HK.o])
    obtain ⟨WS, eS, HX, HWR, HZS⟩ := Z7j (HA.o.ses k hlt) HA.o.nT true false ((st.states.length : Int) - 1) (by unfold InI; have := HL.o; omega)
    have hne : some w.heap.size ≠ some sb := fun e => by injection e with e; have := HSL.o; omega
    have d0 := HWR.o.hg.cell c0 hne
    have d1 := HWR.o.hg.cell c1 hne
    have d2 := HWR.o.hg.cell c2 hne
    have d3 := HWR.o.hg.cell c3 hne
    have d4 := HWR.o.hg.cell c4 hne
    have hfz : ∀ j, WS.frozen? (zn w.heap.size j) = false := fun j => (L1a (HWR.o.hg.block _ (by have := HZ.o; show w.heap.size < _; omega) hne)).trans (HF.o j)
    have z0 := hfz 0
    have z1 := hfz 1
    have z2 := hfz 2
    have z3 := hfz 3
    have z4 := hfz 4
    obtain ⟨W5, e5, HG5, r0, r1, r2, r3, r4⟩ := Z1r (.int .i64 0) (.int .i64 k) (.string ⟨#[]⟩) (nl) (nl) d0 d1 d2 d3 d4
    clear ho hr hfz hne
    go_upto_region 7 with fail
    go_region
    go_wp2
    refine Z0g (by rfl) rfl r0 r1 r2 r3 r4 ?_
    have hd : Bw W5 W5.drew := ⟨rfl, rfl, rfl, L0g _, fun _ _ => rfl⟩
    have hs1 : StoAt WS sb C T (st.put k (sesN 0 st.states.length)) := HA.o.setSes hlt HWR.o HX.o (fun _ h => h) (fun q h => by rw [HZS.o]; exact HA.o.tw q h) fun _ h => .inl h
    refine ⟨[.int .i64 0, .int .i64 k, .string ⟨#[]⟩, nl, nl], rfl, ?_, ?_, ?_⟩
    ·rw [HO.o]
     exact Z2q (by unfold InI; omega) (by unfold InI; omega) (by simp)
    ·rw [HO.o]
     exact (hs1.away HG5.o HQ.o).below hd
    exact ((Chg.below HB.o).trans (HWR.o.chg HA.o.csb)).next (C' := fun b => b = w.heap.size) ((Chg.grown HG5.o fun g hg => by injection hg with hg; exact .inl hg.symm).trans (.below hd)) fun b hb => .inr (by omega)
   rw [ho] at b0
   have HO := L0 ho
   clear ho hr b1 b2 b3 b4 b5 b6
   go_wp2
   go_round
   exact ⟨k + 1, by go_num, by omega, L0 fun j hj => by
    rcases L1r j k with h | h
    ·exact HK.o j h
    obtain rfl : j = k := by omega
    exact HO.o⟩
   simp [intOf]; omega
  have hki : ¬ (k : Int) < 4 := by omega
  have HO : Hid (Z4q st 0 = (noR 11, st)) := L0 (by unfold Z4q; rw [if_neg (by simp), Y0w fun j hj => HK.o j (by omega)])
  obtain ⟨W5, e5, HG5, r0, r1, r2, r3, r4⟩ := Z1r (.int .i64 11) (.int .i64 0) (.string ⟨#[]⟩) (nl) (nl) c0 c1 c2 c3 c4
  go_wp2
  refine Z0g (by rfl) rfl r0 r1 r2 r3 r4 ?_
  exact ⟨[.int .i64 11, .int .i64 0, .string ⟨#[]⟩, nl, nl], rfl, by rw [HO.o]; exact Z2q (by unfold InI; omega) (by unfold InI; omega) (by simp), by rw [HO.o]; exact HA.o.away HG5.o HQ.o, Y40 HB.o HG5.o (L0g _)⟩
 have HT0 := L0 HA.o.tw
 go_enter Tryz.func32, Tryz.ntmps32
 refine Code.wp_mono (Z0k Tryz.results32) ?_
 go_wp2
 go_loop [5, 13] (fun _ si => ∃ k : Nat, si = .int .i64 k /\ k <= 4 /\ Hid (∀ j, j < k -> (st.ses j).opn = true)) (fun _ si => 4 - (intOf si).toNat)
 exact ⟨0, by go_num, L0o _, L0 fun j hj => absurd hj (jC _)⟩
 obtain ⟨k, rfl, hk, HK⟩ := hrel
 by_cases hlt : k < 4
 ·have hki : (k : Int) < 4 := by omega
  have hk0 : (0 : Int) <= k := by omega
  obtain ⟨D, dc, B, bc, G, gc, R, rc, hr, b0, b1, b2, b3, b4, b5, b6⟩ := (HA.o.ses k hlt).out
  cases ho : (st.ses k).opn
  ·have s0 := HS0.o
   have g0 : W.frozen? (zn sb (1 + k * 7)) = false := HA.o.frz _
   have g1 : W.frozen? (zn sb (1 + k * 7 + 1)) = false := HA.o.frz _
   have g2 : W.frozen? (zn sb (1 + k * 7 + 2)) = false := HA.o.frz _
   have g3 : W.frozen? (zn sb (1 + k * 7 + 3)) = false := HA.o.frz _
   have g4 : W.frozen? (zn sb (1 + k * 7 + 4)) = false := HA.o.frz _
   have g5 : W.frozen? (zn sb (1 + k * 7 + 5)) = false := HA.o.frz _
   have g6 : W.frozen? (zn sb (1 + k * 7 + 6)) = false := HA.o.frz _
   rw [ho] at b0
   have HO : Hid (Z4q st 1 = (⟨0, k, [], [], []⟩, st.put k (sesN 1 st.states.length))) := L0 (by unfold Z4q; rw [if_neg (by simp), Y0x hlt ho HK.o])
   obtain ⟨WS, eS, HX, HWR, HZS⟩ := Z7j (HA.o.ses k hlt) HA.o.nT true true ((st.states.length : Int) - 1) (by unfold InI; have := HL.o; omega)
   have hne : some w.heap.size ≠ some sb := fun e => by injection e with e; have := HSL.o; omega
   have d0 := HWR.o.hg.cell c0 hne
   have d1 := HWR.o.hg.cell c1 hne
   have d2 := HWR.o.hg.cell c2 hne
   have d3 := HWR.o.hg.cell c3 hne
   have d4 := HWR.o.hg.cell c4 hne
   have hfz : ∀ j, WS.frozen? (zn w.heap.size j) = false := fun j => (L1a (HWR.o.hg.block _ (by have := HZ.o; show w.heap.size < _; omega) hne)).trans (HF.o j)
   have z0 := hfz 0
   have z1 := hfz 1
   have z2 := hfz 2
   have z3 := hfz 3
   have z4 := hfz 4
   obtain ⟨W5, e5, HG5, r0, r1, r2, r3, r4⟩ := Z1r (.int .i64 0) (.int .i64 k) (.string ⟨#[]⟩) (nl) (nl) d0 d1 d2 d3 d4
   clear ho hr hfz hne
   go_upto_region 7 with fail
   go_region
   go_wp2
   refine Z0g (by rfl) rfl r0 r1 r2 r3 r4 ?_
   have hd : Bw W5 W5.drew := ⟨rfl, rfl, rfl, L0g _, fun _ _ => rfl⟩
   have hs1 : StoAt WS sb C T (st.put k (sesN 1 st.states.length)) := HA.o.setSes hlt HWR.o HX.o (fun _ h => h) (fun q h => by rw [HZS.o]; exact HA.o.tw q h) fun _ h => .inl h
   refine ⟨[.int .i64 0, .int .i64 k, .string ⟨#[]⟩, nl, nl], rfl, ?_, ?_, ?_⟩
   ·rw [HO.o]
    exact Z2q (by unfold InI; omega) (by unfold InI; omega) (by simp)
   ·rw [HO.o]
    exact (hs1.away HG5.o HQ.o).below hd
   exact ((Chg.below HB.o).trans (HWR.o.chg HA.o.csb)).next (C' := fun b => b = w.heap.size) ((Chg.grown HG5.o fun g hg => by injection hg with hg; exact .inl hg.symm).trans (.below hd)) fun b hb => .inr (by omega)
  rw [ho] at b0
  have HO := L0 ho
  clear ho hr b1 b2 b3 b4 b5 b6
  go_wp2
  go_round
  exact ⟨k + 1, by go_num, by omega, L0 fun j hj => by
   rcases L1r j k with h | h
   ·exact HK.o j h
   obtain rfl : j = k := by omega
   exact HO.o⟩
  simp [intOf]; omega
 have hki : ¬ (k : Int) < 4 := by omega
 have HO : Hid (Z4q st 1 = (noR 11, st)) := L0 (by unfold Z4q; rw [if_neg (by simp), Y0w fun j hj => HK.o j (by omega)])
 obtain ⟨W5, e5, HG5, r0, r1, r2, r3, r4⟩ := Z1r (.int .i64 11) (.int .i64 0) (.string ⟨#[]⟩) (nl) (nl) c0 c1 c2 c3 c4
 go_wp2
 refine Z0g (by rfl) rfl r0 r1 r2 r3 r4 ?_
 exact ⟨[.int .i64 11, .int .i64 0, .string ⟨#[]⟩, nl, nl], rfl, by rw [HO.o]; exact Z2q (by unfold InI; omega) (by unfold InI; omega) (by simp), by rw [HO.o]; exact HA.o.away HG5.o HQ.o, Y40 HB.o HG5.o (L0g _)⟩
def Z0n (b : Bk) : List Txt := b.doms.map (·.name) ++ b.tabs.map (·.name)
def Z2v (a b : Bk) (o : List Txt) (s : Txt) : List Txt := if Z0y a s == Z0y b s then o else addN o s
def Z3f (a b : Bk) : List Txt := (Z0n a ++ Z0n b).foldl (Z2v a b) []
def Nw (n : Nat) (w : World) : Nat -> Prop := fun q => n <= q /\ q < w.heap.size
theorem Nw.lt {n : Nat} {w : World} {q : Nat} (h : Nw n w q) : q < w.heap.size := h.2
theorem Z43 {α : Type} {R : Rd α} {n : Nat} {w w' : World} {cs : List Value} {x : α} (h : R.rel w (Nw n w) cs x) (hb : Bw w w') : R.rel w' (Nw n w') cs x :=
 R.mono (jD h hb) fun _ hq _ => ⟨hq.1, L0c hq.2 hb.size⟩
theorem Y9c {α : Type} {R : Rd α} {n : Nat} {w w' : World} {cs : List Value} {x : α} (h : R.rel w' (Up (Nw n w) w.heap.size) cs x) (hn : n <= w.heap.size) : R.rel w' (Nw n w') cs x :=
 R.mono h fun _ hq hl => ⟨hq.elim (fun h => h.1) (L0h hn), hl⟩
theorem Z1c (l : List Txt) (s : Txt) : (addN l s).length <= l.length + 1 := by
 unfold addN
 have := Y9f l s
 split
 ·omega
 simp only [L0i, L1i, L1b, L0r, L0v]
 omega
theorem Y4n {S S' : Nat -> Prop} {cs ds : List Value} {a b : Bk} (w : World) (h : rBk.rel w S cs a) (h' : rBk.rel w S' ds b) (hw : LibW w) (hp : PolW w) (hlen : (Z0n a).length + (Z0n b).length < 1000000000000) :
  Calls Tryz.prog 62 #[.agg cs.toArray, .agg ds.toArray] w fun e w' => ∃ u, e = .returned u /\ (rSl rStr).rel w' (Nw w.heap.size w') [u] (Z3f a b) /\ Bw w w' := by
 have HL0 := L0 h
 have HL0' := L0 h'
 have HLEN := L0 hlen
 obtain ⟨v, u, rfl, ha, hi⟩ := h
 obtain ⟨v', u', rfl, ha', hi'⟩ := h'
 obtain ⟨A, c, rfl, _, _, hby, hE⟩ := rSl.elems ha
 obtain ⟨B, d, rfl, _, _, hby2, hI⟩ := rSl.elems hi
 obtain ⟨A', c', rfl, _, _, hby3, hE'⟩ := rSl.elems ha'
 obtain ⟨B', d', rfl, _, _, hby4, hI'⟩ := rSl.elems hi'
 have hln : a.doms.length <= 4398046511104 := by simp only [rDm] at hby; omega
 have hlm : a.tabs.length <= 1759218604441 := by simp only [rTb] at hby2; omega
 have hln' : b.doms.length <= 4398046511104 := by simp only [rDm] at hby3; omega
 have hlm' : b.tabs.length <= 1759218604441 := by simp only [rTb] at hby4; omega
 obtain ⟨X, e1, HB1, p0, p1, q0, q1⟩ : ∃ X, (w.alloc (.cells #[.slice A a.doms.length c, .slice B a.tabs.length d] 38)).alloc (.cells #[.slice A' b.doms.length c', .slice B' b.tabs.length d'] 38) = X /\ Hid (Bw w X) /\
   X.cell? (zn w.heap.size 0) = some (.slice A a.doms.length c) /\ X.cell? (zn w.heap.size 1) = some (.slice B a.tabs.length d) /\ X.cell? (zn (w.heap.size + 1) 0) = some (.slice A' b.doms.length c') /\ X.cell? (zn (w.heap.size + 1) 1) = some (.slice B' b.tabs.length d') := by
  have z1 : (w.alloc (.cells #[.slice A a.doms.length c, .slice B a.tabs.length d] 38)).heap.size = w.heap.size + 1 := by simp
  refine ⟨_, rfl, L0 (bA.alloc (by simp) _), ?_, ?_, ?_, ?_⟩
  all_goals first
   | exact (L0j _ _ _ (by simp)).trans (L0b _ _ _ _)
   | (rw [<- z1]; exact L0b _ _ _ _)
 have HE := L0 (hE.keep (.of_below HB1.o))
 have HE' := L0 (hE'.keep (.of_below HB1.o))
 have HI := L0 (hI.keep (.of_below HB1.o))
 have HI' := L0 (hI'.keep (.of_below HB1.o))
 have HW := L0 fun w' (hb : Bw w w') => hw.below hb
 have HP := L0 fun w' (hb : Bw w w') => hp.below hb
 have HSA := L0 fun (nm : Txt) (hn : nm.length <= 140737488355328) (w' : World) (hb : Bw w w') => Y1r nm w' (jD HL0.o hb) hn (HW.o _ hb) (HP.o _ hb)
 have HSB := L0 fun (nm : Txt) (hn : nm.length <= 140737488355328) (w' : World) (hb : Bw w w') => Y1r nm w' (jD HL0'.o hb) hn (HW.o _ hb) (HP.o _ hb)
 have hz0 : w.heap.size < X.heap.size := L0d _ _ p0
 have hz1 : w.heap.size + 1 < X.heap.size := L0d _ _ q0
 have HZ := L0 (And.intro hz0 hz1)
 have HOLD : Hid (∀ wr, Bw X wr -> wr.cell? (zn w.heap.size 0) = some (.slice A a.doms.length c) /\ wr.cell? (zn w.heap.size 1) = some (.slice B a.tabs.length d) /\ wr.cell? (zn (w.heap.size + 1) 0) = some (.slice A' b.doms.length c') /\ wr.cell? (zn (w.heap.size + 1) 1) = some (.slice B' b.tabs.length d')) := L0 fun wr hb =>
  ⟨(hb.ce 0 hz0).trans p0, (hb.ce 1 hz0).trans p1, (hb.ce 0 hz1).trans q0, (hb.ce 1 hz1).trans q1⟩
 have HN0 : Hid ((rSl rStr).rel X (Nw w.heap.size X) [nl] []) := L0 ⟨none, 0, rfl, L0g _, by decide, by simp, fun i x hx => by simp at hx⟩
 clear ha hi ha' hi' hE hE' hI hI' hby hby2 hby3 hby4 hz0 hz1 hw hp hlen
 have hx0 : ∀ w : World, (Instr.index 118 (.agg #[.slice A a.doms.length c, .slice B a.tabs.length d, .slice A' b.doms.length c', .slice B' b.tabs.length d']) (.int .i64 0)).run Tryz.prog w = .ok (.agg #[.slice A a.doms.length c, .slice B a.tabs.length d]) w := fun _ => by kernel_rfl
 have hx1 : ∀ w : World, (Instr.index 118 (.agg #[.slice A a.doms.length c, .slice B a.tabs.length d, .slice A' b.doms.length c', .slice B' b.tabs.length d']) (.int .i64 1)).run Tryz.prog w = .ok (.agg #[.slice A' b.doms.length c', .slice B' b.tabs.length d']) w := fun _ => by kernel_rfl
 go_enter Tryz.func62, Tryz.ntmps62
 go_wp2
 clear e1 p0 p1 q0 q1
 go_loopw [5, 15] (fun u si wr => ∃ (k : Nat) (uv : Value) (out : List Txt), u = uv /\ (k = 0 /\ si = .int .i64 0 \/ k = 1 /\ si = .int .i64 1 \/ k = 2 /\ si = .int .i64 2) /\ Hid (Bw X wr) /\ Hid ((rSl rStr).rel wr (Nw w.heap.size wr) [uv] out) /\ Hid (out = (([a, b].take k).flatMap Z0n).foldl (Z2v a b) []) /\ Hid (out.length <= (([a, b].take k).flatMap Z0n).length)) (fun _ si _ => 2 - (intOf si).toNat)
 exact ⟨0, _, _, rfl, .inl ⟨rfl, rfl⟩, L0 (L0m _ _), HN0, L0 rfl, L0 (L0o _)⟩
 clear HN0
 obtain ⟨k, uv, out, rfl, hk3, HB, HU0, HO0, HL0o⟩ := hrel
 obtain ⟨wo, hwo⟩ : ∃ x, x = wr := ⟨_, rfl⟩
 subst hwo
 rcases hk3 with ⟨rfl, rfl⟩ | ⟨rfl, rfl⟩ | ⟨rfl, rfl⟩
 ·skip
  obtain ⟨W7, e7, HB7, HBr, HR1⟩ : ∃ W7, wo.alloc (.cells #[.slice A a.doms.length c, .slice B a.tabs.length d] 38) = W7 /\ Hid (Bw X W7) /\ Hid (Bw wo W7) /\ Hid (W7.cell? (zn wo.heap.size 1) = some (.slice B a.tabs.length d) /\ wo.heap.size < W7.heap.size) := ⟨_, rfl, L0 (HB.o.alloc HB.o.size _), L0 bA, L0 ⟨L0b _ _ _ _, by simp⟩⟩; have r0 := ac0 e7
  have HU := L0 (Z43 HU0.o HBr.o)
  have HBS : Hid (Bw W7 W7) := L0 (L0m _ _)
  have HLB : Hid (out.length + a.doms.length + a.tabs.length < 1000000000000) := L0 (by have := HL0o.o; have := HLEN.o; simp only [Z0n, L0i, L1h, L3e, L3o, L0v] at *; omega)
  go_wp2
  clear r0 e7
  go_loopw [5, 21] (fun u si wi => ∃ (j : Nat) (uv : Value) (o2 : List Txt), u = uv /\ si = .int .i64 j /\ j <= a.doms.length /\ Hid (Bw W7 wi) /\ Hid ((rSl rStr).rel wi (Nw w.heap.size wi) [uv] o2) /\ Hid (o2 = ((a.doms.take j).map (·.name)).foldl (Z2v a b) out) /\ Hid (o2.length <= out.length + j)) (fun _ si _ => a.doms.length - (intOf si).toNat)
  exact ⟨0, _, _, rfl, by go_num, L0o _, HBS, HU, L0 rfl, L0 (L0g _)⟩
  clear HBS HU
  obtain ⟨j, uv2, o2, rfl, rfl, hj, HBi, HUi, HOi, HLi⟩ := hrel
  obtain ⟨wi, hwi⟩ : ∃ x, x = wr := ⟨_, rfl⟩
  subst hwi
  by_cases hlt : j < a.doms.length
  ·have hjk : (j : Int) < a.doms.length := by omega
   obtain ⟨b1, o1, y, rfl, hb1, hx, hyb, g0, g1, g2⟩ := HE.o.dm hlt
   have hnm : y.name.length <= 140737488355328 := hyb.1
   have HBx : Hid (Bw X wi) := L0 (HB7.o.trans (HBi.o.mono HB7.o.size))
   rw [<- HBx.o.ce _ hb1] at g0 g1 g2
   obtain ⟨W9, e9, HB9, HB9i, hs9⟩ : ∃ W9, wi.alloc (.cells #[sq y.name, .int .i64 y.lo, .int .i64 y.hi] 63) = W9 /\ Hid (Bw X W9) /\ Hid (Bw wi W9) /\ wi.heap.size < W9.heap.size := ⟨_, rfl, L0 (HBx.o.alloc HBx.o.size _), L0 bA, by simp⟩; have m0 := ac0 e9
   have HX := L0 hx
   have HNM := L0 hnm
   have HS9 := L0 hs9
   have HM0 := L0 m0
   obtain ⟨p0, p1, q0, q1⟩ := HOLD.o W9 HB9.o
   have hz0 : w.heap.size < W9.heap.size := L0c HZ.o.1 HB9.o.size
   have hz1 : w.heap.size + 1 < W9.heap.size := L0c HZ.o.2 HB9.o.size
   have HBW := L0 (HB1.o.trans (HB9.o.mono HB1.o.size))
   obtain ⟨sa, hsa⟩ : ∃ z, Z0y a y.name = z := ⟨_, rfl⟩
   obtain ⟨sb, hsb⟩ : ∃ z, Z0y b y.name = z := ⟨_, rfl⟩
   have HCa := L0 fun w' (hb : Bw W9 w') => hsa ▸ HSA.o y.name hnm w' (HBW.o.trans (hb.mono HBW.o.size))
   have HCb := L0 fun w' (hb : Bw W9 w') => hsb ▸ HSB.o y.name hnm w' (HBW.o.trans (hb.mono HBW.o.size))
   have HST : Hid (Z2v a b o2 y.name = if sa == sb then o2 else addN o2 y.name) := L0 (by rw [<- hsa, <- hsb]; rfl)
   cases hne : (sa == sb)
   all_goals
    have hne2 : (sa != sb) = _ := congrArg not hne
    rw [hne] at HST
    clear hsa hsb hx hyb hnm hb1
    go_wp2
    refine wp_region_quiet_below (by kernel_rfl) (by kernel_rfl) ?_
    repeat (go_big_quiet_step (first | with_reducible exact Calls.inBelow HCa.o _ _ | with_reducible exact Calls.inBelow HCb.o _ _))
    refine wpQuiet_nil ?_
    intro _ hw'
    obtain ⟨⟨dq, osq⟩, hw''⟩ := hw'
    subst hw''
    clear m0 hs9 p0 p1 q0 q1 hz0 hz1
    obtain ⟨wq, ewq, HBQ⟩ : ∃ wq, Go.Sort.grow (redrawn W9 dq) osq = wq /\ Hid (Bw W9 wq) := ⟨_, rfl, L0 (below_regrown W9 dq osq)⟩
    rw [ewq]
    clear ewq
    have HUq := L0 (Z43 HUi.o (HB9i.o.trans (HBQ.o.mono HB9i.o.size)))
   ·have m0q := (HBQ.o.ce 0 HS9.o).trans HM0.o
    have HLq : Hid (o2.length < 1000000000000) := L0 (by have := HLi.o; have := HLB.o; omega)
    go_wp2_with (go_at_call 36; (with_reducible refine (Z2g y.name wq HUq.o HNM.o HLq.o (fun _ h => Nw.lt h)).mono ?_); rintro e w3 ⟨u3, rfl, hr3, hb3⟩; have HR3 := L0 hr3; have HB3 := L0 hb3; clear hr3 hb3)
    go_roundw
    case rel =>
     have h1 := HBi.o.trans ((HB9i.o.trans (HBQ.o.mono HB9i.o.size)).mono HBi.o.size)
     refine ⟨j + 1, _, _, rfl, by go_num, hlt, L0 (h1.trans (HB3.o.mono h1.size)), L0 (Y9c HR3.o (L0h (L2b HZ.o.1) (L0h HB9.o.size HBQ.o.size))), L0 ?_, L0 ?_⟩
     ·rw [Z0c HX.o, L1z, L1e, <- HOi.o]
      exact HST.o.symm
     have := Z1c o2 y.name
     have := HLi.o
     omega
    simp [intOf]; omega
   go_wp2
   go_roundw
   case rel =>
    refine ⟨j + 1, _, _, rfl, by go_num, hlt, L0 (HBi.o.trans ((HB9i.o.trans (HBQ.o.mono HB9i.o.size)).mono HBi.o.size)), HUq, L0 ?_, L0 (by have := HLi.o; omega)⟩
    rw [Z0c HX.o, L1z, L1e, <- HOi.o]
    exact HST.o.symm
   simp [intOf]; omega
  have hjk : ¬ (j : Int) < a.doms.length := by omega
  have HOF : Hid (o2 = (a.doms.map (·.name)).foldl (Z2v a b) out) := L0 (by rw [HOi.o, L0l (by omega)])
  have HLF : Hid (o2.length <= out.length + a.doms.length) := L0 (by have := HLi.o; omega)
  clear HOi HLi hlt hj
  have r1 := (HBi.o.ce 1 HR1.o.2).trans HR1.o.1
  obtain ⟨od, hod⟩ : ∃ x, x = o2 := ⟨_, rfl⟩
  subst hod
  have HOD := HOF
  have HLD := HLF
  have HU := HUi
  have HBS := HBi
  replace HLB : Hid (od.length + a.tabs.length < 1000000000000) := L0 (by have := HLB.o; have := HLF.o; omega)
  clear HOF HLF HUi HBi
  go_wp2
  clear r1 hjk
  go_loopw [5, 42] (fun u si wi => ∃ (j : Nat) (uv : Value) (o2 : List Txt), u = uv /\ si = .int .i64 j /\ j <= a.tabs.length /\ Hid (Bw W7 wi) /\ Hid ((rSl rStr).rel wi (Nw w.heap.size wi) [uv] o2) /\ Hid (o2 = ((a.tabs.take j).map (·.name)).foldl (Z2v a b) od) /\ Hid (o2.length <= od.length + j)) (fun _ si _ => a.tabs.length - (intOf si).toNat)
  exact ⟨0, _, _, rfl, by go_num, L0o _, HBS, HU, L0 rfl, L0 (L0g _)⟩
  clear HBS HU
  obtain ⟨j, uv2, o2, rfl, rfl, hj, HBi, HUi, HOi, HLi⟩ := hrel
  obtain ⟨wi, hwi⟩ : ∃ x, x = wr := ⟨_, rfl⟩
  subst hwi
  by_cases hlt : j < a.tabs.length
  ·have hjk : (j : Int) < a.tabs.length := by omega
   obtain ⟨b1, o1, y, A1, c1, A2, c2, rfl, hb1, hx, hrl, g0, g1, g2, g3, g4⟩ := HI.o.tb hlt
   have hnm : y.name.length <= 140737488355328 := by obtain ⟨_, _, _, h, _⟩ := hrl; exact h
   have HBx : Hid (Bw X wi) := L0 (HB7.o.trans (HBi.o.mono HB7.o.size))
   rw [<- HBx.o.ce _ hb1] at g0 g1 g2 g3 g4
   obtain ⟨W9, e9, HB9, HB9i, hs9⟩ : ∃ W9, wi.alloc (.cells #[sq y.name, .int .i64 y.pol, .bool y.comp, .slice A1 y.ins.length c1, .slice A2 y.rules.length c2] 66) = W9 /\ Hid (Bw X W9) /\ Hid (Bw wi W9) /\ wi.heap.size < W9.heap.size := ⟨_, rfl, L0 (HBx.o.alloc HBx.o.size _), L0 bA, by simp⟩; have m0 := ac0 e9
   have HX := L0 hx
   have HNM := L0 hnm
   have HS9 := L0 hs9
   have HM0 := L0 m0
   obtain ⟨p0, p1, q0, q1⟩ := HOLD.o W9 HB9.o
   have hz0 : w.heap.size < W9.heap.size := L0c HZ.o.1 HB9.o.size
   have hz1 : w.heap.size + 1 < W9.heap.size := L0c HZ.o.2 HB9.o.size
   have HBW := L0 (HB1.o.trans (HB9.o.mono HB1.o.size))
   obtain ⟨sa, hsa⟩ : ∃ z, Z0y a y.name = z := ⟨_, rfl⟩
   obtain ⟨sb, hsb⟩ : ∃ z, Z0y b y.name = z := ⟨_, rfl⟩
   have HCa := L0 fun w' (hb : Bw W9 w') => hsa ▸ HSA.o y.name hnm w' (HBW.o.trans (hb.mono HBW.o.size))
   have HCb := L0 fun w' (hb : Bw W9 w') => hsb ▸ HSB.o y.name hnm w' (HBW.o.trans (hb.mono HBW.o.size))
   have HST : Hid (Z2v a b o2 y.name = if sa == sb then o2 else addN o2 y.name) := L0 (by rw [<- hsa, <- hsb]; rfl)
   cases hne : (sa == sb)
   all_goals
    have hne2 : (sa != sb) = _ := congrArg not hne
    rw [hne] at HST
    clear hsa hsb hx hrl hnm hb1
    go_wp2
    refine wp_region_quiet_below (by kernel_rfl) (by kernel_rfl) ?_
    repeat (go_big_quiet_step (first | with_reducible exact Calls.inBelow HCa.o _ _ | with_reducible exact Calls.inBelow HCb.o _ _))
    refine wpQuiet_nil ?_
    intro _ hw'
    obtain ⟨⟨dq, osq⟩, hw''⟩ := hw'
    subst hw''
    clear m0 hs9 p0 p1 q0 q1 hz0 hz1
    obtain ⟨wq, ewq, HBQ⟩ : ∃ wq, Go.Sort.grow (redrawn W9 dq) osq = wq /\ Hid (Bw W9 wq) := ⟨_, rfl, L0 (below_regrown W9 dq osq)⟩
    rw [ewq]
    clear ewq
    have HUq := L0 (Z43 HUi.o (HB9i.o.trans (HBQ.o.mono HB9i.o.size)))
   ·have m0q := (HBQ.o.ce 0 HS9.o).trans HM0.o
    have HLq : Hid (o2.length < 1000000000000) := L0 (by have := HLi.o; have := HLB.o; omega)
    go_wp2_with (go_at_call 36; (with_reducible refine (Z2g y.name wq HUq.o HNM.o HLq.o (fun _ h => Nw.lt h)).mono ?_); rintro e w3 ⟨u3, rfl, hr3, hb3⟩; have HR3 := L0 hr3; have HB3 := L0 hb3; clear hr3 hb3)
    go_roundw
    case rel =>
     have h1 := HBi.o.trans ((HB9i.o.trans (HBQ.o.mono HB9i.o.size)).mono HBi.o.size)
     refine ⟨j + 1, _, _, rfl, by go_num, hlt, L0 (h1.trans (HB3.o.mono h1.size)), L0 (Y9c HR3.o (L0h (L2b HZ.o.1) (L0h HB9.o.size HBQ.o.size))), L0 ?_, L0 ?_⟩
     ·rw [Z0c HX.o, L1z, L1e, <- HOi.o]
      exact HST.o.symm
     have := Z1c o2 y.name
     have := HLi.o
     omega
    simp [intOf]; omega
   go_wp2
   go_roundw
   case rel =>
    refine ⟨j + 1, _, _, rfl, by go_num, hlt, L0 (HBi.o.trans ((HB9i.o.trans (HBQ.o.mono HB9i.o.size)).mono HBi.o.size)), HUq, L0 ?_, L0 (by have := HLi.o; omega)⟩
    rw [Z0c HX.o, L1z, L1e, <- HOi.o]
    exact HST.o.symm
   simp [intOf]; omega
  have hjk : ¬ (j : Int) < a.tabs.length := by omega
  have HOF : Hid (o2 = (a.tabs.map (·.name)).foldl (Z2v a b) od) := L0 (by rw [HOi.o, L0l (by omega)])
  have HLF : Hid (o2.length <= od.length + a.tabs.length) := L0 (by have := HLi.o; omega)
  clear HOi HLi hlt hj
  go_wp2
  go_roundw
  case rel =>
   refine ⟨1, _, _, rfl, .inr (.inl ⟨rfl, by go_num⟩), L0 (HB7.o.trans (HBi.o.mono HB7.o.size)), HUi, L0 ?_, L0 ?_⟩
   ·rw [HOF.o, HOD.o, HO0.o]
    simp [Z0n, jA]
   have := HLF.o; have := HLD.o; have := HL0o.o
   simp only [Z0n, L0i, L1h, L3r, L3e, L2u, L3o, L0v] at *
   omega
  simp [intOf]
 ·skip
  obtain ⟨W7, e7, HB7, HBr, HR1⟩ : ∃ W7, wo.alloc (.cells #[.slice A' b.doms.length c', .slice B' b.tabs.length d'] 38) = W7 /\ Hid (Bw X W7) /\ Hid (Bw wo W7) /\ Hid (W7.cell? (zn wo.heap.size 1) = some (.slice B' b.tabs.length d') /\ wo.heap.size < W7.heap.size) := ⟨_, rfl, L0 (HB.o.alloc HB.o.size _), L0 bA, L0 ⟨L0b _ _ _ _, by simp⟩⟩; have r0 := ac0 e7
  have HU := L0 (Z43 HU0.o HBr.o)
  have HBS : Hid (Bw W7 W7) := L0 (L0m _ _)
  have HLB : Hid (out.length + b.doms.length + b.tabs.length < 1000000000000) := L0 (by have := HL0o.o; have := HLEN.o; simp only [Z0n, L0i, L1h, L3r, L3e, L2u, L3o, L0v] at *; omega)
  go_wp2
  clear r0 e7
  go_loopw [5, 21] (fun u si wi => ∃ (j : Nat) (uv : Value) (o2 : List Txt), u = uv /\ si = .int .i64 j /\ j <= b.doms.length /\ Hid (Bw W7 wi) /\ Hid ((rSl rStr).rel wi (Nw w.heap.size wi) [uv] o2) /\ Hid (o2 = ((b.doms.take j).map (·.name)).foldl (Z2v a b) out) /\ Hid (o2.length <= out.length + j)) (fun _ si _ => b.doms.length - (intOf si).toNat)
  exact ⟨0, _, _, rfl, by go_num, L0o _, HBS, HU, L0 rfl, L0 (L0g _)⟩
  clear HBS HU
  obtain ⟨j, uv2, o2, rfl, rfl, hj, HBi, HUi, HOi, HLi⟩ := hrel
  obtain ⟨wi, hwi⟩ : ∃ x, x = wr := ⟨_, rfl⟩
  subst hwi
  by_cases hlt : j < b.doms.length
  ·have hjk : (j : Int) < b.doms.length := by omega
   obtain ⟨b1, o1, y, rfl, hb1, hx, hyb, g0, g1, g2⟩ := HE'.o.dm hlt
   have hnm : y.name.length <= 140737488355328 := hyb.1
   have HBx : Hid (Bw X wi) := L0 (HB7.o.trans (HBi.o.mono HB7.o.size))
   rw [<- HBx.o.ce _ hb1] at g0 g1 g2
   obtain ⟨W9, e9, HB9, HB9i, hs9⟩ : ∃ W9, wi.alloc (.cells #[sq y.name, .int .i64 y.lo, .int .i64 y.hi] 63) = W9 /\ Hid (Bw X W9) /\ Hid (Bw wi W9) /\ wi.heap.size < W9.heap.size := ⟨_, rfl, L0 (HBx.o.alloc HBx.o.size _), L0 bA, by simp⟩; have m0 := ac0 e9
   have HX := L0 hx
   have HNM := L0 hnm
   have HS9 := L0 hs9
   have HM0 := L0 m0
   obtain ⟨p0, p1, q0, q1⟩ := HOLD.o W9 HB9.o
   have hz0 : w.heap.size < W9.heap.size := L0c HZ.o.1 HB9.o.size
   have hz1 : w.heap.size + 1 < W9.heap.size := L0c HZ.o.2 HB9.o.size
   have HBW := L0 (HB1.o.trans (HB9.o.mono HB1.o.size))
   obtain ⟨sa, hsa⟩ : ∃ z, Z0y a y.name = z := ⟨_, rfl⟩
   obtain ⟨sb, hsb⟩ : ∃ z, Z0y b y.name = z := ⟨_, rfl⟩
   have HCa := L0 fun w' (hb : Bw W9 w') => hsa ▸ HSA.o y.name hnm w' (HBW.o.trans (hb.mono HBW.o.size))
   have HCb := L0 fun w' (hb : Bw W9 w') => hsb ▸ HSB.o y.name hnm w' (HBW.o.trans (hb.mono HBW.o.size))
   have HST : Hid (Z2v a b o2 y.name = if sa == sb then o2 else addN o2 y.name) := L0 (by rw [<- hsa, <- hsb]; rfl)
   cases hne : (sa == sb)
   all_goals
    have hne2 : (sa != sb) = _ := congrArg not hne
    rw [hne] at HST
    clear hsa hsb hx hyb hnm hb1
    go_wp2
    refine wp_region_quiet_below (by kernel_rfl) (by kernel_rfl) ?_
    repeat (go_big_quiet_step (first | with_reducible exact Calls.inBelow HCa.o _ _ | with_reducible exact Calls.inBelow HCb.o _ _))
    refine wpQuiet_nil ?_
    intro _ hw'
    obtain ⟨⟨dq, osq⟩, hw''⟩ := hw'
    subst hw''
    clear m0 hs9 p0 p1 q0 q1 hz0 hz1
    obtain ⟨wq, ewq, HBQ⟩ : ∃ wq, Go.Sort.grow (redrawn W9 dq) osq = wq /\ Hid (Bw W9 wq) := ⟨_, rfl, L0 (below_regrown W9 dq osq)⟩
    rw [ewq]
    clear ewq
    have HUq := L0 (Z43 HUi.o (HB9i.o.trans (HBQ.o.mono HB9i.o.size)))
   ·have m0q := (HBQ.o.ce 0 HS9.o).trans HM0.o
    have HLq : Hid (o2.length < 1000000000000) := L0 (by have := HLi.o; have := HLB.o; omega)
    go_wp2_with (go_at_call 36; (with_reducible refine (Z2g y.name wq HUq.o HNM.o HLq.o (fun _ h => Nw.lt h)).mono ?_); rintro e w3 ⟨u3, rfl, hr3, hb3⟩; have HR3 := L0 hr3; have HB3 := L0 hb3; clear hr3 hb3)
    go_roundw
    case rel =>
     have h1 := HBi.o.trans ((HB9i.o.trans (HBQ.o.mono HB9i.o.size)).mono HBi.o.size)
     refine ⟨j + 1, _, _, rfl, by go_num, hlt, L0 (h1.trans (HB3.o.mono h1.size)), L0 (Y9c HR3.o (L0h (L2b HZ.o.1) (L0h HB9.o.size HBQ.o.size))), L0 ?_, L0 ?_⟩
     ·rw [Z0c HX.o, L1z, L1e, <- HOi.o]
      exact HST.o.symm
     have := Z1c o2 y.name
     have := HLi.o
     omega
    simp [intOf]; omega
   go_wp2
   go_roundw
   case rel =>
    refine ⟨j + 1, _, _, rfl, by go_num, hlt, L0 (HBi.o.trans ((HB9i.o.trans (HBQ.o.mono HB9i.o.size)).mono HBi.o.size)), HUq, L0 ?_, L0 (by have := HLi.o; omega)⟩
    rw [Z0c HX.o, L1z, L1e, <- HOi.o]
    exact HST.o.symm
   simp [intOf]; omega
  have hjk : ¬ (j : Int) < b.doms.length := by omega
  have HOF : Hid (o2 = (b.doms.map (·.name)).foldl (Z2v a b) out) := L0 (by rw [HOi.o, L0l (by omega)])
  have HLF : Hid (o2.length <= out.length + b.doms.length) := L0 (by have := HLi.o; omega)
  clear HOi HLi hlt hj
  have r1 := (HBi.o.ce 1 HR1.o.2).trans HR1.o.1
  obtain ⟨od, hod⟩ : ∃ x, x = o2 := ⟨_, rfl⟩
  subst hod
  have HOD := HOF
  have HLD := HLF
  have HU := HUi
  have HBS := HBi
  replace HLB : Hid (od.length + b.tabs.length < 1000000000000) := L0 (by have := HLB.o; have := HLF.o; omega)
  clear HOF HLF HUi HBi
  go_wp2
  clear r1 hjk
  go_loopw [5, 42] (fun u si wi => ∃ (j : Nat) (uv : Value) (o2 : List Txt), u = uv /\ si = .int .i64 j /\ j <= b.tabs.length /\ Hid (Bw W7 wi) /\ Hid ((rSl rStr).rel wi (Nw w.heap.size wi) [uv] o2) /\ Hid (o2 = ((b.tabs.take j).map (·.name)).foldl (Z2v a b) od) /\ Hid (o2.length <= od.length + j)) (fun _ si _ => b.tabs.length - (intOf si).toNat)
  exact ⟨0, _, _, rfl, by go_num, L0o _, HBS, HU, L0 rfl, L0 (L0g _)⟩
  clear HBS HU
  obtain ⟨j, uv2, o2, rfl, rfl, hj, HBi, HUi, HOi, HLi⟩ := hrel
  obtain ⟨wi, hwi⟩ : ∃ x, x = wr := ⟨_, rfl⟩
  subst hwi
  by_cases hlt : j < b.tabs.length
  ·have hjk : (j : Int) < b.tabs.length := by omega
   obtain ⟨b1, o1, y, A1, c1, A2, c2, rfl, hb1, hx, hrl, g0, g1, g2, g3, g4⟩ := HI'.o.tb hlt
   have hnm : y.name.length <= 140737488355328 := by obtain ⟨_, _, _, h, _⟩ := hrl; exact h
   have HBx : Hid (Bw X wi) := L0 (HB7.o.trans (HBi.o.mono HB7.o.size))
   rw [<- HBx.o.ce _ hb1] at g0 g1 g2 g3 g4
   obtain ⟨W9, e9, HB9, HB9i, hs9⟩ : ∃ W9, wi.alloc (.cells #[sq y.name, .int .i64 y.pol, .bool y.comp, .slice A1 y.ins.length c1, .slice A2 y.rules.length c2] 66) = W9 /\ Hid (Bw X W9) /\ Hid (Bw wi W9) /\ wi.heap.size < W9.heap.size := ⟨_, rfl, L0 (HBx.o.alloc HBx.o.size _), L0 bA, by simp⟩; have m0 := ac0 e9
   have HX := L0 hx
   have HNM := L0 hnm
   have HS9 := L0 hs9
   have HM0 := L0 m0
   obtain ⟨p0, p1, q0, q1⟩ := HOLD.o W9 HB9.o
   have hz0 : w.heap.size < W9.heap.size := L0c HZ.o.1 HB9.o.size
   have hz1 : w.heap.size + 1 < W9.heap.size := L0c HZ.o.2 HB9.o.size
   have HBW := L0 (HB1.o.trans (HB9.o.mono HB1.o.size))
   obtain ⟨sa, hsa⟩ : ∃ z, Z0y a y.name = z := ⟨_, rfl⟩
   obtain ⟨sb, hsb⟩ : ∃ z, Z0y b y.name = z := ⟨_, rfl⟩
   have HCa := L0 fun w' (hb : Bw W9 w') => hsa ▸ HSA.o y.name hnm w' (HBW.o.trans (hb.mono HBW.o.size))
   have HCb := L0 fun w' (hb : Bw W9 w') => hsb ▸ HSB.o y.name hnm w' (HBW.o.trans (hb.mono HBW.o.size))
   have HST : Hid (Z2v a b o2 y.name = if sa == sb then o2 else addN o2 y.name) := L0 (by rw [<- hsa, <- hsb]; rfl)
   cases hne : (sa == sb)
   all_goals
    have hne2 : (sa != sb) = _ := congrArg not hne
    rw [hne] at HST
    clear hsa hsb hx hrl hnm hb1
    go_wp2
    refine wp_region_quiet_below (by kernel_rfl) (by kernel_rfl) ?_
    repeat (go_big_quiet_step (first | with_reducible exact Calls.inBelow HCa.o _ _ | with_reducible exact Calls.inBelow HCb.o _ _))
    refine wpQuiet_nil ?_
    intro _ hw'
    obtain ⟨⟨dq, osq⟩, hw''⟩ := hw'
    subst hw''
    clear m0 hs9 p0 p1 q0 q1 hz0 hz1
    obtain ⟨wq, ewq, HBQ⟩ : ∃ wq, Go.Sort.grow (redrawn W9 dq) osq = wq /\ Hid (Bw W9 wq) := ⟨_, rfl, L0 (below_regrown W9 dq osq)⟩
    rw [ewq]
    clear ewq
    have HUq := L0 (Z43 HUi.o (HB9i.o.trans (HBQ.o.mono HB9i.o.size)))
   ·have m0q := (HBQ.o.ce 0 HS9.o).trans HM0.o
    have HLq : Hid (o2.length < 1000000000000) := L0 (by have := HLi.o; have := HLB.o; omega)
    go_wp2_with (go_at_call 36; (with_reducible refine (Z2g y.name wq HUq.o HNM.o HLq.o (fun _ h => Nw.lt h)).mono ?_); rintro e w3 ⟨u3, rfl, hr3, hb3⟩; have HR3 := L0 hr3; have HB3 := L0 hb3; clear hr3 hb3)
    go_roundw
    case rel =>
     have h1 := HBi.o.trans ((HB9i.o.trans (HBQ.o.mono HB9i.o.size)).mono HBi.o.size)
     refine ⟨j + 1, _, _, rfl, by go_num, hlt, L0 (h1.trans (HB3.o.mono h1.size)), L0 (Y9c HR3.o (L0h (L2b HZ.o.1) (L0h HB9.o.size HBQ.o.size))), L0 ?_, L0 ?_⟩
     ·rw [Z0c HX.o, L1z, L1e, <- HOi.o]
      exact HST.o.symm
     have := Z1c o2 y.name
     have := HLi.o
     omega
    simp [intOf]; omega
   go_wp2
   go_roundw
   case rel =>
    refine ⟨j + 1, _, _, rfl, by go_num, hlt, L0 (HBi.o.trans ((HB9i.o.trans (HBQ.o.mono HB9i.o.size)).mono HBi.o.size)), HUq, L0 ?_, L0 (by have := HLi.o; omega)⟩
    rw [Z0c HX.o, L1z, L1e, <- HOi.o]
    exact HST.o.symm
   simp [intOf]; omega
  have hjk : ¬ (j : Int) < b.tabs.length := by omega
  have HOF : Hid (o2 = (b.tabs.map (·.name)).foldl (Z2v a b) od) := L0 (by rw [HOi.o, L0l (by omega)])
  have HLF : Hid (o2.length <= od.length + b.tabs.length) := L0 (by have := HLi.o; omega)
  clear HOi HLi hlt hj
  go_wp2
  go_roundw
  case rel =>
   refine ⟨2, _, _, rfl, .inr (.inr ⟨rfl, by go_num⟩), L0 (HB7.o.trans (HBi.o.mono HB7.o.size)), HUi, L0 ?_, L0 ?_⟩
   ·rw [HOF.o, HOD.o, HO0.o]
    simp [Z0n, jA]
   have := HLF.o; have := HLD.o; have := HL0o.o
   simp only [Z0n, L0i, L1h, L3r, L3e, L2u, L3o, L0v] at *
   omega
  simp [intOf]
 go_wp2
 go_ret
 exact ⟨_, rfl, by have h := HU0.o; rw [HO0.o] at h; simpa [Z3f] using h, HB1.o.trans (HB.o.mono HB1.o.size)⟩
def putB (x : Ses) (s : Txt) : Int × Ses :=
 if (Z0d s).e ≠ 0 then ((Z0d s).e, x)
 else if (Z0d s).is then (0, { x with mine := Z47 x.mine (Z0d s).t, gone := addN x.gone (Z0d s).t.name })
 else (0, { x with mine := Z3y x.mine (Z0d s).d, gone := addN x.gone (Z0d s).d.name })
theorem Z92 (s : Txt) : (∃ e : Int, e ≠ 0 /\ Z0d s = ⟨dm0, tb0, false, e⟩) \/ (∃ d, Z4d d = true /\ Z0d s = ⟨d, tb0, false, 0⟩) \/ ∃ t, Z0s t = true /\ Z0d s = ⟨dm0, t, true, 0⟩ := by
 unfold Z0d
 split
 ·exact .inl ⟨5, by decide, rfl⟩
 split
 ·split
  ·exact .inl ⟨1, by decide, rfl⟩
  rename_i h
  refine .inr (.inl ⟨_, ?_, rfl⟩)
  simp only [not_or] at h
  simpa using h.2.2
 split
 ·split
  ·exact .inl ⟨1, by decide, rfl⟩
  rename_i h
  refine .inr (.inr ⟨_, ?_, rfl⟩)
  simp only [not_or] at h
  simpa using h.2.2
 exact .inl ⟨1, by decide, rfl⟩
theorem Y8a {s : Txt} {d : Dm} {t : Tb} {is : Bool} {x : Int} (h : Z0d s = ⟨d, t, is, x⟩) (w : World) (hs : s.length <= 140737488355328) (hw : LibW w) (hp : PolW w) :
  Calls Tryz.prog 44 #[sq s] w fun e w' => ∃ A c B d', e = .returned (.tuple #[.agg #[sq d.name, .int .i64 d.lo, .int .i64 d.hi], .agg #[sq t.name, .int .i64 t.pol, .bool t.comp, .slice A t.ins.length c, .slice B t.rules.length d'], .bool is, .int .i64 x]) /\
   rTb.rel w' (Up (fun _ => False) w.heap.size) [sq t.name, .int .i64 t.pol, .bool t.comp, .slice A t.ins.length c, .slice B t.rules.length d'] t /\ Bw w w' := by
 refine (Y8b s w hs hw hp).mono ?_
 rintro e w' ⟨v, u, rfl, hr, hb⟩
 rw [h] at hr ⊢
 have hr' := hr
 obtain ⟨_, _, e1, _, _, hi, hrr⟩ := hr'
 simp only [L1f, and_true, true_and] at e1
 obtain ⟨rfl, rfl⟩ := e1
 obtain ⟨A, c, e2, _⟩ := rSl.elems hi
 obtain ⟨B, d', e3, _⟩ := rSl.elems hrr
 subst e2 e3
 exact ⟨A, c, B, d', rfl, hr, hb⟩
theorem X18 {s : Txt} {d : Dm} {x : Int} (h : Z0d s = ⟨d, tb0, false, x⟩) (w : World) (hs : s.length <= 140737488355328) (hw : LibW w) (hp : PolW w) :
  Calls Tryz.prog 44 #[sq s] w fun e w' => ∃ A c B d', e = .returned (.tuple #[.agg #[sq d.name, .int .i64 d.lo, .int .i64 d.hi], .agg #[.string ⟨#[]⟩, .int .i64 0, .bool false, .slice A 0 c, .slice B 0 d'], .bool false, .int .i64 x]) /\
   rTb.rel w' (Up (fun _ => False) w.heap.size) [.string ⟨#[]⟩, .int .i64 0, .bool false, .slice A 0 c, .slice B 0 d'] tb0 /\ Bw w w' := Y8a h w hs hw hp
theorem X39 {s : Txt} {x : Int} (h : Z0d s = ⟨dm0, tb0, false, x⟩) (w : World) (hs : s.length <= 140737488355328) (hw : LibW w) (hp : PolW w) :
  Calls Tryz.prog 44 #[sq s] w fun e w' => ∃ A c B d', e = .returned (.tuple #[.agg #[.string ⟨#[]⟩, .int .i64 0, .int .i64 0], .agg #[.string ⟨#[]⟩, .int .i64 0, .bool false, .slice A 0 c, .slice B 0 d'], .bool false, .int .i64 x]) /\
   rTb.rel w' (Up (fun _ => False) w.heap.size) [.string ⟨#[]⟩, .int .i64 0, .bool false, .slice A 0 c, .slice B 0 d'] tb0 /\ Bw w w' := Y8a h w hs hw hp
theorem X17 {s : Txt} {t : Tb} (h : Z0d s = ⟨dm0, t, true, 0⟩) (w : World) (hs : s.length <= 140737488355328) (hw : LibW w) (hp : PolW w) :
  Calls Tryz.prog 44 #[sq s] w fun e w' => ∃ A c B d', e = .returned (.tuple #[.agg #[.string ⟨#[]⟩, .int .i64 0, .int .i64 0], .agg #[sq t.name, .int .i64 t.pol, .bool t.comp, .slice A t.ins.length c, .slice B t.rules.length d'], .bool true, .int .i64 0]) /\
   rTb.rel w' (Up (fun _ => False) w.heap.size) [sq t.name, .int .i64 t.pol, .bool t.comp, .slice A t.ins.length c, .slice B t.rules.length d'] t /\ Bw w w' := Y8a h w hs hw hp
section
variable {w W w4 : World} {sb o : Nat} {T : Nat -> Prop} {x : Ses}
def Tn (T : Nat -> Prop) (w W : World) : Nat -> Prop := fun q => (T q \/ w.heap.size <= q) /\ q < W.heap.size
theorem Tn.lt {T : Nat -> Prop} {w W : World} {q : Nat} (h : Tn T w W q) : q < W.heap.size := h.2
theorem Y2g {b : Bk} {v u : Value} {q : Nat} {nm : Value} (hx : SesAt W sb o T x) (hT : ∀ q, T q -> q < w.heap.size) (hs : ¬ T sb /\ sb < w.heap.size) (hf : ∀ j, W.frozen? (zn sb j) = false) (hb3 : Bw w W)
  (ho : OwnS rDm 63 w4 W.heap.size (Tn T w W) v b.doms) (hp : OwnS rTb 66 w4 W.heap.size (Tn T w W) u b.tabs) (hb4 : Bw W w4) (hn : W.cell? (zn q 0) = some nm /\ q ≠ sb) :
  ∃ W5, (w4.setCell (zn sb (o + 3)) v).setCell (zn sb (o + 4)) u = W5 /\ Hid (SesAt W5 sb o (Tn T w W5) { x with mine := b }) /\ Hid (Wrote sb o W W5) /\ Hid (W5.cell? (zn q 0) = some nm /\ q < W5.heap.size) /\ Hid (∀ j, W5.frozen? (zn sb j) = false) /\ w4.frozen? (zn sb (o + 3)) = false /\ w4.frozen? (zn sb (o + 4)) = false /\
   (∃ y, w4.cell? (zn sb (o + 3)) = some y) /\ ∃ y, w4.cell? (zn sb (o + 4)) = some y := by
 have hsW : sb < W.heap.size := L0c hs.2 hb3.size
 have hx4 := hx.below hb4
 obtain ⟨D, dc, B, bc, G, gc, R, rc, _, c0, c1, c2, c3, c4, c5, c6⟩ := hx4.out
 have hT4 : ∀ q, T q -> q < W.heap.size := fun q h => L0c (hT q h) hb3.size
 have hnT : ¬ Tn T w w4 sb := fun h => by
  rcases h.1 with h | h
  ·exact hs.1 h
  have := hs.2; omega
 have sub : ∀ b, Up (Tn T w W) W.heap.size b -> b < w4.heap.size -> Tn T w w4 b := fun b h hl => ⟨by
  rcases h with h | h
  ·exact h.1
  exact .inr (L0h hb3.size h), hl⟩
 have hr : rBk.rel w4 (Tn T w w4) [v, u] b := ⟨v, u, rfl, (rSl rDm).mono (ho.self.rel (by decide)) sub, (rSl rTb).mono (hp.self.rel (by decide)) sub⟩
 have hx4' : SesAt w4 sb o (Tn T w w4) x := hx4.mono fun b h _ => ⟨.inl h, L0c (hT4 b h) hb4.size⟩
 have hfr : ∀ j, w4.frozen? (zn sb j) = false := fun j => (hb4.fr j hsW).trans (hf j)
 have hql : q < W.heap.size := L0d _ _ hn.1
 have hz : ((w4.setCell (zn sb (o + 3)) v).setCell (zn sb (o + 4)) u).heap.size = w4.heap.size := by simp [jE]
 refine ⟨_, rfl, L0 ?_, L0 (((Wrote.below hb4 hsW).trans (.set 3 (by decide) v)).trans (.set 4 (by decide) u)), L0 ⟨?_, by rw [hz]; exact L0c hql hb4.size⟩, L0 fun j => by rw [L0k, L0k]; exact hfr j, hfr _, hfr _, ⟨_, c3⟩, ⟨_, c4⟩⟩
 ·have h := hx4'.setMine hnT hr
  exact h.mono fun b hb _ => ⟨hb.1, by rw [hz]; exact hb.2⟩
 refine (L0a _ _ _ _ (by simp; try (intro h; exact absurd h hn.2))).trans ((L0a _ _ _ _ (by simp; try (intro h; exact absurd h hn.2))).trans ?_)
 exact (hb4.ce 0 hql).trans hn.1
theorem Y2f {l : List Txt} {u : Value} (hx : SesAt W sb o (Tn T w W) x) (hs : ¬ T sb /\ sb < w.heap.size) (hf : ∀ j, W.frozen? (zn sb j) = false) (hw3 : w.heap.size <= W.heap.size)
  (ho : (rSl rStr).rel w4 (Up (Tn T w W) W.heap.size) [u] l) (hb4 : Bw W w4) :
  ∃ W5, w4.setCell (zn sb (o + 5)) u = W5 /\ Hid (SesAt W5 sb o (Tn T w W5) { x with gone := l }) /\ Hid (Wrote sb o W W5) /\ Hid (∀ j, W5.frozen? (zn sb j) = false) /\ w4.frozen? (zn sb (o + 5)) = false /\ ∃ y, w4.cell? (zn sb (o + 5)) = some y := by
 have hsW : sb < W.heap.size := L0c hs.2 hw3
 have hx4 := hx.below hb4
 obtain ⟨D, dc, B, bc, G, gc, R, rc, _, c0, c1, c2, c3, c4, c5, c6⟩ := hx4.out
 have hnT : ¬ Tn T w w4 sb := fun h => by
  rcases h.1 with h | h
  ·exact hs.1 h
  have := hs.2; omega
 have sub : ∀ b, Up (Tn T w W) W.heap.size b -> b < w4.heap.size -> Tn T w w4 b := fun b h hl => ⟨by
  rcases h with h | h
  ·exact h.1
  exact .inr (L0h hw3 h), hl⟩
 have hfr : ∀ j, w4.frozen? (zn sb j) = false := fun j => (hb4.fr j hsW).trans (hf j)
 have hz : (w4.setCell (zn sb (o + 5)) u).heap.size = w4.heap.size := by simp [jE]
 refine ⟨_, rfl, L0 ?_, L0 ((Wrote.below hb4 hsW).trans (.set 5 (by decide) u)), L0 fun j => by rw [L0k]; exact hfr j, hfr _, ⟨_, c5⟩⟩
 have h := (hx4.mono fun b hb _ => (⟨hb.1, L0c hb.2 hb4.size⟩ : Tn T w w4 b)).setGone hnT ((rSl rStr).mono ho sub)
 exact h.mono fun b hb _ => ⟨hb.1, by rw [hz]; exact hb.2⟩
end
theorem X21 {T : Nat -> Prop} {sb o : Nat} {x : Ses} (s : Txt) (w : World) (hx : SesAt w sb o T x) (hT : ∀ q, T q -> q < w.heap.size) (hs : ¬ T sb) (hf : ∀ j, w.frozen? (zn sb j) = false) (hl : s.length <= 140737488355328) (hw : LibW w) (hp : PolW w) {nd nt : Nat} (hn : Neat x.mine nd nt) (hnd : nd < 1000000000000) (hnt : nt < 1000000000000) (hg : x.gone.length < 1000000000000) :
  Calls Tryz.prog 34 #[.pointer (some (zn sb o)), sq s] w fun e w' => e = .returned (.int .i64 (putB x s).1) /\ SesAt w' sb o (Tn T w w') (putB x s).2 /\ Wrote sb o w w' := by
 obtain ⟨D, dc, B, bc, G, gc, R, rc, hr, c0, c1, c2, c3, c4, c5, c6⟩ := hx.out
 have hsl : sb < w.heap.size := L0d _ _ c0
 have HX := L0 hx
 have HT := L0 hT
 have HSB := L0 (And.intro hs hsl)
 have HF0 := L0 hf
 have HL := L0 hl
 have HW := L0 hw
 have HP := L0 hp
 have HN := L0 hn
 have HND := L0 hnd
 have HNT := L0 hnt
 have HG := L0 hg
 have HR := L0 hr
 have HC := L0 (show w.cell? (zn sb (o + 3)) = some (.slice D x.mine.doms.length dc) /\ w.cell? (zn sb (o + 4)) = some (.slice B x.mine.tabs.length bc) from ⟨c3, c4⟩)
 clear hx hT hs hf hl hw hp hn hnd hnt hg hr c0 c1 c2 c3 c4 c5 c6 hsl
 rcases Z92 s with ⟨e0, hx0, hps⟩ | ⟨d, hd, hps⟩ | ⟨t, ht, hps⟩
 ·have HPS := L0 hps
  have HV : Hid (putB x s = (e0, x)) := L0 (by unfold putB; rw [hps]; exact if_pos hx0)
  have hq0 : (e0 == 0) = false := beq_eq_false_iff_ne.2 hx0
  have hq1 : (e0 != 0) = true := bne_iff_ne.2 hx0
  clear hps
  go_enter Tryz.func34, Tryz.ntmps34
  go_wp2_with (go_at_call 44; (with_reducible refine (X39 HPS.o w HL.o HW.o HP.o).mono ?_); rintro e w1 ⟨A1, c1, B1, d1, rfl, hr1, hb1⟩; have HB1 := L0 hb1; clear hb1 hr1; obtain ⟨W2, e2, HPB, HB2, HX1⟩ := PrB.start w1 63 66; obtain ⟨W3, e3, n0, n1, n2, m0, m1, m2, m3, m4, HB3, _⟩ := HPB.o.store dm0 [] 0 false (.slice A1 0 c1) (.slice B1 0 d1); have a0 := HPB.o.a0; have a1 := HPB.o.a1; have a2 := HPB.o.a2; have b0 := HPB.o.b0; have b1 := HPB.o.b1; have b2 := HPB.o.b2; have b3 := HPB.o.b3; have b4 := HPB.o.b4; have x0 := HPB.o.x 0; have x1 := HPB.o.x 1; have x2 := HPB.o.x 2; have y0 := HPB.o.y 0; have y1 := HPB.o.y 1; have y2 := HPB.o.y 2; have y3 := HPB.o.y 3; have y4 := HPB.o.y 4; have HBW := L0 (HB3.o _ HB1.o.size _ (HB1.o.trans (HB2.o.mono HB1.o.size))); simp only [dm0] at e3 n0 n1 n2)
  go_ret
  exact ⟨by rw [HV.o]; rfl, by rw [HV.o]; exact (HX.o.below HBW.o).mono fun b hb _ => ⟨.inl hb, L0c (HT.o b hb) HBW.o.size⟩, .below HBW.o HSB.o.2⟩
 ·have HPS := L0 hps
  have HV : Hid (putB x s = (0, { x with mine := Z3y x.mine d, gone := addN x.gone d.name })) := L0 (by unfold putB; rw [hps]; rfl)
  have HDM : Hid (d.name.length <= 140737488355328 /\ InI d.lo /\ InI d.hi) := L0 (by obtain ⟨q1, q2, q3⟩ := Z58 hd; have z1 := Z4m q1; have z2 := (Z07 _).1 q2; have z3 := (Z07 _).1 q3; exact ⟨by omega, ⟨by omega, by omega⟩, ⟨by omega, by omega⟩⟩)
  have HND' : Hid ((x.mine.doms.map (·.name)).Nodup) := L0 HN.o.hd
  have HNL : Hid (x.mine.doms.length < 1000000000000) := L0 (jB HN.o.ld HND.o)
  clear hps hd
  go_enter Tryz.func34, Tryz.ntmps34
  go_upto_region 7 with (first
   | (go_at_call 44; (with_reducible refine (X18 HPS.o w HL.o HW.o HP.o).mono ?_); rintro e w1 ⟨A1, c1, B1, d1, rfl, hr1, hb1⟩; have HB1 := L0 hb1; have HR1 := L0 hr1; clear hb1 hr1; obtain ⟨W2, e2, HPB, HB2, HX1⟩ := PrB.start w1 63 66; obtain ⟨W3, e3, n0, n1, n2, m0, m1, m2, m3, m4, HB3, _⟩ := HPB.o.store d [] 0 false (.slice A1 0 c1) (.slice B1 0 d1); have a0 := HPB.o.a0; have a1 := HPB.o.a1; have a2 := HPB.o.a2; have b0 := HPB.o.b0; have b1 := HPB.o.b1; have b2 := HPB.o.b2; have b3 := HPB.o.b3; have b4 := HPB.o.b4; have x0 := HPB.o.x 0; have x1 := HPB.o.x 1; have x2 := HPB.o.x 2; have y0 := HPB.o.y 0; have y1 := HPB.o.y 1; have y2 := HPB.o.y 2; have y3 := HPB.o.y 3; have y4 := HPB.o.y 4; have HBW := L0 (HB3.o _ HB1.o.size _ (HB1.o.trans (HB2.o.mono HB1.o.size))); have HU := L0 (HB3.o w1.heap.size (L0g _) w1 HB2.o)))
  have HQL : Hid (w.heap.size <= w1.heap.size) := L0 HB1.o.size
  have c3 := (HBW.o.ce (o + 3) HSB.o.2).trans HC.o.1
  have c4 := (HBW.o.ce (o + 4) HSB.o.2).trans HC.o.2
  have HNM : Hid (W3.drew.cell? (zn w1.heap.size 0) = some (sq d.name) /\ w1.heap.size ≠ sb) := L0 ⟨(show W3.drew.cell? _ = _ from n0), by have := HSB.o.2; have := HQL.o; omega⟩
  have HBD : Hid (Bw w W3.drew) := L0 (HBW.o.trans ⟨rfl, rfl, rfl, L0g _, fun _ _ => rfl⟩)
  have HX3 := L0 (HX.o.below HBD.o)
  have HF : Hid (∀ j, W3.drew.frozen? (zn sb j) = false) := L0 fun j => (HBD.o.fr j HSB.o.2).trans (HF0.o j)
  have hf3 : W3.drew.frozen? (zn sb (o + 3)) = false := HF.o (o + 3)
  have hf4 : W3.drew.frozen? (zn sb (o + 4)) = false := HF.o (o + 4)
  have HREL : Hid (rBk.rel W3.drew (Tn T w W3.drew) [.slice D x.mine.doms.length dc, .slice B x.mine.tabs.length bc] x.mine) := L0 (by
   obtain ⟨v', u', _, _, e1, _, h1, h2, _⟩ := HR.o
   simp only [L1f, and_true, true_and] at e1
   obtain ⟨rfl, rfl, _⟩ := e1
   exact rBk.mono (jD (show rBk.rel w T _ x.mine from ⟨_, _, rfl, h1, h2⟩) HBD.o) fun b hb _ => ⟨.inl hb, L0c (HT.o b hb) HBD.o.size⟩)
  have HSD : Hid (∀ q, Tn T w W3.drew q -> q < W3.drew.heap.size) := L0 fun q h => Tn.lt h
  clear e2 e3 a0 a1 a2 b0 b1 b2 b3 b4 x0 x1 x2 y0 y1 y2 y3 y4
  go_region_law (first
  | ((go_simp; go_at_call 46; (with_reducible refine (Y1t d W3.drew HREL.o HSD.o HDM.o HND'.o HNL.o).mono ?_); rintro e w4 ⟨v4, u4, rfl, ho4, hp4, hb4⟩; obtain ⟨A4, n4, k4, rfl⟩ := ho4.shape; obtain ⟨B4, m4', j4, rfl⟩ := hp4.shape; obtain ⟨W5, e5, HX5, HWR5, HN5, HF5, af3, af4, a3, a4⟩ := Y2g (W := W3.drew) HX3.o HT.o HSB.o HF.o HBD.o ho4 hp4 hb4 HNM.o; obtain ⟨y3, a3⟩ := a3; obtain ⟨y4, a4⟩ := a4; clear ho4 hp4 hb4)))
  all_goals
   have HB5 : Hid (Bw W5 W5.drew) := L0 ⟨rfl, rfl, rfl, L0g _, fun _ _ => rfl⟩
   have HX5d := L0 (HX5.o.below HB5.o)
   obtain ⟨D5, dc5, B5, bc5, G5, gc5, R5, rc5, hr5, _, _, _, _, _, g5, _⟩ := HX5d.o.out
   have HU5 : Hid ((rSl rStr).rel W5.drew (Tn T w W5.drew) [.slice G5 x.gone.length gc5] x.gone) := L0 (by
    obtain ⟨_, _, _, _, e1, _, _, _, h3, _⟩ := hr5
    simp only [L1f, and_true, true_and] at e1
    obtain ⟨_, _, rfl, _⟩ := e1
    exact h3)
   have g5' : W5.cell? (zn sb (o + 5)) = some (.slice G5 x.gone.length gc5) := g5
   have n5 := HN5.o.1
   have nz5 := HN5.o.2
   have hf5 : W5.drew.frozen? (zn sb (o + 5)) = false := HF5.o (o + 5)
   have HW3 : Hid (w.heap.size <= W5.drew.heap.size) := L0 (L0h HBD.o.size HWR5.o.hg.size)
   clear hr5 g5 a3 a4 af3 af4 e5 hf3 hf4 c3 c4 n0 n1 n2 m0 m1 m2 m3 m4
   go_upto_region 8 with fail
   go_region_law (first
    | ((go_simp; go_at_call 36; (with_reducible refine (Z2g d.name W5.drew HU5.o HDM.o.1 HG.o (fun _ h => Tn.lt h)).mono ?_); rintro e w6 ⟨u6, rfl, hr6, hb6⟩; obtain ⟨A6, k6, rfl, _⟩ := rSl.elems hr6; obtain ⟨W7, e7, HX7, HWR7, HF7, af5, a5⟩ := Y2f (W := W5.drew) HX5d.o HSB.o HF5.o HW3.o hr6 hb6; obtain ⟨y5, a5⟩ := a5; clear hr6 hb6)))
   all_goals
    go_wp2
    go_ret
    exact ⟨by rw [HV.o]; rfl, by rw [HV.o]; exact HX7.o, (((Wrote.below HBD.o HSB.o.2).trans HWR5.o).trans (.below HB5.o (L0c HSB.o.2 (L0h HBD.o.size HWR5.o.hg.size)))).trans HWR7.o⟩
 have HPS := L0 hps
 have HV : Hid (putB x s = (0, { x with mine := Z47 x.mine t, gone := addN x.gone t.name })) := L0 (by unfold putB; rw [hps]; rfl)
 have HNL0 : Hid (t.name.length <= 140737488355328) := L0 (by have := Z59 ht; omega)
 have HND' : Hid ((x.mine.tabs.map (·.name)).Nodup) := L0 HN.o.ht
 have HNL : Hid (x.mine.tabs.length < 1000000000000) := L0 (jB HN.o.lt HNT.o)
 clear hps ht
 go_enter Tryz.func34, Tryz.ntmps34
 go_upto_region 5 with (first
  | (go_at_call 44; (with_reducible refine (X17 HPS.o w HL.o HW.o HP.o).mono ?_); rintro e w1 ⟨A1, c1, B1, d1, rfl, hr1, hb1⟩; have HB1 := L0 hb1; have HR1 := L0 hr1; clear hb1 hr1; obtain ⟨W2, e2, HPB, HB2, HX1⟩ := PrB.start w1 63 66; obtain ⟨W3, e3, n0, n1, n2, m0, m1, m2, m3, m4, HB3, _⟩ := HPB.o.store dm0 t.name t.pol t.comp (.slice A1 t.ins.length c1) (.slice B1 t.rules.length d1); have a0 := HPB.o.a0; have a1 := HPB.o.a1; have a2 := HPB.o.a2; have b0 := HPB.o.b0; have b1 := HPB.o.b1; have b2 := HPB.o.b2; have b3 := HPB.o.b3; have b4 := HPB.o.b4; have x0 := HPB.o.x 0; have x1 := HPB.o.x 1; have x2 := HPB.o.x 2; have y0 := HPB.o.y 0; have y1 := HPB.o.y 1; have y2 := HPB.o.y 2; have y3 := HPB.o.y 3; have y4 := HPB.o.y 4; have HBW := L0 (HB3.o _ HB1.o.size _ (HB1.o.trans (HB2.o.mono HB1.o.size))); have HU := L0 (HB3.o w1.heap.size (L0g _) w1 HB2.o); simp only [dm0] at e3 n0 n1 n2))
 have HQL : Hid (w.heap.size <= w1.heap.size) := L0 HB1.o.size
 have c3 := (HBW.o.ce (o + 3) HSB.o.2).trans HC.o.1
 have c4 := (HBW.o.ce (o + 4) HSB.o.2).trans HC.o.2
 have HNM : Hid (W3.drew.cell? (zn ((w1.heap.size + 1)) 0) = some (sq t.name) /\ (w1.heap.size + 1) ≠ sb) := L0 ⟨(show W3.drew.cell? _ = _ from m0), by have := HSB.o.2; have := HQL.o; omega⟩
 have HBD : Hid (Bw w W3.drew) := L0 (HBW.o.trans ⟨rfl, rfl, rfl, L0g _, fun _ _ => rfl⟩)
 have HX3 := L0 (HX.o.below HBD.o)
 have HF : Hid (∀ j, W3.drew.frozen? (zn sb j) = false) := L0 fun j => (HBD.o.fr j HSB.o.2).trans (HF0.o j)
 have hf3 : W3.drew.frozen? (zn sb (o + 3)) = false := HF.o (o + 3)
 have hf4 : W3.drew.frozen? (zn sb (o + 4)) = false := HF.o (o + 4)
 have HREL : Hid (rBk.rel W3.drew (Tn T w W3.drew) [.slice D x.mine.doms.length dc, .slice B x.mine.tabs.length bc] x.mine) := L0 (by
  obtain ⟨v', u', _, _, e1, _, h1, h2, _⟩ := HR.o
  simp only [L1f, and_true, true_and] at e1
  obtain ⟨rfl, rfl, _⟩ := e1
  exact rBk.mono (jD (show rBk.rel w T _ x.mine from ⟨_, _, rfl, h1, h2⟩) HBD.o) fun b hb _ => ⟨.inl hb, L0c (HT.o b hb) HBD.o.size⟩)
 have HSD : Hid (∀ q, Tn T w W3.drew q -> q < W3.drew.heap.size) := L0 fun q h => Tn.lt h
 have HTB : Hid (rTb.rel W3.drew (Tn T w W3.drew) [sq t.name, .int .i64 t.pol, .bool t.comp, .slice A1 t.ins.length c1, .slice B1 t.rules.length d1] t) := L0 (Rd.drew (rTb.mono (jD HR1.o HU.o) fun b hb hl => ⟨.inr (by rcases hb with h | h; exact h.elim; exact h), L0c hl (by exact L0g _)⟩))
 clear e2 e3 a0 a1 a2 b0 b1 b2 b3 b4 x0 x1 x2 y0 y1 y2 y3 y4
 go_region_law (first
 | ((go_simp; go_at_call 45; (with_reducible refine (Z4u t W3.drew HREL.o HSD.o HTB.o HND'.o HNL.o).mono ?_); rintro e w4 ⟨v4, u4, rfl, ho4, hp4, hb4⟩; obtain ⟨A4, n4, k4, rfl⟩ := ho4.shape; obtain ⟨B4, m4', j4, rfl⟩ := hp4.shape; obtain ⟨W5, e5, HX5, HWR5, HN5, HF5, af3, af4, a3, a4⟩ := Y2g (W := W3.drew) HX3.o HT.o HSB.o HF.o HBD.o ho4 hp4 hb4 HNM.o; obtain ⟨y3, a3⟩ := a3; obtain ⟨y4, a4⟩ := a4; clear ho4 hp4 hb4)))
 all_goals
  have HB5 : Hid (Bw W5 W5.drew) := L0 ⟨rfl, rfl, rfl, L0g _, fun _ _ => rfl⟩
  have HX5d := L0 (HX5.o.below HB5.o)
  obtain ⟨D5, dc5, B5, bc5, G5, gc5, R5, rc5, hr5, _, _, _, _, _, g5, _⟩ := HX5d.o.out
  have HU5 : Hid ((rSl rStr).rel W5.drew (Tn T w W5.drew) [.slice G5 x.gone.length gc5] x.gone) := L0 (by
   obtain ⟨_, _, _, _, e1, _, _, _, h3, _⟩ := hr5
   simp only [L1f, and_true, true_and] at e1
   obtain ⟨_, _, rfl, _⟩ := e1
   exact h3)
  have g5' : W5.cell? (zn sb (o + 5)) = some (.slice G5 x.gone.length gc5) := g5
  have n5 := HN5.o.1
  have nz5 := HN5.o.2
  have hf5 : W5.drew.frozen? (zn sb (o + 5)) = false := HF5.o (o + 5)
  have HW3 : Hid (w.heap.size <= W5.drew.heap.size) := L0 (L0h HBD.o.size HWR5.o.hg.size)
  clear hr5 g5 a3 a4 af3 af4 e5 hf3 hf4 c3 c4 n0 n1 n2 m0 m1 m2 m3 m4
  go_upto_region 6 with fail
  go_region_law (first
   | ((go_simp; go_at_call 36; (with_reducible refine (Z2g t.name W5.drew HU5.o HNL0.o HG.o (fun _ h => Tn.lt h)).mono ?_); rintro e w6 ⟨u6, rfl, hr6, hb6⟩; obtain ⟨A6, k6, rfl, _⟩ := rSl.elems hr6; obtain ⟨W7, e7, HX7, HWR7, HF7, af5, a5⟩ := Y2f (W := W5.drew) HX5d.o HSB.o HF5.o HW3.o hr6 hb6; obtain ⟨y5, a5⟩ := a5; clear hr6 hb6)))
  all_goals
   go_wp2
   go_ret
   exact ⟨by rw [HV.o]; rfl, by rw [HV.o]; exact HX7.o, (((Wrote.below HBD.o HSB.o.2).trans HWR5.o).trans (.below HB5.o (L0c HSB.o.2 (L0h HBD.o.size HWR5.o.hg.size)))).trans HWR7.o⟩
