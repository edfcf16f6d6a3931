import Derived.Test.YtlopccnehgolnacGreatDoorCommit
import Derived.Test.YtlopccnehgolnacGreatDoorGK30
import Derived.Test.YtlopccnehgolnacGreatDoorSess
import Derived.Test.YtlopccnehgolnacGreatDoorShow
import Derived.BigQuiet
import Derived.Deep.DeepMust
namespace Go.Proofs.YtlopccnehgolnacGreatDoor
open Go.RowKit Rb
open List renaming nodup_nil -> jA
open Rd renaming below -> jB
set_option maxRecDepth 100000
set_option maxHeartbeats 6400000
def Z8m (st : Sto) (k : Nat) (a : Acn) : Rep × Sto :=
 if a.kind = 2 then (noR (putB (st.ses k) a.text).1, st.put k (putB (st.ses k) a.text).2)
 else if a.kind = 3 then (noR 0, st.put k { st.ses k with mine := Z0r (st.ses k).mine a.name, gone := addN (st.ses k).gone a.name })
 else if a.kind = 4 then (if Z0y (Z1o (st.at (st.ses k).frm) (st.ses k)) a.name = [] then noR 3 else ⟨0, 0, Z0y (Z1o (st.at (st.ses k).frm) (st.ses k)) a.name, [], []⟩, st.put k { st.ses k with read := addN (st.ses k).read a.name })
 else if a.kind = 5 then ((askS (st.at (st.ses k).frm) (st.ses k) a.inp).1, st.put k (askS (st.at (st.ses k).frm) (st.ses k) a.inp).2)
 else if a.kind = 6 then Z1a st k
 else (noR 0, st.put k ses0)
def Sto.up (st : Sto) : Sto := { st with acts := st.acts + 1 }
def doS (st : Sto) (a : Acn) : Rep × Sto :=
 if 200 <= st.acts then (noR 11, st)
 else if a.kind < 1 \/ 7 < a.kind then (noR 10, st.up)
 else if a.kind = 1 then Z4q st.up a.n
 else if a.n < 0 \/ 4 <= a.n \/ (st.ses a.n.toNat).opn = false then (noR 3, st.up)
 else if (a.kind = 3 \/ a.kind = 4) /\ Z1e a.name = false then (noR 1, st.up)
 else Z8m st.up a.n.toNat a
theorem X1l (s : Txt) : InI (Z0d s).e := by
 unfold Z0d InI prNo
 split
 ·simp
 split
 ·split <;> simp
 split
 ·split <;> simp
 simp
theorem X3p (x : Ses) (s : Txt) : InI (putB x s).1 := by
 unfold putB
 split
 ·exact X1l s
 split <;> exact ⟨by simp, by simp⟩
theorem Z5b (e : Int) (w : World) : Calls Tryz.prog 31 #[.int .i64 e] w fun x w' => x = .returned (.agg #[.int .i64 e, .int .i64 0, .string ⟨#[]⟩, nl, nl]) /\ Bw w w' := by
 obtain ⟨W, e0, HB, HZ, HC, HF⟩ := Y38 (L0m w.heap.size w)
 obtain ⟨c0, c1, c2, c3, c4⟩ := HC.o
 have f0 := HF.o 0
 have f1 := HF.o 1
 have f2 := HF.o 2
 have f3 := HF.o 3
 have f4 := HF.o 4
 obtain ⟨W2, e2, HG2, d0, d1, d2, d3, d4⟩ := Z1r (.int .i64 e) (.int .i64 0) (.string ⟨#[]⟩) (nl) (nl) c0 c1 c2 c3 c4
 go_enter Tryz.func31, Tryz.ntmps31
 refine Code.wp_mono (Z0k Tryz.results31) ?_
 go_wp2
 refine Z0g (by rfl) rfl d0 d1 d2 d3 d4 ?_
 exact ⟨rfl, HB.o.grown HG2.o HB.o.size fun k hk => by injection hk with hk; omega⟩
theorem Z5v {w : World} {S : Nat -> Prop} {rs : List Value} {r : Rep} (h : rRep.rel w S rs r) : ∃ A c B d, rs = [.int .i64 r.code, .int .i64 r.n, sq r.text, .slice A r.ans.length c, .slice B r.at'.length d] := by
 obtain ⟨v, u, rfl, _, _, _, h1, h2⟩ := h
 obtain ⟨A, c, rfl, _⟩ := rSl.elems h1
 obtain ⟨B, d, rfl, _⟩ := rSl.elems h2
 exact ⟨A, c, B, d, rfl⟩
def Zero5 (w : World) (q : Nat) : Prop := (w.cell? (zn q 0) = some (.int .i64 0) /\ w.cell? (zn q 1) = some (.int .i64 0) /\ w.cell? (zn q 2) = some (.string ⟨#[]⟩) /\ w.cell? (zn q 3) = some (nl) /\ w.cell? (zn q 4) = some (nl)) /\ ∀ j, w.frozen? (zn q j) = false
theorem Zero5.keep {w w' : World} {q : Nat} (h : Zero5 w q) (hb : w'.heap[q]? = w.heap[q]?) : Zero5 w' q := by
 have k : ∀ j, w'.cell? (zn q j) = w.cell? (zn q j) := fun j => L1d hb
 obtain ⟨⟨c0, c1, c2, c3, c4⟩, hf⟩ := h
 exact ⟨⟨(k 0).trans c0, (k 1).trans c1, (k 2).trans c2, (k 3).trans c3, (k 4).trans c4⟩, fun j => (L1a hb).trans (hf j)⟩
theorem Y3e {w w5 : World} {sb : Nat} {C C' T T' S : Nat -> Prop} {st' : Sto} {v0 v1 v2 v3 v4 : Value} {r : Rep} (hA : StoAt w5 sb C' T' st') (hc : Chg C w w5) (hC' : ∀ q, C' q -> C q \/ w.heap.size + 2 <= q) (hT' : ∀ q, T' q -> T q \/ w.heap.size + 2 <= q) (hC : ∀ q, C q -> q < w.heap.size) (hT : ∀ q, T q -> q < w.heap.size)
  (hr : rRep.rel w5 S [v0, v1, v2, v3, v4] r) (hS : ∀ q, S q -> w.heap.size + 2 <= q /\ ¬ C' q) (hz : Zero5 w5 (w.heap.size + 1)) :
  ∃ W6, ((((w5.setCell (zn (w.heap.size + 1) 0) v0).setCell (zn (w.heap.size + 1) 1) v1).setCell (zn (w.heap.size + 1) 2) v2).setCell (zn (w.heap.size + 1) 3) v3).setCell (zn (w.heap.size + 1) 4) v4 = W6 /\ W6.cell? (zn (w.heap.size + 1) 0) = some v0 /\ W6.cell? (zn (w.heap.size + 1) 1) = some v1 /\ W6.cell? (zn (w.heap.size + 1) 2) = some v2 /\ W6.cell? (zn (w.heap.size + 1) 3) = some v3 /\ W6.cell? (zn (w.heap.size + 1) 4) = some v4 /\
   Hid (Z1g w sb C T r st' (.returned (.agg #[v0, v1, v2, v3, v4])) W6) := by
 obtain ⟨⟨c0, c1, c2, c3, c4⟩, _⟩ := hz
 obtain ⟨W6, e6, HG, r0, r1, r2, r3, r4⟩ := Z1r v0 v1 v2 v3 v4 c0 c1 c2 c3 c4
 have hT0 : ¬ T' (w.heap.size + 1) := fun h => by rcases hT' _ h with h | h; have := hT _ h; omega; omega
 have hC0 : ¬ C' (w.heap.size + 1) := fun h => by rcases hC' _ h with h | h; have := hC _ h; omega; omega
 refine ⟨W6, e6, r0, r1, r2, r3, r4, L0 ⟨[v0, v1, v2, v3, v4], C', T', rfl, ?_, hA.away HG.o ⟨hT0, hC0⟩, hc.next (C' := fun b => b = w.heap.size + 1) (.grown HG.o fun g hg => by injection hg with hg; exact .inl hg.symm) fun b hb => .inr (by omega), fun q h => (hC' q h).imp id fun h => by omega, fun q h => (hT' q h).imp id fun h => by omega⟩⟩
 exact rRep.mono (rRep.keep hr (.grown HG.o fun g hg h => by injection hg with hg; have := (hS _ h).1; omega)) fun q hq hl => ⟨by have := (hS q hq).1; omega, (hS q hq).2, hl⟩
theorem Z8n {w wo w5 : World} {sb : Nat} {C T T' : Nat -> Prop} {st' : Sto} {e : Int} (hA : StoAt wo sb C T' st') (hc : Chg C w wo) (hT' : ∀ q, T' q -> T q \/ w.heap.size + 2 <= q) (hC : ∀ q, C q -> q < w.heap.size) (hT : ∀ q, T q -> q < w.heap.size) (hz : Zero5 wo (w.heap.size + 1)) (he : InI e) (hb : Bw wo w5) :
  ∃ W6, ((((w5.setCell (zn (w.heap.size + 1) 0) (.int .i64 e)).setCell (zn (w.heap.size + 1) 1) (.int .i64 0)).setCell (zn (w.heap.size + 1) 2) (.string ⟨#[]⟩)).setCell (zn (w.heap.size + 1) 3) (nl)).setCell (zn (w.heap.size + 1) 4) (nl) = W6 /\ (W6.cell? (zn (w.heap.size + 1) 0) = some (.int .i64 e) /\ W6.cell? (zn (w.heap.size + 1) 1) = some (.int .i64 0) /\ W6.cell? (zn (w.heap.size + 1) 2) = some (.string ⟨#[]⟩) /\ W6.cell? (zn (w.heap.size + 1) 3) = some (nl) /\ W6.cell? (zn (w.heap.size + 1) 4) = some (nl)) /\ Zero5 w5 (w.heap.size + 1) /\
   Hid (Z1g w sb C T (noR e) st' (.returned (.agg #[.int .i64 e, .int .i64 0, .string ⟨#[]⟩, nl, nl])) W6) := by
 have hlt : w.heap.size + 1 < wo.heap.size := L0d _ _ hz.1.1
 have hz5 : Zero5 w5 (w.heap.size + 1) := hz.keep (hb.block _ hlt)
 obtain ⟨W6, e6, r0, r1, r2, r3, r4, HP⟩ := Y3e (S := fun _ => False) (hA.below hb) (hc.trans (.below hb)) (fun q h => .inl h) hT' hC hT (r := noR e) (Z2q (s := []) he ⟨by decide, by decide⟩ (by simp)) (fun _ h => h.elim) hz5
 exact ⟨W6, e6, ⟨r0, r1, r2, r3, r4⟩, hz5, HP⟩
theorem Y9s (b : Bk) (s : Txt) : (Z0y b s).length <= 1700 := by
 unfold Z0y
 split
 ·rename_i d _
  unfold Z4x
  split
  ·rename_i hd
   obtain ⟨q1, q2, q3⟩ := Z58 hd
   have z1 := Z4m q1
   have z2 := Z25 _ q2
   have z3 := Z25 _ q3
   simp only [Z49, L0i, L0r, L0v]
   omega
  simp
 split
 ·rename_i t _
  unfold Z8k
  split
  ·rename_i ht
   exact Z5z ht
  simp
 simp
theorem X19 {S : Nat -> Prop} {cs : List Value} {b : Bk} {s t : Txt} (ht : Z0y b s = t) (w : World) (hl : rBk.rel w S cs b) (hs : s.length <= 140737488355328) (hw : LibW w) (hp : PolW w) :
  Calls Tryz.prog 19 #[.agg cs.toArray, sq s] w fun e w' => e = .returned (sq t) /\ Bw w w' := ht ▸ Y1r s w hl hs hw hp
structure SesInv (st : Sto) (k f : Nat) : Prop where
 mn : Neat (st.ses k).mine 1000 1000
 gl : (st.ses k).gone.length <= 1000
 rl : (st.ses k).read.length <= 1000000
 fr : (st.ses k).frm = f
 fl : f < st.states.length
 bk : ∀ b ∈ st.states, Neat b 4 4
 sl : st.states.length <= 40
theorem Z8x {w W4 w5 : World} {sb k : Nat} {C T : Nat -> Prop} {st : Sto} {x' : Ses} (hA : StoAt W4 sb C T st) (hc : Chg C w W4) (hz : Zero5 W4 (w.heap.size + 1)) (hk : k < 4) (hw : Wrote sb (1 + k * 7) W4 w5) (hx : SesAt w5 sb (1 + k * 7) (Tn T W4 w5) x') (hsb : C sb) (hsl : sb < w.heap.size) (hs : W4.heap.size = w.heap.size + 2) :
  Hid (StoAt w5 sb C (Tn T W4 w5) (st.put k x')) /\ Hid (Chg C w w5) /\ Hid (Zero5 w5 (w.heap.size + 1)) /\ Hid (∀ q, Tn T W4 w5 q -> T q \/ w.heap.size + 2 <= q) := by
 refine ⟨L0 (hA.setSes hk hw hx (fun q h => ⟨.inl h, L0c (hA.tw q h) hw.hg.size⟩) (fun q h => h.2) fun q h => h.1), L0 (hc.trans (hw.chg hsb)), L0 (hz.keep (hw.hg.block _ (L0d _ _ hz.1.1) fun e => by injection e with e; omega)), L0 fun q h => h.1.imp id fun h => by omega⟩
theorem Z17 {w W : World} {sb q : Nat} {C T : Nat -> Prop} {st : Sto} {v0 v1 v2 v3 v4 : Value} (nq : Nat) (ha : Hid (StoAt W sb C T st)) (hc : Hid (Chg C w W)) (hq : Hid (Zero5 W (w.heap.size + 1))) (hz : Hid (W.heap.size = w.heap.size + 2))
  (hk : W.cell? (zn q 0) = some v0 /\ W.cell? (zn q 1) = some v1 /\ W.cell? (zn q 2) = some v2 /\ W.cell? (zn q 3) = some v3 /\ W.cell? (zn q 4) = some v4) :
  ∃ W', W.drewN nq = W' /\ Hid (Bw W W') /\ Hid (W'.heap.size = w.heap.size + 2) /\ (W'.cell? (zn q 0) = some v0 /\ W'.cell? (zn q 1) = some v1 /\ W'.cell? (zn q 2) = some v2 /\ W'.cell? (zn q 3) = some v3 /\ W'.cell? (zn q 4) = some v4) /\ Hid (StoAt W' sb C T st) /\ Hid (Chg C w W') /\ Hid (Zero5 W' (w.heap.size + 1)) := by
 have hb : Bw W (W.drewN nq) := ⟨rfl, rfl, rfl, L0g _, fun _ _ => rfl⟩
 exact ⟨_, rfl, L0 hb, L0 hz.out, hk, L0 (ha.out.below hb), L0 (hc.out.trans (.below hb)), L0 (hq.out.keep (hb.block _ (L0d _ _ hq.out.1.1)))⟩
theorem Z55 {w : World} {sb : Nat} {C T I : Nat -> Prop} {st : Sto} {a : Acn} {A : Option Addr} {c : Nat} (h : StoAt w sb C T st) (hin : (rSl rInt).rel w I [.slice A a.inp.length c] a.inp) :
  ∃ W1, (w.alloc (.cells #[.int .i64 a.kind, .int .i64 a.n, sq a.name, sq a.text, .slice A a.inp.length c] 24)).alloc (.cells #[.int .i64 0, .int .i64 0, .string ⟨#[]⟩, nl, nl] 30) = W1 /\ Hid (Bw w W1) /\ Hid (W1.heap.size = w.heap.size + 2) /\
   (W1.cell? (zn w.heap.size 0) = some (.int .i64 a.kind) /\ W1.cell? (zn w.heap.size 1) = some (.int .i64 a.n) /\ W1.cell? (zn w.heap.size 2) = some (sq a.name) /\ W1.cell? (zn w.heap.size 3) = some (sq a.text) /\ W1.cell? (zn w.heap.size 4) = some (.slice A a.inp.length c)) /\ Hid (Zero5 W1 (w.heap.size + 1)) /\ Hid (StoAt W1 sb C T st) /\ Hid ((rSl rInt).rel W1 I [.slice A a.inp.length c] a.inp) /\ W1.cell? (zn sb 29) = some (.int .i64 st.acts) /\ W1.frozen? (zn sb 29) = false /\
   ∃ W2, W1.setCell (zn sb 29) (.int .i64 ((st.acts : Int) + 1)) = W2 /\ Hid (StoAt W2 sb C T st.up) /\ Hid (Chg C w W2) /\ Hid (Zero5 W2 (w.heap.size + 1)) /\ Hid (W2.heap.size = w.heap.size + 2) /\ Hid ((∀ q, I q -> q < w.heap.size /\ ¬ C q) -> (rSl rInt).rel W2 I [.slice A a.inp.length c] a.inp) /\
    (W2.cell? (zn w.heap.size 0) = some (.int .i64 a.kind) /\ W2.cell? (zn w.heap.size 1) = some (.int .i64 a.n) /\ W2.cell? (zn w.heap.size 2) = some (sq a.name) /\ W2.cell? (zn w.heap.size 3) = some (sq a.text) /\ W2.cell? (zn w.heap.size 4) = some (.slice A a.inp.length c)) := by
 have z0 : (w.alloc (.cells #[.int .i64 a.kind, .int .i64 a.n, sq a.name, sq a.text, .slice A a.inp.length c] 24)).heap.size = w.heap.size + 1 := by simp
 have hlt : ∀ j, w.heap.size < (w.alloc (.cells #[.int .i64 a.kind, .int .i64 a.n, sq a.name, sq a.text, .slice A a.inp.length c] 24)).heap.size + j := fun j => by omega
 obtain ⟨W0, e0⟩ : ∃ W0, w.alloc (.cells #[.int .i64 a.kind, .int .i64 a.n, sq a.name, sq a.text, .slice A a.inp.length c] 24) = W0 := ⟨_, rfl⟩
 have hb0 : Bw w W0 := e0 ▸ (L0m _ _).alloc (L0g _) _
 have k : ∀ j u, (#[.int .i64 a.kind, .int .i64 a.n, sq a.name, sq a.text, .slice A a.inp.length c] : Array Value)[j]? = some u -> W0.cell? (zn w.heap.size j) = some u := fun j u hu => by rw [<- e0]; exact (L0b _ _ _ _).trans hu
 rw [e0] at z0 hlt ⊢
 obtain ⟨W1, e1, HB, HZ, HC, HF⟩ := Y38 (L0m W0.heap.size W0)
 have hl0 : w.heap.size < W0.heap.size := by omega
 have hb1 : Bw w W1 := hb0.trans (HB.o.mono hb0.size)
 have k1 : ∀ j u, (#[.int .i64 a.kind, .int .i64 a.n, sq a.name, sq a.text, .slice A a.inp.length c] : Array Value)[j]? = some u -> W1.cell? (zn w.heap.size j) = some u := fun j u hu => (HB.o.ce j hl0).trans (k j u hu)
 have hA1 : StoAt W1 sb C T st := h.below hb1
 have hz1 : W1.heap.size = w.heap.size + 2 := by have := HZ.o; omega
 have hZ1 : Zero5 W1 (w.heap.size + 1) := by
  have hc := HC.o
  have hf := HF.o
  rw [z0] at hc hf
  exact ⟨hc, hf⟩
 have hG : W1.grownBy (W1.setCell (zn sb 29) (.int .i64 ((st.acts : Int) + 1))) (some sb) := Z0b [.int .i64 ((st.acts : Int) + 1)] 29
 have hsl := h.lt
 have k2 : ∀ j u, (#[.int .i64 a.kind, .int .i64 a.n, sq a.name, sq a.text, .slice A a.inp.length c] : Array Value)[j]? = some u -> (W1.setCell (zn sb 29) (.int .i64 ((st.acts : Int) + 1))).cell? (zn w.heap.size j) = some u := fun j u hu => hG.cell (k1 j u hu) (show some w.heap.size ≠ some sb from fun e => by injection e with e; omega)
 refine ⟨W1, e1, L0 hb1, L0 hz1, ⟨k1 0 _ rfl, k1 1 _ rfl, k1 2 _ rfl, k1 3 _ rfl, k1 4 _ rfl⟩, L0 hZ1, L0 hA1, L0 (jB hin hb1), hA1.act, hA1.frz 29, _, rfl, L0 ?_, L0 ((Chg.below hb1).trans (.setCell h.csb _)), L0 (hZ1.keep (hG.block _ (by omega) (fun e => by injection e with e; omega))), L0 (by simp [World.setCell, hz1]), L0 fun hI => (rSl rInt).keep (jB hin hb1) (.grown hG fun g hg hb => by injection hg with hg; subst hg; exact (hI _ hb).2 h.csb), ⟨k2 0 _ rfl, k2 1 _ rfl, k2 2 _ rfl, k2 3 _ rfl, k2 4 _ rfl⟩⟩
 have := hA1.setAct (st.acts + 1)
 rwa [show ((st.acts + 1 : Nat) : Int) = (st.acts : Int) + 1 by omega] at this
theorem Z2n {w : World} {sb : Nat} {C T I : Nat -> Prop} {st : Sto} {kd n : Int} {nm tx : Txt} {ip : List Int} {A : Option Addr} {c : Nat} (h : StoAt w sb C T st) (hin : (rSl rInt).rel w I [.slice A ip.length c] ip) :
  ∃ W1, (w.alloc (.cells #[.int .i64 kd, .int .i64 n, sq nm, sq tx, .slice A ip.length c] 24)).alloc (.cells #[.int .i64 0, .int .i64 0, .string ⟨#[]⟩, nl, nl] 30) = W1 /\ Hid (Bw w W1) /\ Hid (W1.heap.size = w.heap.size + 2) /\
   (W1.cell? (zn w.heap.size 0) = some (.int .i64 kd) /\ W1.cell? (zn w.heap.size 1) = some (.int .i64 n) /\ W1.cell? (zn w.heap.size 2) = some (sq nm) /\ W1.cell? (zn w.heap.size 3) = some (sq tx) /\ W1.cell? (zn w.heap.size 4) = some (.slice A ip.length c)) /\ Hid (Zero5 W1 (w.heap.size + 1)) /\ Hid (StoAt W1 sb C T st) /\ Hid ((rSl rInt).rel W1 I [.slice A ip.length c] ip) /\ W1.cell? (zn sb 29) = some (.int .i64 st.acts) /\ W1.frozen? (zn sb 29) = false /\
   ∃ W2, W1.setCell (zn sb 29) (.int .i64 ((st.acts : Int) + 1)) = W2 /\ Hid (StoAt W2 sb C T st.up) /\ Hid (Chg C w W2) /\ Hid (Zero5 W2 (w.heap.size + 1)) /\ Hid (W2.heap.size = w.heap.size + 2) /\ Hid ((∀ q, I q -> q < w.heap.size /\ ¬ C q) -> (rSl rInt).rel W2 I [.slice A ip.length c] ip) /\
    (W2.cell? (zn w.heap.size 0) = some (.int .i64 kd) /\ W2.cell? (zn w.heap.size 1) = some (.int .i64 n) /\ W2.cell? (zn w.heap.size 2) = some (sq nm) /\ W2.cell? (zn w.heap.size 3) = some (sq tx) /\ W2.cell? (zn w.heap.size 4) = some (.slice A ip.length c)) :=
 Z55 (a := ⟨kd, n, nm, tx, ip⟩) h hin
theorem X2r {C T I : Nat -> Prop} {sb : Nat} {st : Sto} {a : Acn} {as' : List Value} (w : World) (h : StoAt w sb C T st) (ha : rAcn.rel w I as' a) (_hI : ∀ q, I q -> q < w.heap.size /\ ¬ C q) (h200 : 200 <= st.acts) :
  Calls Tryz.prog 11 #[.pointer (some (zn sb 0)), .agg as'.toArray] w fun e w' => Z1g w sb C T (doS st a).1 (doS st a).2 e w' := by
 obtain ⟨u, rfl, hki, hni, hnm, htx, hin⟩ := ha
 obtain ⟨A, c, rfl, _⟩ := rSl.elems hin
 obtain ⟨W1, e1, HB1, HZ1, ⟨a0, a1, a2, a3, a4⟩, HQ1, HA1, HIN1, s29, f29, W2, e2, HA2, HC2, HQ2, HZ2, HIN2, ⟨b0, b1, b2, b3, b4⟩⟩ := Z55 h hin
 have HTL := L0 h.tw
 have HCL := L0 h.cw
 clear h hin hki hni hnm htx _hI
 have HD : Hid (doS st a = (noR 11, st)) := L0 (by unfold doS; rw [if_pos h200])
 have hq : (200 : Int) <= st.acts := by omega
 go_enter Tryz.func11, Tryz.ntmps11
 refine Code.wp_mono (Z0k Tryz.results11) ?_
 go_wp2_with (go_at_call 31; (with_reducible refine (Z5b 11 W1).mono ?_); rintro e w5 ⟨rfl, hb5⟩; obtain ⟨W6, e6, ⟨r0, r1, r2, r3, r4⟩, hz5, HP⟩ := Z8n (e := 11) HA1.o (.below HB1.o) (T := T) (fun q h => .inl h) HCL.o HTL.o HQ1.o ⟨by decide, by decide⟩ hb5; obtain ⟨⟨d0, d1, d2, d3, d4⟩, hf⟩ := hz5; have z0 := hf 0; have z1 := hf 1; have z2 := hf 2; have z3 := hf 3; have z4 := hf 4; clear hb5 hf)
 refine Z0g (by rfl) rfl r0 r1 r2 r3 r4 ?_
 rw [HD.o]
 exact HP.o
theorem X2s {C T I : Nat -> Prop} {sb : Nat} {st : Sto} {a : Acn} {as' : List Value} (w : World) (h : StoAt w sb C T st) (ha : rAcn.rel w I as' a) (_hI : ∀ q, I q -> q < w.heap.size /\ ¬ C q) (h200 : ¬ 200 <= st.acts) (hk : a.kind < 1 \/ 7 < a.kind) :
  Calls Tryz.prog 11 #[.pointer (some (zn sb 0)), .agg as'.toArray] w fun e w' => Z1g w sb C T (doS st a).1 (doS st a).2 e w' := by
 obtain ⟨u, rfl, hki, hni, hnm, htx, hin⟩ := ha
 obtain ⟨A, c, rfl, _⟩ := rSl.elems hin
 obtain ⟨W1, e1, HB1, HZ1, ⟨a0, a1, a2, a3, a4⟩, HQ1, HA1, HIN1, s29, f29, W2, e2, HA2, HC2, HQ2, HZ2, HIN2, ⟨b0, b1, b2, b3, b4⟩⟩ := Z55 h hin
 have HTL := L0 h.tw
 have HCL := L0 h.cw
 clear h hin hki hni hnm htx _hI
 have HD : Hid (doS st a = (noR 10, st.up)) := L0 (by unfold doS; rw [if_neg h200, if_pos hk])
 have hq : ¬ (200 : Int) <= st.acts := by omega
 have hwr : (st.acts : Int) + 1 <= 200 := by omega
 have hk' : a.kind < 1 \/ (¬ a.kind < 1 /\ 7 < a.kind) := by omega
 clear hk
 rcases hk' with h1 | ⟨h1, h2⟩
 ·skip
  go_enter Tryz.func11, Tryz.ntmps11
  refine Code.wp_mono (Z0k Tryz.results11) ?_
  go_wp2_with (go_at_call 31; (with_reducible refine (Z5b 10 W2).mono ?_); rintro e w5 ⟨rfl, hb5⟩; obtain ⟨W6, e6, ⟨r0, r1, r2, r3, r4⟩, hz5, HP⟩ := Z8n (e := 10) HA2.o HC2.o (T := T) (fun q h => .inl h) HCL.o HTL.o HQ2.o ⟨by decide, by decide⟩ hb5; obtain ⟨⟨d0, d1, d2, d3, d4⟩, hf⟩ := hz5; have z0 := hf 0; have z1 := hf 1; have z2 := hf 2; have z3 := hf 3; have z4 := hf 4; clear hb5 hf)
  refine Z0g (by rfl) rfl r0 r1 r2 r3 r4 ?_
  rw [HD.o]
  exact HP.o
 skip
 go_enter Tryz.func11, Tryz.ntmps11
 refine Code.wp_mono (Z0k Tryz.results11) ?_
 go_wp2_with (go_at_call 31; (with_reducible refine (Z5b 10 W2).mono ?_); rintro e w5 ⟨rfl, hb5⟩; obtain ⟨W6, e6, ⟨r0, r1, r2, r3, r4⟩, hz5, HP⟩ := Z8n (e := 10) HA2.o HC2.o (T := T) (fun q h => .inl h) HCL.o HTL.o HQ2.o ⟨by decide, by decide⟩ hb5; obtain ⟨⟨d0, d1, d2, d3, d4⟩, hf⟩ := hz5; have z0 := hf 0; have z1 := hf 1; have z2 := hf 2; have z3 := hf 3; have z4 := hf 4; clear hb5 hf)
 refine Z0g (by rfl) rfl r0 r1 r2 r3 r4 ?_
 rw [HD.o]
 exact HP.o
theorem X2t {C T I : Nat -> Prop} {sb : Nat} {st : Sto} {a : Acn} {as' : List Value} (w : World) (h : StoAt w sb C T st) (ha : rAcn.rel w I as' a) (_hI : ∀ q, I q -> q < w.heap.size /\ ¬ C q) (h200 : ¬ 200 <= st.acts) (hk : a.kind = 1) (hne : 0 < st.states.length) :
  Calls Tryz.prog 11 #[.pointer (some (zn sb 0)), .agg as'.toArray] w fun e w' => Z1g w sb C T (doS st a).1 (doS st a).2 e w' := by
 obtain ⟨u, rfl, hki, hni, hnm, htx, hin⟩ := ha
 obtain ⟨A, c, rfl, _⟩ := rSl.elems hin
 obtain ⟨W1, e1, HB1, HZ1, ⟨a0, a1, a2, a3, a4⟩, HQ1, HA1, HIN1, s29, f29, W2, e2, HA2, HC2, HQ2, HZ2, HIN2, ⟨b0, b1, b2, b3, b4⟩⟩ := Z55 h hin
 have HTL := L0 h.tw
 have HCL := L0 h.cw
 have HNI := L0 hni
 clear h hin hki hni hnm htx _hI
 have hk1 : ¬ a.kind < 1 := by omega
 have hk7 : ¬ 7 < a.kind := by omega
 have HD : Hid (doS st a = Z4q st.up a.n) := L0 (by unfold doS; rw [if_neg h200, if_neg (by omega), if_pos hk])
 have hq : ¬ (200 : Int) <= st.acts := by omega
 have hwr : (st.acts : Int) + 1 <= 200 := by omega
 have hk2 : (a.kind == 1) = true := by rw [beq_iff_eq]; exact hk
 have HNE : Hid (0 < st.up.states.length) := L0 hne
 clear hk
 go_enter Tryz.func11, Tryz.ntmps11
 refine Code.wp_mono (Z0k Tryz.results11) ?_
 go_wp2_with (go_at_call 32; (with_reducible refine (X0m a.n W2 HA2.o HNI.o HNE.o).mono ?_); rintro e w5 ⟨rs, rfl, hr5, ha5, hc5⟩; obtain ⟨RA, rc, RB, rd, rfl⟩ := Z5v hr5; have hz5 := HQ2.o.keep (hc5.block _ (L0d _ _ HQ2.o.1.1) (fun h => by (have := HCL.o _ h; omega))); obtain ⟨W6, e6, r0, r1, r2, r3, r4, HP⟩ := Y3e (T := T) (S := fun _ => False) ha5 (HC2.o.trans hc5) (fun q h => .inl h) (fun q h => .inl h) HCL.o HTL.o hr5 (fun _ h => h.elim) hz5; obtain ⟨⟨d0, d1, d2, d3, d4⟩, hf⟩ := hz5; have z0 := hf 0; have z1 := hf 1; have z2 := hf 2; have z3 := hf 3; have z4 := hf 4; clear hr5 ha5 hc5 hf)
 refine Z0g (by rfl) rfl r0 r1 r2 r3 r4 ?_
 rw [HD.o]
 exact HP.o
theorem X36 {C T I : Nat -> Prop} {sb : Nat} {st : Sto} {a : Acn} {as' : List Value} (w : World) (h : StoAt w sb C T st) (ha : rAcn.rel w I as' a) (_hI : ∀ q, I q -> q < w.heap.size /\ ¬ C q) (h200 : ¬ 200 <= st.acts) (_hk : 2 <= a.kind /\ a.kind <= 7) (hn : a.n < 0) :
  Calls Tryz.prog 11 #[.pointer (some (zn sb 0)), .agg as'.toArray] w fun e w' => Z1g w sb C T (doS st a).1 (doS st a).2 e w' := by
 obtain ⟨u, rfl, hki, hni, hnm, htx, hin⟩ := ha
 obtain ⟨A, c, rfl, _⟩ := rSl.elems hin
 obtain ⟨W1, e1, HB1, HZ1, ⟨a0, a1, a2, a3, a4⟩, HQ1, HA1, HIN1, s29, f29, W2, e2, HA2, HC2, HQ2, HZ2, HIN2, ⟨b0, b1, b2, b3, b4⟩⟩ := Z55 h hin
 have HTL := L0 h.tw
 have HCL := L0 h.cw
 clear h hin hki hni hnm htx _hI
 have hk1 : ¬ a.kind < 1 := by omega
 have hk7 : ¬ 7 < a.kind := by omega
 have HD : Hid (doS st a = (noR 3, st.up)) := L0 (by unfold doS; rw [if_neg h200, if_neg (by omega), if_neg (by omega), if_pos (.inl hn)])
 have hq : ¬ (200 : Int) <= st.acts := by omega
 have hwr : (st.acts : Int) + 1 <= 200 := by omega
 have hk2 : (a.kind == 1) = false := by rw [beq_eq_false_iff_ne]; omega
 have hg1 : decide (a.n < 0) = true := decide_eq_true hn
 clear _hk
 go_enter Tryz.func11, Tryz.ntmps11
 refine Code.wp_mono (Z0k Tryz.results11) ?_
 go_upto_region 11 with fail
 go_quiet (fail)
 obtain ⟨W3, e3, HB3⟩ : ∃ W3, W2.drewN nq = W3 /\ Hid (Bw W2 W3) := ⟨_, rfl, L0 ⟨rfl, rfl, rfl, L0g _, fun _ _ => rfl⟩⟩
 rw [e3]
 clear e3
 have HA3 : Hid (StoAt W3 sb C T st.up) := L0 (HA2.o.below HB3.o)
 have HC3 : Hid (Chg C w W3) := L0 (HC2.o.trans (.below HB3.o))
 have HQ3 : Hid (Zero5 W3 (w.heap.size + 1)) := L0 (HQ2.o.keep (HB3.o.block _ (L0d _ _ HQ2.o.1.1)))
 go_wp2_with (go_at_call 31; (with_reducible refine (Z5b 3 W3).mono ?_); rintro e w5 ⟨rfl, hb5⟩; obtain ⟨W6, e6, ⟨r0, r1, r2, r3, r4⟩, hz5, HP⟩ := Z8n (e := 3) HA3.o HC3.o (T := T) (fun q h => .inl h) HCL.o HTL.o HQ3.o ⟨by decide, by decide⟩ hb5; obtain ⟨⟨d0, d1, d2, d3, d4⟩, hf⟩ := hz5; have z0 := hf 0; have z1 := hf 1; have z2 := hf 2; have z3 := hf 3; have z4 := hf 4; clear hb5 hf)
 refine Z0g (by rfl) rfl r0 r1 r2 r3 r4 ?_
 rw [HD.o]
 exact HP.o
theorem X34 {C T I : Nat -> Prop} {sb : Nat} {st : Sto} {a : Acn} {as' : List Value} (w : World) (h : StoAt w sb C T st) (ha : rAcn.rel w I as' a) (_hI : ∀ q, I q -> q < w.heap.size /\ ¬ C q) (h200 : ¬ 200 <= st.acts) (_hk : 2 <= a.kind /\ a.kind <= 7) (hn : 4 <= a.n) :
  Calls Tryz.prog 11 #[.pointer (some (zn sb 0)), .agg as'.toArray] w fun e w' => Z1g w sb C T (doS st a).1 (doS st a).2 e w' := by
 obtain ⟨u, rfl, hki, hni, hnm, htx, hin⟩ := ha
 obtain ⟨A, c, rfl, _⟩ := rSl.elems hin
 obtain ⟨W1, e1, HB1, HZ1, ⟨a0, a1, a2, a3, a4⟩, HQ1, HA1, HIN1, s29, f29, W2, e2, HA2, HC2, HQ2, HZ2, HIN2, ⟨b0, b1, b2, b3, b4⟩⟩ := Z55 h hin
 have HTL := L0 h.tw
 have HCL := L0 h.cw
 clear h hin hki hni hnm htx _hI
 have hk1 : ¬ a.kind < 1 := by omega
 have hk7 : ¬ 7 < a.kind := by omega
 have HD : Hid (doS st a = (noR 3, st.up)) := L0 (by unfold doS; rw [if_neg h200, if_neg (by omega), if_neg (by omega), if_pos (.inr (.inl hn))])
 have hq : ¬ (200 : Int) <= st.acts := by omega
 have hwr : (st.acts : Int) + 1 <= 200 := by omega
 have hk2 : (a.kind == 1) = false := by rw [beq_eq_false_iff_ne]; omega
 have hg1 : decide (a.n < 0) = false := decide_eq_false (by omega)
 have hg2 : decide ((4 : Int) <= a.n) = true := decide_eq_true hn
 have hg3 : ¬ a.n < 0 := by omega
 clear _hk
 go_enter Tryz.func11, Tryz.ntmps11
 refine Code.wp_mono (Z0k Tryz.results11) ?_
 go_upto_region 11 with fail
 go_quiet (fail)
 obtain ⟨W3, e3, HB3⟩ : ∃ W3, W2.drewN nq = W3 /\ Hid (Bw W2 W3) := ⟨_, rfl, L0 ⟨rfl, rfl, rfl, L0g _, fun _ _ => rfl⟩⟩
 rw [e3]
 clear e3
 have HA3 : Hid (StoAt W3 sb C T st.up) := L0 (HA2.o.below HB3.o)
 have HC3 : Hid (Chg C w W3) := L0 (HC2.o.trans (.below HB3.o))
 have HQ3 : Hid (Zero5 W3 (w.heap.size + 1)) := L0 (HQ2.o.keep (HB3.o.block _ (L0d _ _ HQ2.o.1.1)))
 go_wp2_with (go_at_call 31; (with_reducible refine (Z5b 3 W3).mono ?_); rintro e w5 ⟨rfl, hb5⟩; obtain ⟨W6, e6, ⟨r0, r1, r2, r3, r4⟩, hz5, HP⟩ := Z8n (e := 3) HA3.o HC3.o (T := T) (fun q h => .inl h) HCL.o HTL.o HQ3.o ⟨by decide, by decide⟩ hb5; obtain ⟨⟨d0, d1, d2, d3, d4⟩, hf⟩ := hz5; have z0 := hf 0; have z1 := hf 1; have z2 := hf 2; have z3 := hf 3; have z4 := hf 4; clear hb5 hf)
 refine Z0g (by rfl) rfl r0 r1 r2 r3 r4 ?_
 rw [HD.o]
 exact HP.o
theorem X2u {C T I : Nat -> Prop} {sb k : Nat} {st : Sto} {nm tx : Txt} {ip : List Int} {A : Option Addr} {c : Nat} {kd : Int} (w : World) (h : StoAt w sb C T st) (hin : (rSl rInt).rel w I [.slice A ip.length c] ip) (_hI : ∀ q, I q -> q < w.heap.size /\ ¬ C q) (_hnm : nm.length <= 140737488355328) (_htx : tx.length <= 140737488355328) (h200 : ¬ 200 <= st.acts) (hk4 : k < 4) (_hk : 2 <= kd /\ kd <= 7) (ho : (st.ses k).opn = false) :
  Calls Tryz.prog 11 #[.pointer (some (zn sb 0)), .agg #[.int .i64 kd, .int .i64 k, sq nm, sq tx, .slice A ip.length c]] w fun e w' => Z1g w sb C T (doS st ⟨kd, k, nm, tx, ip⟩).1 (doS st ⟨kd, k, nm, tx, ip⟩).2 e w' := by
 obtain ⟨W1, e1, HB1, HZ1, ⟨a0, a1, a2, a3, a4⟩, HQ1, HA1, HIN1, s29, f29, W2, e2, HA2, HC2, HQ2, HZ2, HIN2, ⟨b0, b1, b2, b3, b4⟩⟩ := Z2n (kd := kd) (n := (k : Int)) (nm := nm) (tx := tx) h hin
 have HTL := L0 h.tw
 have HCL := L0 h.cw
 have hq : ¬ (200 : Int) <= st.acts := by omega
 have hwr : (st.acts : Int) + 1 <= 200 := by omega
 have hg1 : decide ((k : Int) < 0) = false := decide_eq_false (by omega)
 have hg2 : decide ((4 : Int) <= k) = false := decide_eq_false (by omega)
 have hg3 : (0 : Int) <= k := by omega
 have hg4 : (k : Int) < 4 := by omega
 obtain ⟨D, dc, B, bc, G, gc, R, rc, hr, x0, x1, x2, x3, x4, x5, x6⟩ := (HA2.o.ses k hk4).out
 rw [show (st.up.ses k).opn = false from ho] at x0
 clear h hin _hnm _htx _hI hr x1 x2 x3 x4 x5 x6
 have HD : Hid (doS st ⟨kd, k, nm, tx, ip⟩ = (noR 3, st.up)) := L0 (by unfold doS; rw [if_neg h200, if_neg (by simp only; omega), if_neg (by simp only; omega), if_pos (.inr (.inr (by simpa using ho)))])
 have hk1 : ¬ kd < 1 := by omega
 have hk7 : ¬ 7 < kd := by omega
 have hk2 : (kd == 1) = false := by rw [beq_eq_false_iff_ne]; omega
 clear _hk
 go_enter Tryz.func11, Tryz.ntmps11
 refine Code.wp_mono (Z0k Tryz.results11) ?_
 go_upto_region 11 with fail
 go_quiet (fail)
 obtain ⟨W3, e3, HB3, HZ3, ⟨c0, c1, c2, c3, c4⟩, HA3, HC3, HQ3⟩ := Z17 nq HA2 HC2 HQ2 HZ2 ⟨b0, b1, b2, b3, b4⟩
 rw [e3]
 clear e3 a0 a1 a2 a3 a4 b0 b1 b2 b3 b4 s29 f29 e1 e2 hq hwr x0 hg1 hg2
 go_wp2_with (go_at_call 31; (with_reducible refine (Z5b 3 W3).mono ?_); rintro e w5 ⟨rfl, hb5⟩; obtain ⟨W6, e6, ⟨r0, r1, r2, r3, r4⟩, hz5, HP⟩ := Z8n (e := 3) HA3.o HC3.o (T := T) (fun q h => .inl h) HCL.o HTL.o HQ3.o ⟨by decide, by decide⟩ hb5; obtain ⟨⟨d0, d1, d2, d3, d4⟩, hf⟩ := hz5; have z0 := hf 0; have z1 := hf 1; have z2 := hf 2; have z3 := hf 3; have z4 := hf 4; clear hb5 hf)
 refine Z0g (by rfl) rfl r0 r1 r2 r3 r4 ?_
 rw [HD.o]
 exact HP.o
theorem X0i {C T I : Nat -> Prop} {sb k : Nat} {st : Sto} {nm tx : Txt} {ip : List Int} {A : Option Addr} {c : Nat} (w : World) (h : StoAt w sb C T st) (hin : (rSl rInt).rel w I [.slice A ip.length c] ip) (_hI : ∀ q, I q -> q < w.heap.size /\ ¬ C q) (_hnm : nm.length <= 140737488355328) (_htx : tx.length <= 140737488355328) (h200 : ¬ 200 <= st.acts) (hk4 : k < 4) (ho : (st.ses k).opn = true) :
  Calls Tryz.prog 11 #[.pointer (some (zn sb 0)), .agg #[.int .i64 7, .int .i64 k, sq nm, sq tx, .slice A ip.length c]] w fun e w' => Z1g w sb C T (doS st ⟨7, k, nm, tx, ip⟩).1 (doS st ⟨7, k, nm, tx, ip⟩).2 e w' := by
 obtain ⟨W1, e1, HB1, HZ1, ⟨a0, a1, a2, a3, a4⟩, HQ1, HA1, HIN1, s29, f29, W2, e2, HA2, HC2, HQ2, HZ2, HIN2, ⟨b0, b1, b2, b3, b4⟩⟩ := Z2n (kd := 7) (n := (k : Int)) (nm := nm) (tx := tx) h hin
 have HTL := L0 h.tw
 have HCL := L0 h.cw
 have HCSB := L0 h.csb
 have HSL := L0 h.lt
 have hq : ¬ (200 : Int) <= st.acts := by omega
 have hwr : (st.acts : Int) + 1 <= 200 := by omega
 have hg1 : decide ((k : Int) < 0) = false := decide_eq_false (by omega)
 have hg2 : decide ((4 : Int) <= k) = false := decide_eq_false (by omega)
 have hg3 : (0 : Int) <= k := by omega
 have hg4 : (k : Int) < 4 := by omega
 obtain ⟨D, dc, B, bc, G, gc, R, rc, hr, x0, x1, x2, x3, x4, x5, x6⟩ := (HA2.o.ses k hk4).out
 rw [show (st.up.ses k).opn = true from ho] at x0
 clear h hin _hnm _htx _hI hr x1 x2 x3 x4 x5 x6
 have HDS : Hid (doS st ⟨7, k, nm, tx, ip⟩ = Z8m st.up k ⟨7, k, nm, tx, ip⟩) := L0 (by unfold doS; rw [if_neg h200, if_neg (by simp only; omega), if_neg (by simp only; omega), if_neg (by simp [ho]; omega), if_neg (by simp)]; simp)
 have HD : Hid (doS st ⟨7, k, nm, tx, ip⟩ = (noR 0, st.up.put k ses0)) := L0 (by rw [HDS.o]; rfl)
 go_enter Tryz.func11, Tryz.ntmps11
 refine Code.wp_mono (Z0k Tryz.results11) ?_
 go_upto_region 11 with fail
 go_quiet (fail)
 obtain ⟨W3, e3, HB3, HZ3, ⟨c0, c1, c2, c3, c4⟩, HA3, HC3, HQ3⟩ := Z17 nq HA2 HC2 HQ2 HZ2 ⟨b0, b1, b2, b3, b4⟩
 rw [e3]
 clear e3 a0 a1 a2 a3 a4 b0 b1 b2 b3 b4 s29 f29 e1 e2 hq hwr x0 hg1 hg2
 go_upto_region 15 with fail
 go_quiet (fail)
 obtain ⟨W4, e4, HB4, HZ4, hk4', HA4, HC4, HQ4⟩ := Z17 nq HA3 HC3 HQ3 HZ3 ⟨c0, c1, c2, c3, c4⟩
 clear c0 c1 c2 c3 c4
 obtain ⟨c0, -, c2, c3, c4⟩ := hk4'
 rw [e4]
 clear e4
 have HSX : Hid (SesAt W4 sb (1 + k * 7) T (st.ses k)) := L0 (HA4.o.ses k hk4)
 obtain ⟨W5, e5, HX5, HWR5, HZ5⟩ := Z7j HSX.o HA4.o.nT false false 0 ⟨by decide, by decide⟩
 have HA5 : Hid (StoAt W5 sb C T (st.up.put k ses0)) := L0 (HA4.o.setSes hk4 HWR5.o HX5.o (fun _ h => h) (fun q h => by rw [HZ5.o]; exact HA4.o.tw q h) fun _ h => .inl h)
 have HC5 : Hid (Chg C w W5) := L0 (HC4.o.trans (HWR5.o.chg HCSB.o))
 have HQ5 : Hid (Zero5 W5 (w.heap.size + 1)) := L0 (HQ4.o.keep (HWR5.o.hg.block _ (L0d _ _ HQ4.o.1.1) (fun e => by injection e with e; have := HSL.o; omega)))
 obtain ⟨D, dc, B, bc, G, gc, R, rc, hr, x0, x1, x2, x3, x4, x5, x6⟩ := HSX.o.out
 have g0 : W4.frozen? (zn sb (1 + k * 7)) = false := HA4.o.frz _
 have g1 : W4.frozen? (zn sb (1 + k * 7 + 1)) = false := HA4.o.frz _
 have g2 : W4.frozen? (zn sb (1 + k * 7 + 2)) = false := HA4.o.frz _
 have g3 : W4.frozen? (zn sb (1 + k * 7 + 3)) = false := HA4.o.frz _
 have g4 : W4.frozen? (zn sb (1 + k * 7 + 4)) = false := HA4.o.frz _
 have g5 : W4.frozen? (zn sb (1 + k * 7 + 5)) = false := HA4.o.frz _
 have g6 : W4.frozen? (zn sb (1 + k * 7 + 6)) = false := HA4.o.frz _
 clear hr
 go_wp2_with (go_at_call 31; (with_reducible refine (Z5b 0 W5).mono ?_); rintro e w5 ⟨rfl, hb5⟩; obtain ⟨W6, e6, ⟨r0, r1, r2, r3, r4⟩, hz5, HP⟩ := Z8n (e := 0) HA5.o HC5.o (T := T) (fun q h => .inl h) HCL.o HTL.o HQ5.o ⟨by decide, by decide⟩ hb5; obtain ⟨⟨d0, d1, d2, d3, d4⟩, hf⟩ := hz5; have z0 := hf 0; have z1 := hf 1; have z2 := hf 2; have z3 := hf 3; have z4 := hf 4; clear hb5 hf)
 refine Z0g (by rfl) rfl r0 r1 r2 r3 r4 ?_
 rw [HD.o]
 exact HP.o
theorem X37 {C T I : Nat -> Prop} {sb k : Nat} {st : Sto} {nm tx : Txt} {ip : List Int} {A : Option Addr} {c : Nat} (w : World) (h : StoAt w sb C T st) (hin : (rSl rInt).rel w I [.slice A ip.length c] ip) (_hI : ∀ q, I q -> q < w.heap.size /\ ¬ C q) (_hnm : nm.length <= 140737488355328) (htx : tx.length <= 140737488355328) (h200 : ¬ 200 <= st.acts) (hk4 : k < 4) (ho : (st.ses k).opn = true) {f : Nat} (hv : SesInv st k f) (hlib : LibC C w) :
  Calls Tryz.prog 11 #[.pointer (some (zn sb 0)), .agg #[.int .i64 2, .int .i64 k, sq nm, sq tx, .slice A ip.length c]] w fun e w' => Z1g w sb C T (doS st ⟨2, k, nm, tx, ip⟩).1 (doS st ⟨2, k, nm, tx, ip⟩).2 e w' := by
 obtain ⟨W1, e1, HB1, HZ1, ⟨a0, a1, a2, a3, a4⟩, HQ1, HA1, HIN1, s29, f29, W2, e2, HA2, HC2, HQ2, HZ2, HIN2, ⟨b0, b1, b2, b3, b4⟩⟩ := Z2n (kd := 2) (n := (k : Int)) (nm := nm) (tx := tx) h hin
 have HTL := L0 h.tw
 have HCL := L0 h.cw
 have HCSB := L0 h.csb
 have HTX := L0 htx
 have HSL := L0 h.lt
 have hq : ¬ (200 : Int) <= st.acts := by omega
 have hwr : (st.acts : Int) + 1 <= 200 := by omega
 have hg1 : decide ((k : Int) < 0) = false := decide_eq_false (by omega)
 have hg2 : decide ((4 : Int) <= k) = false := decide_eq_false (by omega)
 have hg3 : (0 : Int) <= k := by omega
 have hg4 : (k : Int) < 4 := by omega
 obtain ⟨D, dc, B, bc, G, gc, R, rc, hr, x0, x1, x2, x3, x4, x5, x6⟩ := (HA2.o.ses k hk4).out
 rw [show (st.up.ses k).opn = true from ho] at x0
 clear h hin _hnm htx _hI hr x1 x2 x3 x4 x5 x6
 have HDS : Hid (doS st ⟨2, k, nm, tx, ip⟩ = Z8m st.up k ⟨2, k, nm, tx, ip⟩) := L0 (by unfold doS; rw [if_neg h200, if_neg (by simp only; omega), if_neg (by simp only; omega), if_neg (by simp [ho]; omega), if_neg (by simp)]; simp)
 obtain ⟨⟨er, x'⟩, hp⟩ : ∃ z, putB (st.ses k) tx = z := ⟨_, rfl⟩
 have HD : Hid (doS st ⟨2, k, nm, tx, ip⟩ = (noR er, st.up.put k x')) := L0 (by rw [HDS.o]; show (noR (putB (st.ses k) tx).1, st.up.put k (putB (st.ses k) tx).2) = _; rw [hp])
 have HP := L0 hp
 have HER : Hid (InI er) := L0 (by have := X3p (st.ses k) tx; rw [hp] at this; exact this)
 clear hp
 go_enter Tryz.func11, Tryz.ntmps11
 refine Code.wp_mono (Z0k Tryz.results11) ?_
 go_upto_region 11 with fail
 go_quiet (fail)
 obtain ⟨W3, e3, HB3, HZ3, ⟨c0, c1, c2, c3, c4⟩, HA3, HC3, HQ3⟩ := Z17 nq HA2 HC2 HQ2 HZ2 ⟨b0, b1, b2, b3, b4⟩
 rw [e3]
 clear e3 a0 a1 a2 a3 a4 b0 b1 b2 b3 b4 s29 f29 e1 e2 hq hwr x0 hg1 hg2
 go_upto_region 15 with fail
 go_quiet (fail)
 obtain ⟨W4, e4, HB4, HZ4, hk4', HA4, HC4, HQ4⟩ := Z17 nq HA3 HC3 HQ3 HZ3 ⟨c0, c1, c2, c3, c4⟩
 clear c0 c1 c2 c3 c4
 obtain ⟨c0, -, c2, c3, c4⟩ := hk4'
 rw [e4]
 clear e4
 have HSX : Hid (SesAt W4 sb (1 + k * 7) T (st.ses k)) := L0 (HA4.o.ses k hk4)
 have HL4 : Hid (LibC C W4) := L0 (hlib.chg HC4.o fun _ h => .inl h)
 have HPUT : Hid (Calls Tryz.prog 34 #[.pointer (some (zn sb (1 + k * 7))), sq tx] W4 fun e w' => e = .returned (.int .i64 er) /\ SesAt w' sb (1 + k * 7) (Tn T W4 w') x' /\ Wrote sb (1 + k * 7) W4 w') := L0 (by
  have := X21 tx W4 HSX.o HA4.o.tw HA4.o.nT HA4.o.frz HTX.o HL4.o.lib HL4.o.pol hv.mn (by decide) (by decide) (by have := hv.gl; omega)
  rw [HP.o] at this
  exact this)
 go_wp2_with (first
  | (go_at_call 34; (with_reducible refine HPUT.o.mono ?_); rintro e W5 ⟨rfl, hx5, hw5⟩; obtain ⟨HA5, HC5, HQ5, HT5⟩ := Z8x HA4.o HC4.o HQ4.o hk4 hw5 hx5 HCSB.o HSL.o HZ4.o; clear hx5 hw5)
  | (go_at_call 31; (with_reducible refine (Z5b er W5).mono ?_); rintro e w5 ⟨rfl, hb5⟩; obtain ⟨W6, e6, ⟨r0, r1, r2, r3, r4⟩, hz5, HP⟩ := Z8n (e := er) HA5.o HC5.o (T := T) HT5.o HCL.o HTL.o HQ5.o HER.o hb5; obtain ⟨⟨d0, d1, d2, d3, d4⟩, hf⟩ := hz5; have z0 := hf 0; have z1 := hf 1; have z2 := hf 2; have z3 := hf 3; have z4 := hf 4; clear hb5 hf))
 refine Z0g (by rfl) rfl r0 r1 r2 r3 r4 ?_
 rw [HD.o]
 exact HP.o
theorem X33 {C T I : Nat -> Prop} {sb k : Nat} {st : Sto} {nm tx : Txt} {ip : List Int} {A : Option Addr} {c : Nat} (w : World) (h : StoAt w sb C T st) (hin : (rSl rInt).rel w I [.slice A ip.length c] ip) (hI : ∀ q, I q -> q < w.heap.size /\ ¬ C q) (_hnm : nm.length <= 140737488355328) (_htx : tx.length <= 140737488355328) (h200 : ¬ 200 <= st.acts) (hk4 : k < 4) (ho : (st.ses k).opn = true) {f : Nat} (hv : SesInv st k f) :
  Calls Tryz.prog 11 #[.pointer (some (zn sb 0)), .agg #[.int .i64 5, .int .i64 k, sq nm, sq tx, .slice A ip.length c]] w fun e w' => Z1g w sb C T (doS st ⟨5, k, nm, tx, ip⟩).1 (doS st ⟨5, k, nm, tx, ip⟩).2 e w' := by
 obtain ⟨W1, e1, HB1, HZ1, ⟨a0, a1, a2, a3, a4⟩, HQ1, HA1, HIN1, s29, f29, W2, e2, HA2, HC2, HQ2, HZ2, HIN2, ⟨b0, b1, b2, b3, b4⟩⟩ := Z2n (kd := 5) (n := (k : Int)) (nm := nm) (tx := tx) h hin
 have HTL := L0 h.tw
 have HCL := L0 h.cw
 have HCSB := L0 h.csb
 have HII := L0 hI
 have HSL := L0 h.lt
 have hq : ¬ (200 : Int) <= st.acts := by omega
 have hwr : (st.acts : Int) + 1 <= 200 := by omega
 have hg1 : decide ((k : Int) < 0) = false := decide_eq_false (by omega)
 have hg2 : decide ((4 : Int) <= k) = false := decide_eq_false (by omega)
 have hg3 : (0 : Int) <= k := by omega
 have hg4 : (k : Int) < 4 := by omega
 obtain ⟨D, dc, B, bc, G, gc, R, rc, hr, x0, x1, x2, x3, x4, x5, x6⟩ := (HA2.o.ses k hk4).out
 rw [show (st.up.ses k).opn = true from ho] at x0
 clear h hin _hnm _htx hI hr x1 x2 x3 x4 x5 x6
 have HDS : Hid (doS st ⟨5, k, nm, tx, ip⟩ = Z8m st.up k ⟨5, k, nm, tx, ip⟩) := L0 (by unfold doS; rw [if_neg h200, if_neg (by simp only; omega), if_neg (by simp only; omega), if_neg (by simp [ho]; omega), if_neg (by simp)]; simp)
 obtain ⟨b, hb⟩ : ∃ b, st.states[f]? = some b := ⟨_, L0f hv.fl⟩
 have HD : Hid (doS st ⟨5, k, nm, tx, ip⟩ = ((askS b (st.ses k) ip).1, st.up.put k (askS b (st.ses k) ip).2)) := L0 (by
  rw [HDS.o]
  show ((askS (st.at (st.ses k).frm) (st.ses k) ip).1, st.up.put k (askS (st.at (st.ses k).frm) (st.ses k) ip).2) = _
  rw [show st.at (st.ses k).frm = b by unfold Sto.at; rw [hv.fr, L1q, hb]; rfl])
 go_enter Tryz.func11, Tryz.ntmps11
 refine Code.wp_mono (Z0k Tryz.results11) ?_
 go_upto_region 11 with fail
 go_quiet (fail)
 obtain ⟨W3, e3, HB3, HZ3, ⟨c0, c1, c2, c3, c4⟩, HA3, HC3, HQ3⟩ := Z17 nq HA2 HC2 HQ2 HZ2 ⟨b0, b1, b2, b3, b4⟩
 rw [e3]
 clear e3 a0 a1 a2 a3 a4 b0 b1 b2 b3 b4 s29 f29 e1 e2 hq hwr x0 hg1 hg2
 go_upto_region 15 with fail
 go_quiet (fail)
 obtain ⟨W4, e4, HB4, HZ4, hk4', HA4, HC4, HQ4⟩ := Z17 nq HA3 HC3 HQ3 HZ3 ⟨c0, c1, c2, c3, c4⟩
 clear c0 c1 c2 c3 c4
 obtain ⟨c0, -, c2, c3, c4⟩ := hk4'
 rw [e4]
 clear e4
 have HASK := L0 (X0e (I := I) W4 HA4.o hk4 (x := st.ses k) rfl hv.fr (st := st.up) hb (jB (jB (HIN2.o HII.o) HB3.o) HB4.o) (fun q h e => (HII.o q h).2 (e ▸ HCSB.o)) ((hv.bk b (L0z hb)).mono (by decide) (by decide)) hv.mn.ld hv.mn.lt hv.rl)
 go_wp2_with (go_at_call 37; (with_reducible refine HASK.o.mono ?_); rintro e w5 ⟨rs, rfl, hr5, hx5, hw5⟩; obtain ⟨RA, rc', RB, rd, rfl⟩ := Z5v hr5; obtain ⟨HA5, HC5, HQ5, HT5⟩ := Z8x HA4.o HC4.o HQ4.o hk4 hw5 hx5 HCSB.o HSL.o HZ4.o; obtain ⟨W6, e6, r0, r1, r2, r3, r4, HP⟩ := Y3e (T := T) HA5.o HC5.o (fun q h => .inl h) HT5.o HCL.o HTL.o hr5 (fun q h => ⟨by (have := HZ4.o; omega), fun h' => by (have := HCL.o _ h'; have := HZ4.o; omega)⟩) HQ5.o; obtain ⟨⟨d0, d1, d2, d3, d4⟩, hf⟩ := HQ5.o; have z0 := hf 0; have z1 := hf 1; have z2 := hf 2; have z3 := hf 3; have z4 := hf 4; clear hr5 hx5 hw5 hf)
 refine Z0g (by rfl) rfl r0 r1 r2 r3 r4 ?_
 rw [HD.o]
 exact HP.o
theorem Y72 {C T I : Nat -> Prop} {sb k : Nat} {st : Sto} {nm tx : Txt} {ip : List Int} {A : Option Addr} {c : Nat} (w : World) (h : StoAt w sb C T st) (hin : (rSl rInt).rel w I [.slice A ip.length c] ip) (_hI : ∀ q, I q -> q < w.heap.size /\ ¬ C q) (_hnm : nm.length <= 140737488355328) (_htx : tx.length <= 140737488355328) (h200 : ¬ 200 <= st.acts) (hk4 : k < 4) (ho : (st.ses k).opn = true) {f : Nat} (hv : SesInv st k f) (hlib : LibC C w) :
  Calls Tryz.prog 11 #[.pointer (some (zn sb 0)), .agg #[.int .i64 6, .int .i64 k, sq nm, sq tx, .slice A ip.length c]] w fun e w' => Z1g w sb C T (doS st ⟨6, k, nm, tx, ip⟩).1 (doS st ⟨6, k, nm, tx, ip⟩).2 e w' := by
 obtain ⟨W1, e1, HB1, HZ1, ⟨a0, a1, a2, a3, a4⟩, HQ1, HA1, HIN1, s29, f29, W2, e2, HA2, HC2, HQ2, HZ2, HIN2, ⟨b0, b1, b2, b3, b4⟩⟩ := Z2n (kd := 6) (n := (k : Int)) (nm := nm) (tx := tx) h hin
 have HTL := L0 h.tw
 have HCL := L0 h.cw
 have hq : ¬ (200 : Int) <= st.acts := by omega
 have hwr : (st.acts : Int) + 1 <= 200 := by omega
 have hg1 : decide ((k : Int) < 0) = false := decide_eq_false (by omega)
 have hg2 : decide ((4 : Int) <= k) = false := decide_eq_false (by omega)
 have hg3 : (0 : Int) <= k := by omega
 have hg4 : (k : Int) < 4 := by omega
 obtain ⟨D, dc, B, bc, G, gc, R, rc, hr, x0, x1, x2, x3, x4, x5, x6⟩ := (HA2.o.ses k hk4).out
 rw [show (st.up.ses k).opn = true from ho] at x0
 clear h hin _hnm _htx _hI hr x1 x2 x3 x4 x5 x6
 have HDS : Hid (doS st ⟨6, k, nm, tx, ip⟩ = Z8m st.up k ⟨6, k, nm, tx, ip⟩) := L0 (by unfold doS; rw [if_neg h200, if_neg (by simp only; omega), if_neg (by simp only; omega), if_neg (by simp [ho]; omega), if_neg (by simp)]; simp)
 have HD : Hid (doS st ⟨6, k, nm, tx, ip⟩ = Z1a st.up k) := L0 (by rw [HDS.o]; rfl)
 go_enter Tryz.func11, Tryz.ntmps11
 refine Code.wp_mono (Z0k Tryz.results11) ?_
 go_upto_region 11 with fail
 go_quiet (fail)
 obtain ⟨W3, e3, HB3, HZ3, ⟨c0, c1, c2, c3, c4⟩, HA3, HC3, HQ3⟩ := Z17 nq HA2 HC2 HQ2 HZ2 ⟨b0, b1, b2, b3, b4⟩
 rw [e3]
 clear e3 a0 a1 a2 a3 a4 b0 b1 b2 b3 b4 s29 f29 e1 e2 hq hwr x0 hg1 hg2
 go_upto_region 15 with fail
 go_quiet (fail)
 obtain ⟨W4, e4, HB4, HZ4, hk4', HA4, HC4, HQ4⟩ := Z17 nq HA3 HC3 HQ3 HZ3 ⟨c0, c1, c2, c3, c4⟩
 clear c0 c1 c2 c3 c4
 obtain ⟨c0, -, c2, c3, c4⟩ := hk4'
 rw [e4]
 clear e4
 have HL4 : Hid (LibC C W4) := L0 (hlib.chg HC4.o fun _ h => .inl h)
 have HCOM := L0 (Y6l W4 HA4.o hk4 (x := st.ses k) rfl hv.fr (st := st.up) hv.fl hv.bk hv.sl hv.mn.ld hv.mn.lt HL4.o)
 go_wp2_with (go_at_call 38; (with_reducible refine HCOM.o.mono ?_); rintro e w5 ⟨rs, C5, T5, rfl, hr5, ha5, hc5, hC5, hT5⟩; obtain ⟨RA, rc', RB, rd, rfl⟩ := Z5v hr5; have hq5 : Zero5 w5 (w.heap.size + 1) := HQ4.o.keep (hc5.block _ (L0d _ _ HQ4.o.1.1) (fun h => by (have := HCL.o _ h; omega))); obtain ⟨W6, e6, r0, r1, r2, r3, r4, HP⟩ := Y3e (T := T) ha5 (HC4.o.trans hc5) (fun q h => (hC5 q h).imp id (fun h => by (have := HZ4.o; omega))) (fun q h => (hT5 q h).imp id (fun h => by (have := HZ4.o; omega))) HCL.o HTL.o hr5 (fun q h => ⟨by (have := HZ4.o; have := h.1; omega), h.2.1⟩) hq5; obtain ⟨⟨d0, d1, d2, d3, d4⟩, hf⟩ := hq5; have z0 := hf 0; have z1 := hf 1; have z2 := hf 2; have z3 := hf 3; have z4 := hf 4; clear hr5 ha5 hc5 hC5 hT5 hf)
 refine Z0g (by rfl) rfl r0 r1 r2 r3 r4 ?_
 rw [HD.o]
 exact HP.o
theorem X0j {C T I : Nat -> Prop} {sb k : Nat} {st : Sto} {nm tx : Txt} {ip : List Int} {A : Option Addr} {c : Nat} (w : World) (h : StoAt w sb C T st) (hin : (rSl rInt).rel w I [.slice A ip.length c] ip) (_hI : ∀ q, I q -> q < w.heap.size /\ ¬ C q) (hnm : nm.length <= 140737488355328) (_htx : tx.length <= 140737488355328) (h200 : ¬ 200 <= st.acts) (hk4 : k < 4) (ho : (st.ses k).opn = true) (hnd : Z1e nm = false) :
  Calls Tryz.prog 11 #[.pointer (some (zn sb 0)), .agg #[.int .i64 3, .int .i64 k, sq nm, sq tx, .slice A ip.length c]] w fun e w' => Z1g w sb C T (doS st ⟨3, k, nm, tx, ip⟩).1 (doS st ⟨3, k, nm, tx, ip⟩).2 e w' := by
 obtain ⟨W1, e1, HB1, HZ1, ⟨a0, a1, a2, a3, a4⟩, HQ1, HA1, HIN1, s29, f29, W2, e2, HA2, HC2, HQ2, HZ2, HIN2, ⟨b0, b1, b2, b3, b4⟩⟩ := Z2n (kd := 3) (n := (k : Int)) (nm := nm) (tx := tx) h hin
 have HTL := L0 h.tw
 have HCL := L0 h.cw
 have HNM := L0 hnm
 have hq : ¬ (200 : Int) <= st.acts := by omega
 have hwr : (st.acts : Int) + 1 <= 200 := by omega
 have hg1 : decide ((k : Int) < 0) = false := decide_eq_false (by omega)
 have hg2 : decide ((4 : Int) <= k) = false := decide_eq_false (by omega)
 have hg3 : (0 : Int) <= k := by omega
 have hg4 : (k : Int) < 4 := by omega
 obtain ⟨D, dc, B, bc, G, gc, R, rc, hr, x0, x1, x2, x3, x4, x5, x6⟩ := (HA2.o.ses k hk4).out
 rw [show (st.up.ses k).opn = true from ho] at x0
 clear h hin hnm _htx _hI hr x1 x2 x3 x4 x5 x6
 have HD : Hid (doS st ⟨3, k, nm, tx, ip⟩ = (noR 1, st.up)) := L0 (by unfold doS; rw [if_neg h200, if_neg (by simp only; omega), if_neg (by simp only; omega), if_neg (by simp [ho]; omega), if_pos (by simp [hnd])])
 go_enter Tryz.func11, Tryz.ntmps11
 refine Code.wp_mono (Z0k Tryz.results11) ?_
 go_upto_region 11 with fail
 go_quiet (fail)
 obtain ⟨W3, e3, HB3, HZ3, ⟨c0, c1, c2, c3, c4⟩, HA3, HC3, HQ3⟩ := Z17 nq HA2 HC2 HQ2 HZ2 ⟨b0, b1, b2, b3, b4⟩
 rw [e3]
 clear e3 a0 a1 a2 a3 a4 b0 b1 b2 b3 b4 s29 f29 e1 e2 hq hwr x0 hg1 hg2
 have HND : Hid (Calls Tryz.prog 33 #[sq nm] W3 fun e w' => e = .returned (.bool false) /\ W3 = w') := L0 (by have := Z4j nm W3 HNM.o; rw [hnd] at this; exact this)
 go_wp2_with (first | (go_at_call 33; (with_reducible refine HND.o.mono ?_); rintro e w' ⟨rfl, rfl⟩) | (go_at_call 31; (with_reducible refine (Z5b 1 W3).mono ?_); rintro e w5 ⟨rfl, hb5⟩; obtain ⟨W6, e6, ⟨r0, r1, r2, r3, r4⟩, hz5, HP⟩ := Z8n (e := 1) HA3.o HC3.o (T := T) (fun q h => .inl h) HCL.o HTL.o HQ3.o ⟨by decide, by decide⟩ hb5; obtain ⟨⟨d0, d1, d2, d3, d4⟩, hf⟩ := hz5; have z0 := hf 0; have z1 := hf 1; have z2 := hf 2; have z3 := hf 3; have z4 := hf 4; clear hb5 hf))
 refine Z0g (by rfl) rfl r0 r1 r2 r3 r4 ?_
 rw [HD.o]
 exact HP.o
theorem X0k {C T I : Nat -> Prop} {sb k : Nat} {st : Sto} {nm tx : Txt} {ip : List Int} {A : Option Addr} {c : Nat} (w : World) (h : StoAt w sb C T st) (hin : (rSl rInt).rel w I [.slice A ip.length c] ip) (_hI : ∀ q, I q -> q < w.heap.size /\ ¬ C q) (hnm : nm.length <= 140737488355328) (_htx : tx.length <= 140737488355328) (h200 : ¬ 200 <= st.acts) (hk4 : k < 4) (ho : (st.ses k).opn = true) (hnd : Z1e nm = false) :
  Calls Tryz.prog 11 #[.pointer (some (zn sb 0)), .agg #[.int .i64 4, .int .i64 k, sq nm, sq tx, .slice A ip.length c]] w fun e w' => Z1g w sb C T (doS st ⟨4, k, nm, tx, ip⟩).1 (doS st ⟨4, k, nm, tx, ip⟩).2 e w' := by
 obtain ⟨W1, e1, HB1, HZ1, ⟨a0, a1, a2, a3, a4⟩, HQ1, HA1, HIN1, s29, f29, W2, e2, HA2, HC2, HQ2, HZ2, HIN2, ⟨b0, b1, b2, b3, b4⟩⟩ := Z2n (kd := 4) (n := (k : Int)) (nm := nm) (tx := tx) h hin
 have HTL := L0 h.tw
 have HCL := L0 h.cw
 have HNM := L0 hnm
 have hq : ¬ (200 : Int) <= st.acts := by omega
 have hwr : (st.acts : Int) + 1 <= 200 := by omega
 have hg1 : decide ((k : Int) < 0) = false := decide_eq_false (by omega)
 have hg2 : decide ((4 : Int) <= k) = false := decide_eq_false (by omega)
 have hg3 : (0 : Int) <= k := by omega
 have hg4 : (k : Int) < 4 := by omega
 obtain ⟨D, dc, B, bc, G, gc, R, rc, hr, x0, x1, x2, x3, x4, x5, x6⟩ := (HA2.o.ses k hk4).out
 rw [show (st.up.ses k).opn = true from ho] at x0
 clear h hin hnm _htx _hI hr x1 x2 x3 x4 x5 x6
 have HD : Hid (doS st ⟨4, k, nm, tx, ip⟩ = (noR 1, st.up)) := L0 (by unfold doS; rw [if_neg h200, if_neg (by simp only; omega), if_neg (by simp only; omega), if_neg (by simp [ho]; omega), if_pos (by simp [hnd])])
 go_enter Tryz.func11, Tryz.ntmps11
 refine Code.wp_mono (Z0k Tryz.results11) ?_
 go_upto_region 11 with fail
 go_quiet (fail)
 obtain ⟨W3, e3, HB3, HZ3, ⟨c0, c1, c2, c3, c4⟩, HA3, HC3, HQ3⟩ := Z17 nq HA2 HC2 HQ2 HZ2 ⟨b0, b1, b2, b3, b4⟩
 rw [e3]
 clear e3 a0 a1 a2 a3 a4 b0 b1 b2 b3 b4 s29 f29 e1 e2 hq hwr x0 hg1 hg2
 have HND : Hid (Calls Tryz.prog 33 #[sq nm] W3 fun e w' => e = .returned (.bool false) /\ W3 = w') := L0 (by have := Z4j nm W3 HNM.o; rw [hnd] at this; exact this)
 go_wp2_with (first | (go_at_call 33; (with_reducible refine HND.o.mono ?_); rintro e w' ⟨rfl, rfl⟩) | (go_at_call 31; (with_reducible refine (Z5b 1 W3).mono ?_); rintro e w5 ⟨rfl, hb5⟩; obtain ⟨W6, e6, ⟨r0, r1, r2, r3, r4⟩, hz5, HP⟩ := Z8n (e := 1) HA3.o HC3.o (T := T) (fun q h => .inl h) HCL.o HTL.o HQ3.o ⟨by decide, by decide⟩ hb5; obtain ⟨⟨d0, d1, d2, d3, d4⟩, hf⟩ := hz5; have z0 := hf 0; have z1 := hf 1; have z2 := hf 2; have z3 := hf 3; have z4 := hf 4; clear hb5 hf))
 refine Z0g (by rfl) rfl r0 r1 r2 r3 r4 ?_
 rw [HD.o]
 exact HP.o
theorem X2q {C T I : Nat -> Prop} {sb k : Nat} {st : Sto} {nm tx : Txt} {ip : List Int} {A : Option Addr} {c : Nat} (w : World) (h : StoAt w sb C T st) (hin : (rSl rInt).rel w I [.slice A ip.length c] ip) (_hI : ∀ q, I q -> q < w.heap.size /\ ¬ C q) (hnm : nm.length <= 140737488355328) (_htx : tx.length <= 140737488355328) (h200 : ¬ 200 <= st.acts) (hk4 : k < 4) (ho : (st.ses k).opn = true) (hnd : Z1e nm = true) {f : Nat} (hv : SesInv st k f) :
  Calls Tryz.prog 11 #[.pointer (some (zn sb 0)), .agg #[.int .i64 3, .int .i64 k, sq nm, sq tx, .slice A ip.length c]] w fun e w' => Z1g w sb C T (doS st ⟨3, k, nm, tx, ip⟩).1 (doS st ⟨3, k, nm, tx, ip⟩).2 e w' := by
 obtain ⟨W1, e1, HB1, HZ1, ⟨a0, a1, a2, a3, a4⟩, HQ1, HA1, HIN1, s29, f29, W2, e2, HA2, HC2, HQ2, HZ2, HIN2, ⟨b0, b1, b2, b3, b4⟩⟩ := Z2n (kd := 3) (n := (k : Int)) (nm := nm) (tx := tx) h hin
 have HTL := L0 h.tw
 have HCL := L0 h.cw
 have HCSB := L0 h.csb
 have HNTS := L0 h.nT
 have HNM := L0 hnm
 have HSL := L0 h.lt
 have hq : ¬ (200 : Int) <= st.acts := by omega
 have hwr : (st.acts : Int) + 1 <= 200 := by omega
 have hg1 : decide ((k : Int) < 0) = false := decide_eq_false (by omega)
 have hg2 : decide ((4 : Int) <= k) = false := decide_eq_false (by omega)
 have hg3 : (0 : Int) <= k := by omega
 have hg4 : (k : Int) < 4 := by omega
 obtain ⟨D, dc, B, bc, G, gc, R, rc, hr, x0, x1, x2, x3, x4, x5, x6⟩ := (HA2.o.ses k hk4).out
 rw [show (st.up.ses k).opn = true from ho] at x0
 clear h hin hnm _htx _hI hr x1 x2 x3 x4 x5 x6
 have HDS : Hid (doS st ⟨3, k, nm, tx, ip⟩ = Z8m st.up k ⟨3, k, nm, tx, ip⟩) := L0 (by unfold doS; rw [if_neg h200, if_neg (by simp only; omega), if_neg (by simp only; omega), if_neg (by simp [ho]; omega), if_neg (by simp [hnd])]; simp)
 obtain ⟨x, hx⟩ : ∃ x, st.ses k = x := ⟨_, rfl⟩
 have HD : Hid (doS st ⟨3, k, nm, tx, ip⟩ = (noR 0, st.up.put k { x with mine := Z0r x.mine nm, gone := addN x.gone nm })) := L0 (by rw [HDS.o, <- hx]; rfl)
 have HGL : Hid (x.gone.length < 1000000000000) := L0 (by have := hv.gl; rw [hx] at this; omega)
 go_enter Tryz.func11, Tryz.ntmps11
 refine Code.wp_mono (Z0k Tryz.results11) ?_
 go_upto_region 11 with fail
 go_quiet (fail)
 obtain ⟨W3, e3, HB3, HZ3, ⟨c0, c1, c2, c3, c4⟩, HA3, HC3, HQ3⟩ := Z17 nq HA2 HC2 HQ2 HZ2 ⟨b0, b1, b2, b3, b4⟩
 rw [e3]
 clear e3 a0 a1 a2 a3 a4 b0 b1 b2 b3 b4 s29 f29 e1 e2 hq hwr x0 hg1 hg2
 have HND : Hid (Calls Tryz.prog 33 #[sq nm] W3 fun e w' => e = .returned (.bool true) /\ W3 = w') := L0 (by have := Z4j nm W3 HNM.o; rw [hnd] at this; exact this)
 go_upto_region 15 with (first | (go_at_call 33; (with_reducible refine HND.o.mono ?_); rintro e w' ⟨rfl, rfl⟩))
 go_quiet (fail)
 obtain ⟨W4, e4, HB4, HZ4, hk4', HA4, HC4, HQ4⟩ := Z17 nq HA3 HC3 HQ3 HZ3 ⟨c0, c1, c2, c3, c4⟩
 clear c0 c1 c2 c3 c4
 obtain ⟨c0, -, c2, c3, c4⟩ := hk4'
 rw [e4]
 clear e4
 have HSX : Hid (SesAt W4 sb (1 + k * 7) T (st.ses k)) := L0 (HA4.o.ses k hk4)
 rw [hx] at HSX
 clear hx
 obtain ⟨D, dc, B, bc, G, gc, R, rc, hr, x0, x1, x2, x3, x4, x5, x6⟩ := HSX.o.out
 have HBD : Hid (Bw W4 W4.drew) := L0 ⟨rfl, rfl, rfl, L0g _, fun _ _ => rfl⟩
 have HSXd := L0 (HSX.o.below HBD.o)
 have HSB : Hid (¬ T sb /\ sb < W4.heap.size) := L0 ⟨HNTS.o, by have := HSL.o; have := HZ4.o; omega⟩
 have HFd : Hid (∀ j, W4.drew.frozen? (zn sb j) = false) := L0 HA4.o.frz
 have HREL : Hid (rBk.rel W4.drew (Tn T W4 W4.drew) [.slice D x.mine.doms.length dc, .slice B x.mine.tabs.length bc] x.mine) := L0 (by
  obtain ⟨v', u', _, _, e1, _, h1, h2, _⟩ := hr
  simp only [L1f, and_true, true_and] at e1
  obtain ⟨rfl, rfl, _⟩ := e1
  exact rBk.mono (jB (show rBk.rel W4 T _ x.mine from ⟨_, _, rfl, h1, h2⟩) HBD.o) fun b hb _ => ⟨.inl hb, HA4.o.tw b hb⟩)
 have HNMC : Hid (W4.drew.cell? (zn w.heap.size 0) = some (.int .i64 3) /\ w.heap.size ≠ sb) := L0 ⟨c0, by have := HSL.o; omega⟩
 have HC2 : Hid (W4.cell? (zn w.heap.size 2) = some (sq nm)) := L0 c2
 have f3 : W4.drew.frozen? (zn sb (1 + k * 7 + 3)) = false := HFd.o _
 have f4 : W4.drew.frozen? (zn sb (1 + k * 7 + 4)) = false := HFd.o _
 clear hr x0 x1 x2 x5 x6 c3 c4
 go_upto_region 20 with fail
 go_region_law (first
  | ((go_simp; go_at_call 35; (with_reducible refine (Y2w nm W4.drew HREL.o (fun _ h => Tn.lt h)).mono ?_); rintro e w5 ⟨v5, u5, rfl, ho5, hp5, hb5⟩; obtain ⟨A5, n5, k5, rfl⟩ := ho5.shape; obtain ⟨B5, m5, j5, rfl⟩ := hp5.shape; obtain ⟨W5, e5, HX5, HWR5, HN5, HF5, af3, af4, a3, a4⟩ := Y2g (w := W4) (W := W4.drew) HSXd.o HA4.o.tw HSB.o HFd.o HBD.o ho5 hp5 hb5 HNMC.o; obtain ⟨y3, a3⟩ := a3; obtain ⟨y4, a4⟩ := a4; clear ho5 hp5 hb5)))
 all_goals
  have HB5 : Hid (Bw W5 W5.drew) := L0 ⟨rfl, rfl, rfl, L0g _, fun _ _ => rfl⟩
  have HX5d := L0 (HX5.o.below HB5.o)
  obtain ⟨D5, dc5, B5', bc5, G5, gc5, R5, rc5, hr5, _, _, _, _, _, g5, _⟩ := HX5d.o.out
  have HU5 : Hid ((rSl rStr).rel W5.drew (Tn T W4 W5.drew) [.slice G5 x.gone.length gc5] x.gone) := L0 (by
   obtain ⟨_, _, _, _, e1, _, _, _, h3, _⟩ := hr5
   simp only [L1f, and_true, true_and] at e1
   obtain ⟨_, _, rfl, _⟩ := e1
   exact h3)
  have g5' : W5.cell? (zn sb (1 + k * 7 + 5)) = some (.slice G5 x.gone.length gc5) := g5
  have n2 : W5.cell? (zn w.heap.size 2) = some (sq nm) := HWR5.o.hg.cell (show W4.drew.cell? _ = _ from HC2.o) (show some w.heap.size ≠ some sb from fun e => by injection e with e; exact HNMC.o.2 e)
  have f5 : W5.drew.frozen? (zn sb (1 + k * 7 + 5)) = false := HF5.o _
  have HW3 : Hid (W4.heap.size <= W5.drew.heap.size) := L0 (L0h HBD.o.size HWR5.o.hg.size)
  clear hr5 g5 a3 a4 af3 af4 e5 f3 f4 x3 x4
  go_upto_region 21 with fail
  go_region_law (first
   | ((go_simp; go_at_call 36; (with_reducible refine (Z2g nm W5.drew HU5.o HNM.o HGL.o (fun _ h => Tn.lt h)).mono ?_); rintro e w6 ⟨u6, rfl, hr6, hb6⟩; obtain ⟨A6, k6, rfl, _⟩ := rSl.elems hr6; obtain ⟨W7, e7, HX7, HWR7, HF7, af5, a5⟩ := Y2f (w := W4) (W := W5.drew) HX5d.o HSB.o HF5.o HW3.o hr6 hb6; obtain ⟨y5, a5⟩ := a5; clear hr6 hb6)))
  all_goals
   have hw7 : Wrote sb (1 + k * 7) W4 W7 := (((Wrote.below HBD.o HSB.o.2).trans HWR5.o).trans (.below HB5.o (L0c HSB.o.2 (L0h HBD.o.size HWR5.o.hg.size)))).trans HWR7.o
   obtain ⟨HA8, HC8, HQ8, HT8⟩ := Z8x HA4.o HC4.o HQ4.o hk4 hw7 HX7.o HCSB.o HSL.o HZ4.o
   have c0' : W7.cell? (zn w.heap.size 0) = some (.int .i64 3) := hw7.hg.cell (show W4.cell? _ = _ from HNMC.o.1) (show some w.heap.size ≠ some sb from fun e => by injection e with e; exact HNMC.o.2 e)
   clear hw7 af5 a5 e7 g5' n2 f5
   go_wp2_with (go_at_call 31; (with_reducible refine (Z5b 0 W7).mono ?_); rintro e w5 ⟨rfl, hb5⟩; obtain ⟨W6, e6, ⟨r0, r1, r2, r3, r4⟩, hz5, HP⟩ := Z8n (e := 0) HA8.o HC8.o (T := T) HT8.o HCL.o HTL.o HQ8.o ⟨by decide, by decide⟩ hb5; obtain ⟨⟨d0, d1, d2, d3, d4⟩, hf⟩ := hz5; have z0 := hf 0; have z1 := hf 1; have z2 := hf 2; have z3 := hf 3; have z4 := hf 4; clear hb5 hf)
   refine Z0g (by rfl) rfl r0 r1 r2 r3 r4 ?_
   rw [HD.o]
   exact HP.o
theorem X35 {C T I : Nat -> Prop} {sb k : Nat} {st : Sto} {nm tx : Txt} {ip : List Int} {A : Option Addr} {c : Nat} (w : World) (h : StoAt w sb C T st) (hin : (rSl rInt).rel w I [.slice A ip.length c] ip) (_hI : ∀ q, I q -> q < w.heap.size /\ ¬ C q) (hnm : nm.length <= 140737488355328) (_htx : tx.length <= 140737488355328) (h200 : ¬ 200 <= st.acts) (hk4 : k < 4) (ho : (st.ses k).opn = true) (hnd : Z1e nm = true) {f : Nat} (hv : SesInv st k f) (hlib : LibC C w) :
  Calls Tryz.prog 11 #[.pointer (some (zn sb 0)), .agg #[.int .i64 4, .int .i64 k, sq nm, sq tx, .slice A ip.length c]] w fun e w' => Z1g w sb C T (doS st ⟨4, k, nm, tx, ip⟩).1 (doS st ⟨4, k, nm, tx, ip⟩).2 e w' := by
 obtain ⟨W1, e1, HB1, HZ1, ⟨a0, a1, a2, a3, a4⟩, HQ1, HA1, HIN1, s29, f29, W2, e2, HA2, HC2, HQ2, HZ2, HIN2, ⟨b0, b1, b2, b3, b4⟩⟩ := Z2n (kd := 4) (n := (k : Int)) (nm := nm) (tx := tx) h hin
 have HTL := L0 h.tw
 have HCL := L0 h.cw
 have HCSB := L0 h.csb
 have HNTS := L0 h.nT
 have HNM := L0 hnm
 have HSL := L0 h.lt
 have hq : ¬ (200 : Int) <= st.acts := by omega
 have hwr : (st.acts : Int) + 1 <= 200 := by omega
 have hg1 : decide ((k : Int) < 0) = false := decide_eq_false (by omega)
 have hg2 : decide ((4 : Int) <= k) = false := decide_eq_false (by omega)
 have hg3 : (0 : Int) <= k := by omega
 have hg4 : (k : Int) < 4 := by omega
 obtain ⟨D, dc, B, bc, G, gc, R, rc, hr, x0, x1, x2, x3, x4, x5, x6⟩ := (HA2.o.ses k hk4).out
 rw [show (st.up.ses k).opn = true from ho] at x0
 clear h hin hnm _htx _hI hr x1 x2 x3 x4 x5 x6
 have HDS : Hid (doS st ⟨4, k, nm, tx, ip⟩ = Z8m st.up k ⟨4, k, nm, tx, ip⟩) := L0 (by unfold doS; rw [if_neg h200, if_neg (by simp only; omega), if_neg (by simp only; omega), if_neg (by simp [ho]; omega), if_neg (by simp [hnd])]; simp)
 obtain ⟨x, hx⟩ : ∃ x, st.ses k = x := ⟨_, rfl⟩
 obtain ⟨b, hb⟩ : ∃ b, st.states[f]? = some b := ⟨_, L0f hv.fl⟩
 obtain ⟨v, hvw⟩ : ∃ z, Z1o b x = z := ⟨_, rfl⟩
 obtain ⟨tt, htt⟩ : ∃ z, Z0y v nm = z := ⟨_, rfl⟩
 have HD0 : Hid (doS st ⟨4, k, nm, tx, ip⟩ = (if tt = [] then noR 3 else ⟨0, 0, tt, [], []⟩, st.up.put k { x with read := addN x.read nm })) := L0 (by
  rw [HDS.o]
  show (if Z0y (Z1o (st.at (st.ses k).frm) (st.ses k)) nm = [] then noR 3 else ⟨0, 0, Z0y (Z1o (st.at (st.ses k).frm) (st.ses k)) nm, [], []⟩, st.up.put k { st.ses k with read := addN (st.ses k).read nm }) = _
  rw [show st.at (st.ses k).frm = b by unfold Sto.at; rw [hv.fr, L1q, hb]; rfl, hx, hvw, htt])
 have HRL : Hid (x.read.length < 1000000000000) := L0 (by have := hv.rl; rw [hx] at this; omega)
 go_enter Tryz.func11, Tryz.ntmps11
 refine Code.wp_mono (Z0k Tryz.results11) ?_
 go_upto_region 11 with fail
 go_quiet (fail)
 obtain ⟨W3, e3, HB3, HZ3, ⟨c0, c1, c2, c3, c4⟩, HA3, HC3, HQ3⟩ := Z17 nq HA2 HC2 HQ2 HZ2 ⟨b0, b1, b2, b3, b4⟩
 rw [e3]
 clear e3 a0 a1 a2 a3 a4 b0 b1 b2 b3 b4 s29 f29 e1 e2 hq hwr x0 hg1 hg2
 have HND : Hid (Calls Tryz.prog 33 #[sq nm] W3 fun e w' => e = .returned (.bool true) /\ W3 = w') := L0 (by have := Z4j nm W3 HNM.o; rw [hnd] at this; exact this)
 go_upto_region 15 with (first | (go_at_call 33; (with_reducible refine HND.o.mono ?_); rintro e w' ⟨rfl, rfl⟩))
 go_quiet (fail)
 obtain ⟨W4, e4, HB4, HZ4, hk4', HA4, HC4, HQ4⟩ := Z17 nq HA3 HC3 HQ3 HZ3 ⟨c0, c1, c2, c3, c4⟩
 clear c0 c1 c2 c3 c4
 obtain ⟨c0, -, c2, c3, c4⟩ := hk4'
 rw [e4]
 clear e4
 have HSX : Hid (SesAt W4 sb (1 + k * 7) T (st.ses k)) := L0 (HA4.o.ses k hk4)
 have HL4 : Hid (LibC C W4) := L0 (hlib.chg HC4.o fun _ h => .inl h)
 rw [hx] at HSX
 have hfrx : x.frm = f := hx ▸ hv.fr
 obtain ⟨D, dc, B, bc, G, gc, R, rc, hr, x0, x1, x2, x3, x4, x5, x6⟩ := HSX.o.out
 rw [hfrx] at x2 hr
 obtain ⟨g, gcp, A1, k1, A2, k2, s0, hrb, g0, g1, hgC, hgs, hgl⟩ := HA4.o.book (f := f) (b := b) hb
 have s0' : W4.cell? (zn sb 0) = some (.slice (some (zn g 0)) st.states.length gcp) := s0
 have hfl := hv.fl
 have hfi : (f : Int) < st.states.length := by omega
 have hf0 : (0 : Int) <= f := by omega
 have HBD : Hid (Bw W4 W4.drew) := L0 ⟨rfl, rfl, rfl, L0g _, fun _ _ => rfl⟩
 have HSB : Hid (¬ T sb /\ sb < W4.heap.size) := L0 ⟨HNTS.o, by have := HSL.o; have := HZ4.o; omega⟩
 have HNB : Hid (Neat b 4 4) := L0 (hv.bk b (L0z hb))
 have HMN : Hid (Neat x.mine 1000 1000) := L0 (hx ▸ hv.mn)
 have HKP : Hid (∀ w', Bw W4 w' -> ((fun W' => W'.cell? (zn sb 0) = some (.slice (some (zn g 0)) st.states.length gcp) /\ W'.cell? (zn sb (1 + k * 7 + 2)) = some (.int .i64 f) /\ W'.cell? (zn g (f * 2)) = some (.slice A1 b.doms.length k1) /\ W'.cell? (zn g (f * 2 + 1)) = some (.slice A2 b.tabs.length k2) /\ W'.cell? (zn sb (1 + k * 7)) = some (.bool x.opn) /\ W'.cell? (zn sb (1 + k * 7 + 1)) = some (.bool x.strict) /\ W'.cell? (zn sb (1 + k * 7 + 3)) = some (.slice D x.mine.doms.length dc) /\ W'.cell? (zn sb (1 + k * 7 + 4)) = some (.slice B x.mine.tabs.length bc) /\ W'.cell? (zn sb (1 + k * 7 + 5)) = some (.slice G x.gone.length gc) /\ W'.cell? (zn sb (1 + k * 7 + 6)) = some (.slice R x.read.length rc) /\ W'.cell? (zn w.heap.size 2) = some (sq nm))) w') := L0 fun w' hbw => by
  have hs := HSB.o.2
  have hw : w.heap.size < W4.heap.size := by have := HZ4.o; omega
  exact ⟨(hbw.ce _ hs).trans s0', (hbw.ce _ hs).trans x2, (hbw.ce _ hgl).trans g0, (hbw.ce _ hgl).trans g1, (hbw.ce _ hs).trans x0, (hbw.ce _ hs).trans x1, (hbw.ce _ hs).trans x3, (hbw.ce _ hs).trans x4, (hbw.ce _ hs).trans x5, (hbw.ce _ hs).trans x6, (hbw.ce _ hw).trans c2⟩
 have HVW : Hid (Calls Tryz.prog 23 #[.agg #[.slice A1 b.doms.length k1, .slice A2 b.tabs.length k2], .agg #[.bool x.opn, .bool x.strict, .int .i64 f, .slice D x.mine.doms.length dc, .slice B x.mine.tabs.length bc, .slice G x.gone.length gc, .slice R x.read.length rc]] W4.drew fun e w' => ∃ A3 c3 A4 c4, e = .returned (.agg #[.slice A3 v.doms.length c3, .slice A4 v.tabs.length c4]) /\ rBk.rel w' (Up T W4.drew.heap.size) [.slice A3 v.doms.length c3, .slice A4 v.tabs.length c4] v /\ Bw W4 w') := L0 (by
  have h1 := Z8v (S := T) W4.drew (jB hrb HBD.o) (jB hr HBD.o) HA4.o.tw HNB.o (by have := HMN.o.ld; omega) (by have := HMN.o.lt; omega)
  refine h1.mono ?_
  rintro e w' ⟨v1, u1, rfl, hr1, hb1⟩
  rw [hvw] at hr1
  have hr2 := hr1
  obtain ⟨v2, u2, e2, hd, ht⟩ := hr1
  simp only [L1f, and_true] at e2
  obtain ⟨rfl, rfl⟩ := e2
  obtain ⟨A3, c3, rfl, _⟩ := rSl.elems hd
  obtain ⟨A4, c4, rfl, _⟩ := rSl.elems ht
  exact ⟨A3, c3, A4, c4, rfl, hr2, Z7u hb1⟩)
 have HTT := L0 htt
 have HTTL : Hid (tt.length <= 140737488355328) := L0 (by have := Y9s v nm; rw [htt] at this; omega)
 clear hr hrb hgC hgs hx hb hvw hfl hfrx htt s0 c3 c4
 go_upto_region 24 with fail
 go_region_held3 (fun W' => W'.cell? (zn sb 0) = some (.slice (some (zn g 0)) st.states.length gcp) /\ W'.cell? (zn sb (1 + k * 7 + 2)) = some (.int .i64 f) /\ W'.cell? (zn g (f * 2)) = some (.slice A1 b.doms.length k1) /\ W'.cell? (zn g (f * 2 + 1)) = some (.slice A2 b.tabs.length k2) /\ W'.cell? (zn sb (1 + k * 7)) = some (.bool x.opn) /\ W'.cell? (zn sb (1 + k * 7 + 1)) = some (.bool x.strict) /\ W'.cell? (zn sb (1 + k * 7 + 3)) = some (.slice D x.mine.doms.length dc) /\ W'.cell? (zn sb (1 + k * 7 + 4)) = some (.slice B x.mine.tabs.length bc) /\ W'.cell? (zn sb (1 + k * 7 + 5)) = some (.slice G x.gone.length gc) /\ W'.cell? (zn sb (1 + k * 7 + 6)) = some (.slice R x.read.length rc) /\ W'.cell? (zn w.heap.size 2) = some (sq nm)) (go_keep) (first
  | (go_at_call 23; ((with_reducible refine HVW.o.mono ?_); rintro e w5 ⟨A3, c3, A4, c4, rfl, hr5, hb5⟩; have HR5 := L0 hr5; have HB5 := L0 hb5; obtain ⟨t0, t1, t2, t3, t4, t5, t6, t7, t8, t9, t10⟩ := HKP.o w5 hb5; have HLW := L0 (HL4.o.below hb5); clear hr5 hb5))
  | (go_at_call 19; ((with_reducible refine (X19 HTT.o w5 HR5.o HNM.o HLW.o.lib HLW.o.pol).mono ?_); rintro e w6 ⟨rfl, hb6⟩; have HB6 := L0 (HB5.o.trans (hb6.mono HB5.o.size)); obtain ⟨y0, y1, y2, y3, y4, y5, y6, y7, y8, y9, y10⟩ := HKP.o w6 (HB5.o.trans (hb6.mono HB5.o.size)); clear hb6)))
 all_goals
  have HX6 : Hid (SesAt w6 sb (1 + k * 7) (Tn T W4 w6) x) := L0 ((HSX.o.below HB6.o).mono fun q h _ => ⟨.inl h, L0c (HA4.o.tw q h) HB6.o.size⟩)
  have HB7 : Hid (Bw w6 w6.drew) := L0 ⟨rfl, rfl, rfl, L0g _, fun _ _ => rfl⟩
  have HX6d : Hid (SesAt w6.drew sb (1 + k * 7) (Tn T W4 w6.drew) x) := L0 (HX6.o.below HB7.o)
  obtain ⟨R9, rc9, g9, hu9⟩ := HX6d.o.readOut
  have g9' : w6.cell? (zn sb (1 + k * 7 + 6)) = some (.slice R9 x.read.length rc9) := g9
  rw [y9] at g9'
  simp only [L3j, Value.slice.injEq] at g9'
  obtain ⟨rfl, _, rfl⟩ := g9'
  have HU9 := L0 hu9
  have HF6 : Hid (∀ j, w6.drew.frozen? (zn sb j) = false) := L0 fun j => (HB6.o.fr j HSB.o.2).trans (HA4.o.frz j)
  have f9 : w6.drew.frozen? (zn sb (1 + k * 7 + 6)) = false := HF6.o _
  have n2 := y10
  have HW6 : Hid (W4.heap.size <= w6.drew.heap.size) := L0 HB6.o.size
  clear y0 y1 y2 y3 y4 y5 y6 y7 y8 y10 t0 t1 t2 t3 t4 t5 t6 t7 t8 t9 t10 x0 x1 x2 x3 x4 x5 x6 g0 g1 s0' c0 c2 hfi hf0 g9 hu9
  go_upto_region 25 with fail
  go_region_law (first
   | ((go_simp; go_at_call 36; (with_reducible refine (Z2g nm w6.drew HU9.o HNM.o HRL.o (fun _ h => Tn.lt h)).mono ?_); rintro e w7 ⟨u7, rfl, hr7, hb7⟩; obtain ⟨A6, k6, rfl, _⟩ := rSl.elems hr7; obtain ⟨W8, e8, HX8, HWR8, af9, a9⟩ := Z6b (w := W4) (W := w6.drew) HX6d.o HSB.o HF6.o HW6.o hr7 hb7; obtain ⟨q9, a9⟩ := a9; clear hr7 hb7)))
  all_goals
   have hw8 : Wrote sb (1 + k * 7) W4 W8 := ((Wrote.below HB6.o HSB.o.2).trans (.below HB7.o (L0c HSB.o.2 HB6.o.size))).trans HWR8.o
   obtain ⟨HA8, HC8, HQ8, HT8⟩ := Z8x HA4.o HC4.o HQ4.o hk4 hw8 HX8.o HCSB.o HSL.o HZ4.o
   clear hw8 af9 a9 e8 y9 n2 f9
   by_cases htn : tt = []
   ·have HD : Hid (doS st ⟨4, k, nm, tx, ip⟩ = (noR 3, st.up.put k { x with read := addN x.read nm })) := L0 (by rw [HD0.o, if_pos htn])
    subst htn
    go_wp2_with (go_at_call 31; (with_reducible refine (Z5b 3 W8).mono ?_); rintro e w5 ⟨rfl, hb5⟩; obtain ⟨W6, e6, ⟨r0, r1, r2, r3, r4⟩, hz5, HP⟩ := Z8n (e := 3) HA8.o HC8.o (T := T) HT8.o HCL.o HTL.o HQ8.o ⟨by decide, by decide⟩ hb5; obtain ⟨⟨d0, d1, d2, d3, d4⟩, hf⟩ := hz5; have z0 := hf 0; have z1 := hf 1; have z2 := hf 2; have z3 := hf 3; have z4 := hf 4; clear hb5 hf)
    refine Z0g (by rfl) rfl r0 r1 r2 r3 r4 ?_
    rw [HD.o]
    exact HP.o
   have HD : Hid (doS st ⟨4, k, nm, tx, ip⟩ = (⟨0, 0, tt, [], []⟩, st.up.put k { x with read := addN x.read nm })) := L0 (by rw [HD0.o, if_neg htn])
   have hte : tt.isEmpty = false := by cases tt with | nil => exact absurd rfl htn | cons a l => rfl
   have HTL2 : Hid (tt.length <= 140737488355328) := HTTL
   obtain ⟨W6', e6, r0, r1, r2, r3, r4, HP⟩ := Y3e (S := fun _ => False) (T := T) (r := ⟨0, 0, tt, [], []⟩) HA8.o HC8.o (fun q h => .inl h) HT8.o HCL.o HTL.o (Z2q (c := 0) (n := 0) (s := tt) ⟨by decide, by decide⟩ ⟨by decide, by decide⟩ HTL2.o) (fun _ h => h.elim) HQ8.o
   obtain ⟨⟨d0, d1, d2, d3, d4⟩, hf⟩ := HQ8.o
   have z0 := hf 0
   have z1 := hf 1
   have z2 := hf 2
   have z3 := hf 3
   have z4 := hf 4
   clear hf
   go_wp2
   refine Z0g (by rfl) rfl r0 r1 r2 r3 r4 ?_
   rw [HD.o]
   exact HP.o
structure SOk (st : Sto) : Prop where
 ne : 0 < st.states.length
 le : st.states.length <= 40
 bk : ∀ b ∈ st.states, Neat b 4 4
 ses : ∀ k, k < 4 -> (st.ses k).opn = true -> (∃ f : Nat, (st.ses k).frm = f /\ f < st.states.length)
 mn : ∀ k, k < 4 -> Neat (st.ses k).mine 1000 1000
 gl : ∀ k, k < 4 -> (st.ses k).gone.length <= 1000
 rl : ∀ k, k < 4 -> (st.ses k).read.length <= 1000000
theorem SOk.inv {st : Sto} {k : Nat} (h : SOk st) (hk : k < 4) (ho : (st.ses k).opn = true) : ∃ f, SesInv st k f := by
 obtain ⟨f, h1, h2⟩ := h.ses k hk ho
 exact ⟨f, h.mn k hk, h.gl k hk, h.rl k hk, h1, h2, h.bk, h.le⟩
theorem X32 {C T I : Nat -> Prop} {sb : Nat} {st : Sto} {a : Acn} {as' : List Value} (w : World) (h : StoAt w sb C T st) (ha : rAcn.rel w I as' a) (hI : ∀ q, I q -> q < w.heap.size /\ ¬ C q) (hok : SOk st) (hlib : LibC C w) :
  Calls Tryz.prog 11 #[.pointer (some (zn sb 0)), .agg as'.toArray] w fun e w' => Z1g w sb C T (doS st a).1 (doS st a).2 e w' := by
 by_cases h200 : 200 <= st.acts
 ·exact X2r w h ha hI h200
 by_cases hkd : a.kind < 1 \/ 7 < a.kind
 ·exact X2s w h ha hI h200 hkd
 by_cases hk1 : a.kind = 1
 ·exact X2t w h ha hI h200 hk1 hok.ne
 have hk : 2 <= a.kind /\ a.kind <= 7 := by omega
 by_cases hn0 : a.n < 0
 ·exact X36 w h ha hI h200 hk hn0
 by_cases hn4 : 4 <= a.n
 ·exact X34 w h ha hI h200 hk hn4
 obtain ⟨kd, n, nm, tx, ip⟩ := a
 simp only at hk hn0 hn4 hk1 hkd
 obtain ⟨k, rfl⟩ : ∃ k : Nat, n = k := ⟨n.toNat, by omega⟩
 have hk4 : k < 4 := by omega
 obtain ⟨u, rfl, _, _, hnm, htx, hin⟩ := ha
 obtain ⟨A, c, rfl, _⟩ := rSl.elems hin
 cases ho : (st.ses k).opn
 ·exact X2u w h hin hI hnm htx h200 hk4 hk ho
 obtain ⟨f, hv⟩ := hok.inv hk4 ho
 have hcs : kd = 2 \/ kd = 3 \/ kd = 4 \/ kd = 5 \/ kd = 6 \/ kd = 7 := by omega
 rcases hcs with rfl | rfl | rfl | rfl | rfl | rfl
 ·exact X37 w h hin hI hnm htx h200 hk4 ho hv hlib
 ·cases hnd : Z1e nm
  ·exact X0j w h hin hI hnm htx h200 hk4 ho hnd
  exact X2q w h hin hI hnm htx h200 hk4 ho hnd hv
 ·cases hnd : Z1e nm
  ·exact X0k w h hin hI hnm htx h200 hk4 ho hnd
  exact X35 w h hin hI hnm htx h200 hk4 ho hnd hv hlib
 ·exact X33 w h hin hI hnm htx h200 hk4 ho hv
 ·exact Y72 w h hin hI hnm htx h200 hk4 ho hv hlib
 exact X0i w h hin hI hnm htx h200 hk4 ho
structure XGood (n m : Nat) (x : Ses) : Prop where
 fr : x.opn = true -> ∃ f : Nat, x.frm = f /\ f < n
 mn : Neat x.mine m m
 gl : x.gone.length <= m
 rl : x.read.length <= 1000 * m
structure SGood (st : Sto) : Prop where
 ne : 0 < st.states.length
 le : st.states.length <= 40
 chk : ∀ b ∈ st.states, (Z0j b).2.2 = 0
 ac : st.acts <= 200
 ses : ∀ k, XGood st.states.length st.acts (st.ses k)
theorem Neat.bk0 (nd nt : Nat) : Neat bk0 nd nt := ⟨jA, jA, L0o _, L0o _⟩
theorem XGood.ses0 (n m : Nat) : XGood n m ses0 := ⟨fun h => Bool.noConfusion h, Neat.bk0 _ _, L0o _, L0o _⟩
theorem XGood.mono {n m n' m' : Nat} {x : Ses} (h : XGood n m x) (hn : n <= n') (hm : m <= m') : XGood n' m' x :=
 ⟨fun ho => by obtain ⟨f, h1, h2⟩ := h.fr ho; exact ⟨f, h1, by omega⟩, h.mn.mono hm hm, L0h h.gl hm, L0h h.rl (Nat.mul_le_mul_left _ hm)⟩
theorem Z73 {b : Bk} (h : (Z0j b).2.2 = 0) : Neat b 4 4 := by
 have hc := Y4z h
 exact ⟨hc.domNames, hc.tabNames, hc.dl, hc.tl⟩
theorem SGood.ok {st : Sto} (h : SGood st) : SOk st := by
 have := h.ac
 exact ⟨h.ne, h.le, fun b hb => Z73 (h.chk b hb), fun k _ => (h.ses k).fr, fun k _ => (h.ses k).mn.mono (by omega) (by omega), fun k _ => by have := (h.ses k).gl; omega, fun k _ => by have := (h.ses k).rl; omega⟩
theorem SGood.start : SGood sto0 := by
 refine ⟨by decide, by decide, fun b hb => ?_, by decide, fun k => XGood.ses0 _ _⟩
 obtain rfl : b = bk0 := by simpa [sto0] using hb
 rfl
theorem SGood.put {st : Sto} (h : SGood st) {k : Nat} {x : Ses} (hx : XGood st.states.length st.acts x) : SGood (st.put k x) :=
 ⟨h.ne, h.le, h.chk, h.ac, fun j => by
  show XGood _ _ (if j = k then x else st.ses j)
  split
  ·exact hx
  exact h.ses j⟩
theorem SGood.up {st : Sto} (h : SGood st) (ha : ¬ 200 <= st.acts) : SGood st.up :=
 ⟨h.ne, h.le, h.chk, by show st.acts + 1 <= 200; omega, fun k => (h.ses k).mono (L0g _) (L1m _)⟩
theorem Y09 (b : Bk) (l : List Txt) : (Z1y b l).length <= l.length + b.doms.length + b.tabs.length := by
 have := Z66 Z1c (Z0n b) l
 simp only [Z0n, L0i, L1h] at this
 unfold Z1y
 simp only [Z0n]
 omega
theorem SGood.step {st : Sto} (h : SGood st) (a : Acn) : SGood (doS st a).2 := by
 unfold doS
 split
 ·exact h
 rename_i h200
 have hu := h.up h200
 have hua : st.up.acts = st.acts + 1 := rfl
 split
 ·exact hu
 split
 ·unfold Z4q
  split
  ·exact hu
  split
  ·refine hu.put ⟨fun _ => ⟨st.up.states.length - 1, ?_, ?_⟩, Neat.bk0 _ _, L0o _, L0o _⟩
   ·have := hu.ne
    show (st.up.states.length : Int) - 1 = _
    omega
   have := hu.ne
   omega
  exact hu
 split
 ·exact hu
 split
 ·exact hu
 generalize hk : a.n.toNat = k
 have hx := h.ses k
 have hxu := hu.ses k
 have hxe : st.up.ses k = st.ses k := rfl
 have hse : st.up.states = st.states := rfl
 unfold Z8m
 rw [hxe]
 rw [hxe] at hxu
 split
 ·refine hu.put ?_
  unfold putB
  split
  ·exact hxu
  split
  ·exact ⟨hx.fr, (Z2z hx.mn _).mono (L1m _) (L0g _), L0h (Z1c _ _) (L4q hx.gl), by have := hxu.rl; exact this⟩
  exact ⟨hx.fr, (Z2d hx.mn _).mono (L0g _) (L1m _), L0h (Z1c _ _) (L4q hx.gl), by have := hxu.rl; exact this⟩
 split
 ·exact hu.put ⟨hx.fr, (hx.mn.without _).mono (L1m _) (L1m _), L0h (Z1c _ _) (L4q hx.gl), by have := hxu.rl; exact this⟩
 split
 ·refine hu.put ⟨hx.fr, hxu.mn, hxu.gl, ?_⟩
  have h1 := Z1c (st.ses k).read a.name
  have h2 := hx.rl
  show (addN (st.ses k).read a.name).length <= 1000 * (st.acts + 1)
  omega
 split
 ·refine hu.put ⟨hx.fr, hxu.mn, hxu.gl, ?_⟩
  have hb4 : Neat (st.up.at (st.ses k).frm) 4 4 := by
   unfold Sto.at
   rw [hse]
   rcases hg : st.states[(st.ses k).frm.toNat]? with _ | b
   ·exact Neat.bk0 _ _
   exact Z73 (h.chk b (L0z hg))
  have hv := hb4.view (st.ses k)
  have h1 := Y09 (st.up.at (st.ses k).frm) (st.ses k).read
  have h2 := Y09 (Z1o (st.up.at (st.ses k).frm) (st.ses k)) (Z1y (st.up.at (st.ses k).frm) (st.ses k).read)
  have h3 := Z1c (Z1y (Z1o (st.up.at (st.ses k).frm) (st.ses k)) (Z1y (st.up.at (st.ses k).frm) (st.ses k).read)) []
  have h4 := hx.rl
  have h5 := hb4.ld
  have h6 := hb4.lt
  have h7 := hv.ld
  have h8 := hv.lt
  have h9 := hx.mn.ld
  have h10 := hx.mn.lt
  have h11 := h.ac
  show (if (st.ses k).strict then _ else _ : List Txt).length <= 1000 * (st.acts + 1)
  split <;> omega
 split
 ·have hc : SGood (st.up.put k ses0) := hu.put (XGood.ses0 _ _)
  unfold Z1a
  split
  ·exact hc
  split
  ·exact hc
  split
  ·exact hc
  split
  ·exact hc
  rename_i h40 hck
  refine ⟨by simp, by rw [L0i]; simp only [L0p]; omega, fun b hb => ?_, hc.ac, fun j => (hc.ses j).mono (by show _ <= (st.up.states ++ [_]).length; rw [L0i]; exact Nat.le_add_right _ _) (L0g _)⟩
  rcases L2a.1 hb with hb | hb
  ·exact h.chk b hb
  obtain rfl := L3c.1 hb
  simpa using hck
 exact hu.put (XGood.ses0 _ _)
theorem Z7q {C T : Nat -> Prop} {sb : Nat} {st : Sto} (w : World) (h : StoAt w sb C T st) :
  Calls Tryz.prog 12 #[.pointer (some (zn sb 0))] w fun e w' => ∃ u, e = .returned u /\ Own rBk 38 w' w.heap.size (fun _ => False) u st.states /\ Bw w w' := by
 obtain ⟨v, h0, h1, _⟩ := h.row
 exact Y6s (S := fun q => q < w.heap.size) w h0 ((rSl rBk).mono (h1.self.rel (by decide)) fun q _ hl => hl) fun q hq => hq
theorem Y9j (x : Value) (as' rs : List Value) (ha : as'.length = 5) (hr : rs.length = 5) (w : World) : Calls Tryz.prog 24 #[x, .agg as'.toArray, .agg rs.toArray] w fun e w' => e = .returned (.bool true) /\ Bw w w' := by
 obtain ⟨a0, a1, a2, a3, a4, rfl⟩ : ∃ a0 a1 a2 a3 a4, as' = [a0, a1, a2, a3, a4] := by
  match as', ha with
  | [a0, a1, a2, a3, a4], _ => exact ⟨a0, a1, a2, a3, a4, rfl⟩
 obtain ⟨r0, r1, r2, r3, r4, rfl⟩ : ∃ a0 a1 a2 a3 a4, rs = [a0, a1, a2, a3, a4] := by
  match rs, hr with
  | [a0, a1, a2, a3, a4], _ => exact ⟨a0, a1, a2, a3, a4, rfl⟩
 obtain ⟨W1, e1, HB⟩ : ∃ W1, (w.alloc (.cells #[a0, a1, a2, a3, a4] 24)).alloc (.cells #[r0, r1, r2, r3, r4] 30) = W1 /\ Hid (Bw w W1) := ⟨_, rfl, L0 (bA.alloc (by simp) _)⟩
 clear ha hr
 go_enter Tryz.func24, Tryz.ntmps24
 go_wp2
 go_ret
 exact ⟨rfl, HB.o⟩
def Z7r : Acn := ⟨1, 0, [], [], []⟩
def Y2x : Acn := ⟨2, 0, [], [100, 111, 109, 97, 105, 110, 32, 97, 32, 49, 46, 46, 57], []⟩
def Z6x : Acn := ⟨6, 0, [], [], []⟩
theorem Y6t : (doS sto0 Z7r).1 = ⟨0, 0, [], [], []⟩ := by rfl
theorem Y8g : (doS (doS sto0 Z7r).2 Y2x).1.code = 0 := by kernel_rfl
theorem Y2z : (doS (doS (doS sto0 Z7r).2 Y2x).2 Z6x).1.code = 0 /\ (doS (doS (doS sto0 Z7r).2 Y2x).2 Z6x).1.n = 1 /\ (doS (doS (doS sto0 Z7r).2 Y2x).2 Z6x).2.states.length = 2 := by
 refine ⟨by kernel_rfl, by kernel_rfl, by kernel_rfl⟩
structure At (w0 w : World) (sb : Nat) (C T : Nat -> Prop) (st : Sto) : Prop where
 sto : StoAt w sb C T st
 bl : Bw w0 w
 cn : ∀ q, C q -> w0.heap.size <= q
 tn : ∀ q, T q -> w0.heap.size <= q
 lib : LibC C w
 ok : SGood st
theorem At.below {w0 w w' : World} {sb : Nat} {C T : Nat -> Prop} {st : Sto} (h : At w0 w sb C T st) (hb : Bw w w') : At w0 w' sb C T st :=
 ⟨h.sto.below hb, h.bl.trans (hb.mono h.bl.size), h.cn, h.tn, h.lib.below hb, h.ok⟩
theorem At.act {w0 w : World} {sb : Nat} {C T I : Nat -> Prop} {st : Sto} {a : Acn} {as' : List Value} (h : At w0 w sb C T st) (ha : rAcn.rel w I as' a) (hI : ∀ q, I q -> q < w.heap.size /\ ¬ C q) :
  Calls Tryz.prog 11 #[.pointer (some (zn sb 0)), .agg as'.toArray] w fun e w' => ∃ A c B d C' T', e = .returned (.agg #[.int .i64 (doS st a).1.code, .int .i64 (doS st a).1.n, .string ⟨(doS st a).1.text.toArray⟩, .slice A (doS st a).1.ans.length c, .slice B (doS st a).1.at'.length d]) /\
   rRep.rel w' (fun q => w.heap.size <= q /\ ¬ C' q /\ q < w'.heap.size) [.int .i64 (doS st a).1.code, .int .i64 (doS st a).1.n, .string ⟨(doS st a).1.text.toArray⟩, .slice A (doS st a).1.ans.length c, .slice B (doS st a).1.at'.length d] (doS st a).1 /\ At w0 w' sb C' T' (doS st a).2 /\ Chg C w w' /\ (∀ q, C' q -> C q \/ w.heap.size <= q) /\ ∀ q, T' q -> T q \/ w.heap.size <= q := by
 refine (X32 w h.sto ha hI h.ok.ok h.lib).mono ?_
 rintro e w' ⟨rs, C', T', rfl, hr, hs, hc, hC, hT⟩
 obtain ⟨A, c, B, d, rfl⟩ := Z5v hr
 have hz := h.bl.size
 exact ⟨A, c, B, d, C', T', rfl, hr, ⟨hs, h.bl.trans (hc.toBelow hz h.cn), fun q hq => (hC q hq).elim (h.cn q) fun h => by omega, fun q hq => (hT q hq).elim (h.tn q) fun h => by omega, h.lib.chg hc hC, h.ok.step a⟩, hc, hC, hT⟩
theorem At.new (w : World) (hl : LibW w) (hp : PolW w) : Calls Tryz.prog 26 #[] w fun e w' => ∃ sb C T, e = .returned (.pointer (some (zn sb 0))) /\ At w w' sb C T sto0 := by
 refine (X2z w).mono ?_
 rintro e w' ⟨rfl, hs, hb⟩
 refine ⟨_, _, _, rfl, hs, hb, fun q hq => by rcases hq with rfl | rfl <;> omega, fun q hq => hq.elim, fun w2 hc => ?_, SGood.start⟩
 have h2 : Bw w w2 := hb.trans (hc.toBelow hb.size fun q hq => by rcases hq with rfl | rfl <;> omega)
 exact ⟨hl.below h2, hp.below h2⟩
theorem At.other {w0 w w' : World} {sb : Nat} {C T D : Nat -> Prop} {st : Sto} (h : At w0 w sb C T st) (hl : LibW w0) (hp : PolW w0) (hc : Chg D w w') (hb : Bw w0 w') (hd : ∀ q, D q -> ¬ C q /\ ¬ T q) : At w0 w' sb C T st :=
 ⟨h.sto.keep (hc.keeps fun b hb hD => hb.elim (hd b hD).2 (hd b hD).1) hc.size, hb, h.cn, h.tn, fun w'' h2 => by
  have h3 := hb.trans (h2.toBelow hb.size h.cn)
  exact ⟨hl.below h3, hp.below h3⟩, h.ok⟩
theorem At.lower {w w1 w2 : World} {sb : Nat} {C T : Nat -> Prop} {st : Sto} (h : At w1 w2 sb C T st) (hb : Bw w w1) : At w w2 sb C T st :=
 ⟨h.sto, hb.trans (h.bl.mono hb.size), fun q hq => L0h hb.size (h.cn q hq), fun q hq => L0h hb.size (h.tn q hq), h.lib, h.ok⟩
theorem At.act_at {w0 w : World} {sb : Nat} {C T I : Nat -> Prop} {st st' : Sto} {a : Acn} {as' : List Value} {r : Rep} (hd : doS st a = (r, st')) (h : At w0 w sb C T st) (ha : rAcn.rel w I as' a) (hI : ∀ q, I q -> q < w.heap.size /\ ¬ C q) :
  Calls Tryz.prog 11 #[.pointer (some (zn sb 0)), .agg as'.toArray] w fun e w' => ∃ A c B d C' T', e = .returned (.agg #[.int .i64 r.code, .int .i64 r.n, sq r.text, .slice A r.ans.length c, .slice B r.at'.length d]) /\
   rRep.rel w' (fun q => w.heap.size <= q /\ ¬ C' q /\ q < w'.heap.size) [.int .i64 r.code, .int .i64 r.n, sq r.text, .slice A r.ans.length c, .slice B r.at'.length d] r /\ At w0 w' sb C' T' st' /\ Chg C w w' /\ (∀ q, C' q -> C q \/ w.heap.size <= q) /\ ∀ q, T' q -> T q \/ w.heap.size <= q := by
 have := h.act ha hI
 rw [hd] at this
 exact this
theorem Y4r (w : World) (kd n : Int) (nm tx : Txt) (h1 : InI kd) (h2 : InI n) (h3 : nm.length <= 140737488355328) (h4 : tx.length <= 140737488355328) : rAcn.rel w (fun _ => False) [.int .i64 kd, .int .i64 n, sq nm, sq tx, nl] ⟨kd, n, nm, tx, []⟩ :=
 ⟨_, rfl, h1, h2, h3, h4, Z01 _ _⟩
theorem box5 (w : World) (v0 v1 v2 v3 v4 : Value) : ∃ W, w.alloc (.cells #[v0, v1, v2, v3, v4] 30) = W /\ Hid (Bw w W) /\ W.cell? (zn w.heap.size 0) = some v0 /\ W.cell? (zn w.heap.size 1) = some v1 /\ Hid (w.heap.size < W.heap.size) :=
 ⟨_, rfl, L0 bA, L0b _ _ _ _, L0b _ _ _ _, L0 (by simp)⟩
theorem Y2y (w : World) (hl : LibW w) (hp : PolW w) : Calls Tryz.prog 52 #[] w fun e w' => e = .returned (.bool true) /\ Bw w w' := by
 obtain ⟨⟨r1, s1⟩, h1⟩ : ∃ z, doS sto0 Z7r = z := ⟨_, rfl⟩
 obtain ⟨⟨r2, s2⟩, h2⟩ : ∃ z, doS s1 Y2x = z := ⟨_, rfl⟩
 obtain ⟨⟨r3, s3⟩, h3⟩ : ∃ z, doS s2 Z6x = z := ⟨_, rfl⟩
 have k1 : r1.code = 0 := by have := Y6t; rw [h1] at this; rw [show r1 = _ from this]
 have k2 : r2.code = 0 := by have := Y8g; rw [h1, h2] at this; exact this
 have k3 : r3.code = 0 /\ r3.n = 1 /\ s3.states.length = 2 := by have := Y2z; rw [h1, h2, h3] at this; exact this
 obtain ⟨k3, k4, k5⟩ := k3
 have HH1 := L0 h1
 have HH2 := L0 h2
 have HH3 := L0 h3
 have HNEW := L0 (At.new w hl hp)
 clear h1 h2 h3 hl hp
 have HF : Hid (∀ (w : World) (C : Nat -> Prop) (q : Nat), False -> q < w.heap.size /\ ¬ C q) := L0 fun _ _ _ h => h.elim
 go_enter Tryz.func52, Tryz.ntmps52
 go_upto_region 4 with (first
  | (go_at_call 26; (with_reducible refine HNEW.o.mono ?_); rintro e w1 ⟨sb, C1, T1, rfl, hA1⟩; have HA1 := L0 hA1; clear hA1))
 go_upto_region 7 with (first
  | (go_at_call 11; first | (((refine L4y (HA1.o.act_at HH1.o (Y4r w1 1 0 [] [] ⟨by decide, by decide⟩ ⟨by decide, by decide⟩ (by simp) (by simp)) (HF.o w1 C1)) ?_); rintro e v2 ⟨A2, c2, B2, d2, C2, T2, rfl, _, hA2, hc2, hC2, _⟩; obtain ⟨W2, e2, HB2, x2, y2, HS2⟩ := box5 v2 (.int .i64 0) (.int .i64 r1.n) (sq r1.text) (.slice A2 r1.ans.length c2) (.slice B2 r1.at'.length d2); have HA2 := L0 (hA2.below HB2.o); have HW2 := L0 hA2.sto.cw; clear hA2 hc2 hC2)) | (((refine L4y (HA2.o.act_at HH2.o (Y4r W2 2 0 [] [100, 111, 109, 97, 105, 110, 32, 97, 32, 49, 46, 46, 57] ⟨by decide, by decide⟩ ⟨by decide, by decide⟩ (by simp) (by simp)) (HF.o W2 C2)) ?_); rintro e v3 ⟨A3, c3, B3, d3, C3, T3, rfl, _, hA3, hc3, hC3, _⟩; obtain ⟨W3, e3, HB3, x3, y3, HS3⟩ := box5 v3 (.int .i64 0) (.int .i64 r2.n) (sq r2.text) (.slice A3 r2.ans.length c3) (.slice B3 r2.at'.length d3); have HA3 := L0 (hA3.below HB3.o); have HW3 := L0 hA3.sto.cw; have x2b := (HB3.o.ce 0 (L0c HS2.o hc3.size)).trans ((L1d (a := (zn v2.heap.size 0)) (hc3.block v2.heap.size HS2.o (fun h => L3y _ (HW2.o _ h)))).trans x2); have HN3 : Hid (¬ C3 v2.heap.size) := L0 (fun h => by (rcases hC3 _ h with h | h; exact L3y _ (HW2.o _ h); (have := HS2.o; omega))); have HS3b : Hid (v2.heap.size < W3.heap.size) := L0 (L0d _ _ x2b); clear x2; clear hA3 hc3 hC3)) | (((refine L4y (HA3.o.act_at HH3.o (Y4r W3 6 0 [] [] ⟨by decide, by decide⟩ ⟨by decide, by decide⟩ (by simp) (by simp)) (HF.o W3 C3)) ?_); rintro e v4 ⟨A4, c4, B4, d4, C4, T4, rfl, _, hA4, hc4, hC4, _⟩; obtain ⟨W4, e4, HB4, x4, y4, HS4⟩ := box5 v4 (.int .i64 0) (.int .i64 1) (sq r3.text) (.slice A4 r3.ans.length c4) (.slice B4 r3.at'.length d4); have HA4 := L0 (hA4.below HB4.o); have x2c := (HB4.o.ce 0 (L0c HS3b.o hc4.size)).trans ((L1d (a := (zn v2.heap.size 0)) (hc4.block v2.heap.size HS3b.o HN3.o)).trans x2b); have x3b := (HB4.o.ce 0 (L0c HS3.o hc4.size)).trans ((L1d (a := (zn v3.heap.size 0)) (hc4.block v3.heap.size HS3.o (fun h => L3y _ (HW3.o _ h)))).trans x3); clear x2b x3; clear hA4 hc4 hC4))))
 have HST := L0 (Z7q W4 HA4.o.sto)
 have HK5 := L0 k5
 go_wp2_with (go_at_call 12; (with_reducible refine HST.o.mono ?_); rintro e w9 ⟨u9, rfl, ho9, hb9⟩; obtain ⟨A9, c9, e9⟩ := ho9.value; rw [HK5.o] at e9; subst e9; have HB9 := L0 hb9; clear ho9 hb9)
 go_ret
 exact ⟨rfl, HA4.o.bl.trans (HB9.o.mono HA4.o.bl.size)⟩
theorem Y9q {w : World} {S : Nat -> Prop} {ys : List Value} {x : Ses} (h : rSes.rel w S ys x) : ∃ D dc B bc G gc R rc, ys = [.bool x.opn, .bool x.strict, .int .i64 x.frm, .slice D x.mine.doms.length dc, .slice B x.mine.tabs.length bc, .slice G x.gone.length gc, .slice R x.read.length rc] /\ InI x.frm /\
  rBk.rel w S [.slice D x.mine.doms.length dc, .slice B x.mine.tabs.length bc] x.mine /\ (rSl rStr).rel w S [.slice G x.gone.length gc] x.gone /\ (rSl rStr).rel w S [.slice R x.read.length rc] x.read := by
 obtain ⟨v, u, g, r, rfl, h0, h1, h2, h3, h4⟩ := h
 obtain ⟨D, dc, rfl, _⟩ := rSl.elems h1
 obtain ⟨B, bc, rfl, _⟩ := rSl.elems h2
 obtain ⟨G, gc, rfl, _⟩ := rSl.elems h3
 obtain ⟨R, rc, rfl, _⟩ := rSl.elems h4
 exact ⟨D, dc, B, bc, G, gc, R, rc, rfl, h0, ⟨_, _, rfl, h1, h2⟩, h3, h4⟩
