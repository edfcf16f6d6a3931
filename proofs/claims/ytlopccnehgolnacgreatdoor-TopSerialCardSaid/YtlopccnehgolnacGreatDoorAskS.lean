import Derived.Test.YtlopccnehgolnacGreatDoorGK41
import Derived.Test.YtlopccnehgolnacGreatDoorGK30
import Derived.Deep.RegionHeld3
import Derived.Deep.DeepCutAuto
namespace Go.Proofs.YtlopccnehgolnacGreatDoor
open Go.RowKit Rb
open List renaming foldl_append -> jA
open Rd renaming below -> jB
open Go.World renaming new_ne -> jC
set_option maxRecDepth 100000
set_option maxHeartbeats 12800000
def Z1y (b : Bk) (l : List Txt) : List Txt := (Z0n b).foldl addN l
def askS (b : Bk) (x : Ses) (ns : List Int) : Rep × Ses :=
 (if (askB (Z1o b x) ns).2 ≠ 0 then noR (askB (Z1o b x) ns).2 else ⟨0, 0, [], (askB (Z1o b x) ns).1, []⟩,
 { x with read := if x.strict then addN (Z1y (Z1o b x) (Z1y b x.read)) [] else Z1y (Z1o b x) (Z1y b x.read) })
theorem Neat.view3 {nd : Nat} : ∀ (l : List Tb) {nt : Nat} {b : Bk}, Neat b nd nt -> Neat (l.foldl Z47 b) nd (nt + l.length)
 | [], _, _, h => h
 | d :: l, nt, b, h => by
  have := Neat.view3 l (Z2z h d)
  rw [L0r, show nt + (l.length + 1) = nt + 1 + l.length by omega]
  exact this
theorem Neat.view {b : Bk} {nd nt : Nat} (h : Neat b nd nt) (x : Ses) : Neat (Z1o b x) (nd + x.mine.doms.length) (nt + x.mine.tabs.length) :=
 Neat.view3 _ (Neat.view2 _ (Neat.view1 _ h))
theorem Wrote.new {w w' w'' : World} {sb o q : Nat} (h : Wrote sb o w w') (hg : w'.grownBy w'' (some q)) (hq : w.heap.size <= q) (hs : sb < w.heap.size) : Wrote sb o w w'' :=
 ⟨⟨hg.os.trans h.hg.os, hg.tape.trans h.hg.tape, hg.output.trans h.hg.output, L0h h.hg.size hg.size, fun b hb hn => (hg.block b (L0c hb h.hg.size) (fun e => by injection e with e; omega)).trans (h.hg.block b hb hn)⟩,
 fun j hj => (L1d (hg.block sb (L0c hs h.hg.size) (fun e => by injection e with e; omega))).trans (h.cell j hj),
 fun j => (L1a (hg.block sb (L0c hs h.hg.size) (fun e => by injection e with e; omega))).trans (h.frz j)⟩
theorem StoAt.book {w : World} {sb f : Nat} {C T : Nat -> Prop} {st : Sto} {b : Bk} (h : StoAt w sb C T st) (hf : st.states[f]? = some b) :
  ∃ g c A1 c1 A2 c2, w.cell? (zn sb 0) = some (.slice (some (zn g 0)) st.states.length c) /\ rBk.rel w T [.slice A1 b.doms.length c1, .slice A2 b.tabs.length c2] b /\ w.cell? (zn g (f * 2)) = some (.slice A1 b.doms.length c1) /\ w.cell? (zn g (f * 2 + 1)) = some (.slice A2 b.tabs.length c2) /\ C g /\ g ≠ sb /\ g < w.heap.size := by
 obtain ⟨v, h0, h1, h2⟩ := h.row
 rcases h1.form with ⟨_, hn⟩ | ⟨g, cap, rfl, _, hg⟩
 ·rw [hn] at hf
  simp at hf
 obtain ⟨cs, hr, hc⟩ := h1.elem rfl hf
 have hr' := hr
 obtain ⟨v1, u1, rfl, hd, ht⟩ := hr
 obtain ⟨A1, c1, rfl, _⟩ := rSl.elems hd
 obtain ⟨A2, c2, rfl, _⟩ := rSl.elems ht
 exact ⟨g, cap, A1, c1, A2, c2, h0, hr', hc 0 _ rfl, hc 1 _ rfl, (h2 g rfl).1, (h2 g rfl).2, hg⟩
section
variable {w W w4 : World} {sb o : Nat} {T : Nat -> Prop} {x : Ses}
theorem Z6b {l : List Txt} {u : Value} (hx : SesAt W sb o (Tn T w W) x) (hs : ¬ T sb /\ sb < w.heap.size) (hf : ∀ j, W.frozen? (zn sb j) = false) (hw3 : w.heap.size <= W.heap.size)
  (ho : (rSl rStr).rel w4 (Up (Tn T w W) W.heap.size) [u] l) (hb4 : Bw W w4) :
  ∃ W5, w4.setCell (zn sb (o + 6)) u = W5 /\ Hid (SesAt W5 sb o (Tn T w W5) { x with read := l }) /\ Hid (Wrote sb o W W5) /\ w4.frozen? (zn sb (o + 6)) = false /\ ∃ y, w4.cell? (zn sb (o + 6)) = some y := by
 have hsW : sb < W.heap.size := L0c hs.2 hw3
 have hx4 := hx.below hb4
 obtain ⟨D, dc, B, bc, G, gc, R, rc, _, c0, c1, c2, c3, c4, c5, c6⟩ := hx4.out
 have hnT : ¬ Tn T w w4 sb := fun h => by
  rcases h.1 with h | h
  ·exact hs.1 h
  have := hs.2; omega
 have sub : ∀ b, Up (Tn T w W) W.heap.size b -> b < w4.heap.size -> Tn T w w4 b := fun b h hl => ⟨by
  rcases h with h | h
  ·exact h.1
  exact .inr (L0h hw3 h), hl⟩
 have hz : (w4.setCell (zn sb (o + 6)) u).heap.size = w4.heap.size := by simp [World.setCell]
 refine ⟨_, rfl, L0 ?_, L0 ((Wrote.below hb4 hsW).trans (.set 6 (by decide) u)), (hb4.fr (o + 6) hsW).trans (hf _), ⟨_, c6⟩⟩
 have h := (hx4.mono fun b hb _ => (⟨hb.1, L0c hb.2 hb4.size⟩ : Tn T w w4 b)).setRead hnT ((rSl rStr).mono ho sub)
 exact h.mono fun b hb _ => ⟨hb.1, by rw [hz]; exact hb.2⟩
theorem Tn.grow (hx : SesAt W sb o (Tn T w W) x) (hb : Bw W w4) : SesAt w4 sb o (Tn T w w4) x := (hx.below hb).mono fun _ h _ => ⟨h.1, L0c h.2 hb.size⟩
theorem SesAt.readOut (hx : SesAt W sb o T x) : ∃ R rc, W.cell? (zn sb (o + 6)) = some (.slice R x.read.length rc) /\ (rSl rStr).rel W T [.slice R x.read.length rc] x.read := by
 obtain ⟨D, dc, B, bc, G, gc, R, rc, hr, _, _, _, _, _, _, c6⟩ := hx.out
 obtain ⟨_, _, _, _, e, _, _, _, _, h4⟩ := hr
 simp only [L1f, and_true, true_and] at e
 obtain ⟨_, _, _, rfl⟩ := e
 exact ⟨R, rc, c6, h4⟩
end
theorem Z9e {b : Bk} : ∀ l : List Tb, 0 <= (Z03 b l).2.2 /\ (Z03 b l).2.2 <= 11
 | [] => by simp [Z03]
 | a :: l => by
  rw [Z03]
  have := Z9e (b := b) l
  split
  ·simp
  split
  ·simp
  exact this
theorem Y29 (b : Bk) : 0 <= (Z0j b).2.2 /\ (Z0j b).2.2 <= 11 := by
 unfold Z0j
 split
 ·simp
 split
 ·simp
 split
 ·simp
 split
 ·simp
 split
 ·simp
 exact Z9e _
theorem Y8k (b : Bk) (ns : List Int) : InI (askB b ns).2 := by
 have := Y29 b
 unfold askB InI
 split
 ·simp only; omega
 split
 ·simp
 split <;> simp
theorem Y5z {W : World} {S : Nat -> Prop} {b : Bk} {A1 A2 : Option Addr} {c1 c2 : Nat} (h : rBk.rel W S [.slice A1 b.doms.length c1, .slice A2 b.tabs.length c2] b) : Hid (Elems rDm W S A1 b.doms) /\ Hid (Elems rTb W S A2 b.tabs) := by
 obtain ⟨v, u, e, h1, h2⟩ := h
 simp only [L1f, and_true] at e
 obtain ⟨rfl, rfl⟩ := e
 obtain ⟨A, c, e1, _, _, _, hE⟩ := rSl.elems h1
 obtain ⟨B, d, e2, _, _, _, hF⟩ := rSl.elems h2
 injection e1 with e1 _ _
 injection e2 with e2 _ _
 subst e1 e2
 exact ⟨L0 hE, L0 hF⟩
theorem Y1x {w W W1 W6 : World} {sb o : Nat} {T : Nat -> Prop} {x : Ses} (hx : SesAt W1 sb o (Tn T W W1) x) (_hs : ¬ T sb /\ sb < W.heap.size) (hz : W.heap.size = w.heap.size + 1) (hT : ∀ q, T q -> q < w.heap.size) (hg : W1.grownBy W6 (some w.heap.size)) (hl : sb < w.heap.size) : SesAt W6 sb o (Tn T w W6) x := by
 refine (hx.keep (.grown hg fun g hg h => ?_)).mono fun q hq _ => ⟨hq.1.imp id fun h => by omega, L0c hq.2 hg.size⟩
 injection hg with hg
 rcases h with h | h
 ·rcases h.1 with h | h
  ·have := hT _ h; omega
  omega
 omega
theorem Y8m {w wc w2 W2 W1 W6 : World} {S : Nat -> Prop} {sb o n : Nat} {l : List An} {A : Option Addr} {c : Nat} (hr : (rSl rAn).rel w2 (New wc S) [.slice A l.length c] l) (_ : n <= w2.heap.size) (hb : Bw w2 W2) (hw : Wrote sb o W2 W1) (hs : sb < wc.heap.size) (hg : W1.grownBy W6 (some w.heap.size)) (hq : w.heap.size < wc.heap.size) (_ : w.heap.size < wc.heap.size) :
  rRep.rel W6 (fun q => w.heap.size < q /\ q < W6.heap.size) [.int .i64 0, .int .i64 0, .string ⟨#[]⟩, .slice A l.length c, nl] ⟨0, 0, [], l, []⟩ := by
 have h1 : (rSl rAn).rel W1 (New wc S) [.slice A l.length c] l := (rSl rAn).keep (jB hr hb) (hw.keeps fun h => by have := h.2; omega)
 have h2 : (rSl rAn).rel W6 (New wc S) [.slice A l.length c] l := (rSl rAn).keep h1 (.grown hg fun g hg h => by injection hg with hg; have := h.2; omega)
 exact ⟨_, _, rfl, (show InI 0 from ⟨by decide, by decide⟩), (show InI 0 from ⟨by decide, by decide⟩), by simp, (rSl rAn).mono h2 fun q hq' hl => ⟨by have := hq'.2; omega, hl⟩, Z01 _ _⟩
theorem X0t {T : Nat -> Prop} {W W1 w2 : World} {v : Bk} {A3 A4 : Option Addr} {c3 c4 : Nat} (hb : Bw W W1) (hr : rBk.rel w2 (fun q => (T q \/ W1.heap.size <= q) /\ q < w2.heap.size) [.slice A3 v.doms.length c3, .slice A4 v.tabs.length c4] v) (hb2 : Bw W1 w2) :
  ∃ W3, w2.alloc (.cells #[.slice A3 v.doms.length c3, .slice A4 v.tabs.length c4] 38) = W3 /\ Hid (Bw W W3) /\ Hid (rBk.rel W3 (fun q => Tn T W W3 q /\ q ≠ w2.heap.size) [.slice A3 v.doms.length c3, .slice A4 v.tabs.length c4] v) /\ Hid (W.heap.size <= w2.heap.size /\ w2.heap.size < W3.heap.size) /\ W3.cell? (zn w2.heap.size 0) = some (.slice A3 v.doms.length c3) /\ W3.cell? (zn w2.heap.size 1) = some (.slice A4 v.tabs.length c4) := by
 have h2 := hb.trans (hb2.mono hb.size)
 refine ⟨_, rfl, L0 (h2.alloc h2.size _), L0 (rBk.mono (Rd.alloc hr _) fun q hq _ => ⟨⟨hq.1.imp id (L0h hb.size), by have := hq.2; simp; omega⟩, Nat.ne_of_lt hq.2⟩), L0 ⟨h2.size, by simp⟩, L0b _ _ _ _, L0b _ _ _ _⟩
theorem X0u {T : Nat -> Prop} {W WA w2 : World} {v : Bk} {A3 A4 : Option Addr} {c3 c4 : Nat} (hb : Bw W WA.drew) (hz : WA.heap.size = W.heap.size + 1) (hc : WA.cell? (zn W.heap.size 0) = some (nl) /\ WA.cell? (zn W.heap.size 1) = some (nl) /\ WA.frozen? (zn W.heap.size 0) = false /\ WA.frozen? (zn W.heap.size 1) = false) (hT : ∀ q, T q -> q < W.heap.size)
  (hr : rBk.rel w2 (fun q => (T q \/ WA.drew.heap.size <= q) /\ q < w2.heap.size) [.slice A3 v.doms.length c3, .slice A4 v.tabs.length c4] v) (hb2 : Bw WA.drew w2) :
  ∃ W3, (w2.setCell (zn W.heap.size 0) (.slice A3 v.doms.length c3)).setCell (zn W.heap.size 1) (.slice A4 v.tabs.length c4) = W3 /\ Hid (Bw W W3) /\ Hid (rBk.rel W3 (fun q => Tn T W W3 q /\ q ≠ W.heap.size) [.slice A3 v.doms.length c3, .slice A4 v.tabs.length c4] v) /\ Hid (W.heap.size <= W.heap.size /\ W.heap.size < W3.heap.size) /\ W3.cell? (zn W.heap.size 0) = some (.slice A3 v.doms.length c3) /\ W3.cell? (zn W.heap.size 1) = some (.slice A4 v.tabs.length c4) /\
   w2.cell? (zn W.heap.size 0) = some (nl) /\ w2.cell? (zn W.heap.size 1) = some (nl) /\ w2.frozen? (zn W.heap.size 0) = false /\ w2.frozen? (zn W.heap.size 1) = false := by
 have hz' : WA.drew.heap.size = W.heap.size + 1 := hz
 have hl : W.heap.size < WA.drew.heap.size := by omega
 have k0 := (hb2.ce 0 hl).trans hc.1
 have k1 := (hb2.ce 1 hl).trans hc.2.1
 have h2 := hb.trans (hb2.mono hb.size)
 have hs2 := hb2.size
 have hG : w2.grownBy ((w2.setCell (zn W.heap.size 0) (.slice A3 v.doms.length c3)).setCell (zn W.heap.size 1) (.slice A4 v.tabs.length c4)) (some W.heap.size) := Z0b [.slice A3 v.doms.length c3, .slice A4 v.tabs.length c4] 0
 refine ⟨_, rfl, L0 ((h2.setCell (p := (zn W.heap.size 0)) (L0g _) _).setCell (p := (zn W.heap.size 1)) (L0g _) _), L0 ?_, L0 ⟨L0g _, by have := hG.size; omega⟩, (cso).trans (L0e _ _ _ k0), L0e _ _ _ ((cso).trans k1), k0, k1, (hb2.fr 0 hl).trans hc.2.2.1, (hb2.fr 1 hl).trans hc.2.2.2⟩
 refine rBk.mono (rBk.keep hr (.grown hG fun g hg h => ?_)) fun q hq _ => ⟨⟨hq.1.imp id fun h => by omega, by have := hG.size; have := hq.2; omega⟩, fun e => ?_⟩
 ·injection hg with hg
  rcases h.1 with h | h
  ·have := hT _ h; omega
  omega
 rcases hq.1 with h | h
 ·have := hT _ h; omega
 omega
theorem X0e {C T I : Nat -> Prop} {sb k f : Nat} {st : Sto} {b : Bk} {x : Ses} {u : Value} {ns : List Int} (w : World) (h : StoAt w sb C T st) (hk : k < 4) (hx0 : st.ses k = x) (hfr : x.frm = f) (hf : st.states[f]? = some b) (hin : (rSl rInt).rel w I [u] ns) (_hI : ∀ q, I q -> q ≠ sb)
  (hneat : Neat b 1000 1000) (hmd : x.mine.doms.length <= 1000) (hmt : x.mine.tabs.length <= 1000) (hrd : x.read.length <= 1000000) :
  Calls Tryz.prog 37 #[.pointer (some (zn sb 0)), .pointer (some (zn sb (1 + k * 7))), u] w fun e w' => ∃ rs, e = .returned (.agg rs.toArray) /\ rRep.rel w' (fun q => w.heap.size < q /\ q < w'.heap.size) rs (askS b x ns).1 /\ SesAt w' sb (1 + k * 7) (Tn T w w') (askS b x ns).2 /\ Wrote sb (1 + k * 7) w w' := by
 have HSL := L0 h.lt
 obtain ⟨W, e0, HB, HZ, HC, HF⟩ := Y38 (L0m w.heap.size w)
 have hA : StoAt W sb C T st := h.below HB.o
 have HNT := L0 h.nT
 obtain ⟨o, ho⟩ : ∃ o, 1 + k * 7 = o := ⟨_, rfl⟩
 have hsx : SesAt W sb o T x := by rw [<- ho, <- hx0]; exact hA.ses k hk
 have HT := L0 h.tw
 obtain ⟨g, gcp, A1, c1, A2, c2, s0, hrb, g0, g1, hgC, hgs, hgl⟩ := hA.book hf
 obtain ⟨D, dc, B, bc, G, gc, R, rc, hr, x0, x1, x2, x3, x4, x5, x6⟩ := hsx.out
 have hfl : f < st.states.length := (L0n.1 hf).1
 have hfi : (f : Int) < st.states.length := by omega
 have hf0 : (0 : Int) <= f := by omega
 rw [hfr] at x2
 have HXW := L0 hsx
 have HRB := L0 hrb
 have HRX : Hid (rSes.rel W T [.bool x.opn, .bool x.strict, .int .i64 f, .slice D x.mine.doms.length dc, .slice B x.mine.tabs.length bc, .slice G x.gone.length gc, .slice R x.read.length rc] x) := L0 (hfr ▸ hr)
 have HN := L0 hneat
 have HMD := L0 hmd
 have HMT := L0 hmt
 have HRD := L0 hrd
 have HIN : Hid ((rSl rInt).rel W I [u] ns) := L0 (jB hin HB.o)
 have HFZ : Hid (∀ j, W.frozen? (zn sb j) = false) := L0 hA.frz
 obtain ⟨v, hv⟩ : ∃ v, Z1o b x = v := ⟨_, rfl⟩
 have HV := L0 hv
 have HNV : Hid (Neat v 2000 2000) := L0 (hv ▸ (hneat.view x).mono (by omega) (by omega))
 have HOU : Hid (∀ z : Txt, 0 < (2 : Nat)) := L0 fun _ => by decide
 have n1 := jC W _ s0
 have n2 := jC W _ x2
 have n3 := jC W _ g0
 have n4 := jC W _ g1
 have n5 := jC W _ x0
 have n6 := jC W _ x1
 have n7 := jC W _ x3
 have n8 := jC W _ x4
 have n9 := jC W _ x5
 have n10 := jC W _ x6
 have HK10 : Hid (∀ w', Bw W w' -> ((fun W' => W'.cell? (zn sb 0) = some (.slice (some (zn g 0)) st.states.length gcp) /\ W'.cell? (zn sb (o + 2)) = some (.int .i64 f) /\ W'.cell? (zn g (f * 2)) = some (.slice A1 b.doms.length c1) /\ W'.cell? (zn g (f * 2 + 1)) = some (.slice A2 b.tabs.length c2) /\ W'.cell? (zn sb o) = some (.bool x.opn) /\ W'.cell? (zn sb (o + 1)) = some (.bool x.strict) /\ W'.cell? (zn sb (o + 3)) = some (.slice D x.mine.doms.length dc) /\ W'.cell? (zn sb (o + 4)) = some (.slice B x.mine.tabs.length bc) /\ W'.cell? (zn sb (o + 5)) = some (.slice G x.gone.length gc) /\ W'.cell? (zn sb (o + 6)) = some (.slice R x.read.length rc))) w') := L0 fun w' hb => by
  have hs : sb < W.heap.size := L0d _ _ s0
  have hg : g < W.heap.size := L0d _ _ g0
  exact ⟨(hb.ce _ hs).trans s0, (hb.ce _ hs).trans x2, (hb.ce _ hg).trans g0, (hb.ce _ hg).trans g1, (hb.ce _ hs).trans x0, (hb.ce _ hs).trans x1, (hb.ce _ hs).trans x3, (hb.ce _ hs).trans x4, (hb.ce _ hs).trans x5, (hb.ce _ hs).trans x6⟩
 have HVW : Hid (∀ W', Bw W W' -> Calls Tryz.prog 23 #[.agg #[.slice A1 b.doms.length c1, .slice A2 b.tabs.length c2], .agg #[.bool x.opn, .bool x.strict, .int .i64 f, .slice D x.mine.doms.length dc, .slice B x.mine.tabs.length bc, .slice G x.gone.length gc, .slice R x.read.length rc]] W' fun e w' => ∃ A3 c3 A4 c4, e = .returned (.agg #[.slice A3 v.doms.length c3, .slice A4 v.tabs.length c4]) /\ rBk.rel w' (fun q => (T q \/ W'.heap.size <= q) /\ q < w'.heap.size) [.slice A3 v.doms.length c3, .slice A4 v.tabs.length c4] v /\ Bw W' w') := L0 fun W' hb => by
  have hT : ∀ q, T q -> q < W.heap.size := fun q h => by have := HT.o q h; have := HZ.o; omega
  have h1 := Z8v (S := T) W' (jB HRB.o hb) (jB HRX.o hb) (fun q h => L0c (hT q h) hb.size) HN.o (by have := HMD.o; omega) (by have := HMT.o; omega)
  refine h1.mono ?_
  rintro e w' ⟨v1, u1, rfl, hr1, hb1⟩
  rw [HV.o] at hr1
  have hr2 := hr1
  obtain ⟨v2, u2, e2, hd, ht⟩ := hr1
  simp only [L1f, and_true] at e2
  obtain ⟨rfl, rfl⟩ := e2
  obtain ⟨A3, c3, rfl, _⟩ := rSl.elems hd
  obtain ⟨A4, c4, rfl, _⟩ := rSl.elems ht
  exact ⟨A3, c3, A4, c4, rfl, rBk.mono hr2 fun q hq hl => ⟨hq, hl⟩, hb1⟩
 obtain ⟨WA, eA, HBA, HAC, HAZ⟩ : ∃ WA, W.alloc (.cells #[nl, nl] 38) = WA /\ Hid (Bw W WA.drew) /\ Hid (WA.cell? (zn W.heap.size 0) = some (nl) /\ WA.cell? (zn W.heap.size 1) = some (nl) /\ WA.frozen? (zn W.heap.size 0) = false /\ WA.frozen? (zn W.heap.size 1) = false) /\ Hid (WA.heap.size = W.heap.size + 1) :=
  ⟨_, rfl, L0 (bA.trans ⟨rfl, rfl, rfl, L0g _, fun _ _ => rfl⟩), L0 ⟨L0b _ _ _ _, L0b _ _ _ _, by simp, by simp⟩, L0 (by simp)⟩
 obtain ⟨q0, q1, q2, q3⟩ := HAC.o
 clear h hA hx0 hfr hf hin hneat hmd hmt hrd hrb hr hsx hgC hgs hgl hv HOU
 rw [ho]
 go_enter Tryz.func37, Tryz.ntmps37
 go_upto_region 1 with fail
 have HBD : Hid (Bw W W.drew) := L0 ⟨rfl, rfl, rfl, L0g _, fun _ _ => rfl⟩
 go_cut [7] (fun p wx => ∃ qb A3 c3 A4 c4, p = .pointer (some (zn qb 0)) /\ Hid (Bw W wx) /\ Hid (W.heap.size <= qb /\ qb < wx.heap.size) /\ wx.cell? (zn qb 0) = some (.slice A3 v.doms.length c3) /\ wx.cell? (zn qb 1) = some (.slice A4 v.tabs.length c4) /\ Hid (rBk.rel wx (fun q => Tn T W wx q /\ q ≠ qb) [.slice A3 v.doms.length c3, .slice A4 v.tabs.length c4] v))
 case first =>
  obtain ⟨r0, r1, r2, r3, r4, r5, r6, r7, r8, r9⟩ := HK10.o WA ⟨HBA.o.os, HBA.o.tape, HBA.o.output, HBA.o.size, HBA.o.block⟩
  go_region_held3 (fun W' => W'.cell? (zn sb 0) = some (.slice (some (zn g 0)) st.states.length gcp) /\ W'.cell? (zn sb (o + 2)) = some (.int .i64 f) /\ W'.cell? (zn g (f * 2)) = some (.slice A1 b.doms.length c1) /\ W'.cell? (zn g (f * 2 + 1)) = some (.slice A2 b.tabs.length c2) /\ W'.cell? (zn sb o) = some (.bool x.opn) /\ W'.cell? (zn sb (o + 1)) = some (.bool x.strict) /\ W'.cell? (zn sb (o + 3)) = some (.slice D x.mine.doms.length dc) /\ W'.cell? (zn sb (o + 4)) = some (.slice B x.mine.tabs.length bc) /\ W'.cell? (zn sb (o + 5)) = some (.slice G x.gone.length gc) /\ W'.cell? (zn sb (o + 6)) = some (.slice R x.read.length rc)) (go_keep) (first
   | (go_at_call 23; ((with_reducible refine (HVW.o _ HBD.o).mono ?_); rintro e w2 ⟨A3, c3, A4, c4, rfl, hr2, hb2⟩; obtain ⟨W3, e3, HB3, HR3, HQ3, z0, z1⟩ := X0t HBD.o hr2 hb2; obtain ⟨y0, y1, y2, y3, y4, y5, y6, y7, y8, y9⟩ := HK10.o w2 (HBD.o.trans (hb2.mono HBD.o.size)); obtain ⟨t0, t1, t2, t3, t4, t5, t6, t7, t8, t9⟩ := HK10.o W3 HB3.o; clear hr2 hb2))
   | (go_at_call 23; ((with_reducible refine (HVW.o _ HBA.o).mono ?_); rintro e w2 ⟨A3, c3, A4, c4, rfl, hr2, hb2⟩; obtain ⟨W3, e3, HB3, HR3, HQ3, z0, z1, p0, p1, p2, p3⟩ := X0u HBA.o HAZ.o HAC.o (fun q h => by have := HT.o q h; have := HZ.o; omega) hr2 hb2; obtain ⟨y0, y1, y2, y3, y4, y5, y6, y7, y8, y9⟩ := HK10.o w2 (HBA.o.trans (hb2.mono HBA.o.size)); obtain ⟨t0, t1, t2, t3, t4, t5, t6, t7, t8, t9⟩ := HK10.o W3 HB3.o; clear hr2 hb2)))
  all_goals
   clear y0 y1 y2 y3 y4 y5 y6 y7 y8 y9 t0 t1 t2 t3 t4 t5 t6 t7 t8 t9 r0 r1 r2 r3 r4 r5 r6 r7 r8 r9 n1 n2 n3 n4 n5 n6 n7 n8 n9 n10
   go_wp2
   go_meet
   exact ⟨_, _, _, _, _, rfl, HB3, HQ3, z0, z1, HR3⟩
 obtain ⟨qb, A3, c3, A4, c4, rfl, HB2, HQ2, z0, z1, HR2⟩ := hcut
 clear n1 n2 n3 n4 n5 n6 n7 n8 n9 n10 q0 q1 q2 q3 eA HBA HAC HAZ HVW s0 g0 g1 x0 x1 x2 x3 x4 x5 x6 e0
 obtain ⟨⟨l, er⟩, hak⟩ : ∃ z, askB v ns = z := ⟨_, rfl⟩
 have HAK := L0 hak
 have HINc : Hid ((rSl rInt).rel wc I [u] ns) := L0 (jB HIN.o HB2.o)
 clear hak
 go_upto_region 3 with (first
  | (go_at_call 47; (with_reducible refine (X15 wc HR2.o HINc.o HAK.o).mono ?_); rintro e w2 ⟨Ak, ck, Sk, rfl, hk2, hb2⟩; have HB3 := L0 (HB2.o.trans (hb2.mono HB2.o.size)); have HKR := L0 hk2; have HBC := L0 hb2; have y0 := (hb2.ce 0 HQ2.o.2).trans z0; have y1 := (hb2.ce 1 HQ2.o.2).trans z1; clear hk2 hb2))
 clear z0 z1
 obtain ⟨s0, x2, g0, g1, x0, x1, x3, x4, x5, x6⟩ := HK10.o w2 HB3.o
 have hx0 : ∀ w : World, (Instr.index 118 (.agg #[.slice A1 b.doms.length c1, .slice A2 b.tabs.length c2, .slice A3 v.doms.length c3, .slice A4 v.tabs.length c4]) (.int .i64 0)).run Tryz.prog w = .ok (.agg #[.slice A1 b.doms.length c1, .slice A2 b.tabs.length c2]) w := fun _ => by kernel_rfl
 have hx1' : ∀ w : World, (Instr.index 118 (.agg #[.slice A1 b.doms.length c1, .slice A2 b.tabs.length c2, .slice A3 v.doms.length c3, .slice A4 v.tabs.length c4]) (.int .i64 1)).run Tryz.prog w = .ok (.agg #[.slice A3 v.doms.length c3, .slice A4 v.tabs.length c4]) w := fun _ => by kernel_rfl
 go_quiet (fail)
 clear s0 x2 g0 g1 x0 x1 x3 x4 x5 x6 y0 y1
 obtain ⟨W2, eW2, HBN⟩ : ∃ W2, w2.drewN nq = W2 /\ Hid (Bw w2 W2) := ⟨_, rfl, L0 ⟨rfl, rfl, rfl, L0g _, fun _ _ => rfl⟩⟩
 rw [eW2]
 clear eW2
 have HSB : Hid (¬ T sb /\ sb < W.heap.size) := L0 ⟨HNT.o, by have := HSL.o; have := HZ.o; omega⟩
 have HB4 : Hid (Bw W W2) := L0 (HB3.o.trans (HBN.o.mono HB3.o.size))
 have HBCS : Hid (Bw w2 W2) := HBN
 have HTW : Hid (∀ q, T q -> q < W.heap.size) := L0 fun q h => by have := HT.o q h; have := HZ.o; omega
 have HX2 : Hid (SesAt W2 sb o (Tn T W W2) { x with read := x.read }) := L0 ((HXW.o.below HB4.o).mono fun q h _ => ⟨.inl h, L0c (HTW.o q h) HB4.o.size⟩)
 have HF2 : Hid (∀ q, W2.frozen? (zn sb q) = false) := L0 fun q => (HB4.o.fr q HSB.o.2).trans (HFZ.o q)
 have HNS : Hid (¬ Tn T W W2 sb) := L0 fun h => by
  rcases h.1 with h | h
  ·exact HSB.o.1 h
  have := HSB.o.2; omega
 have hrb2 : rBk.rel W2 (Tn T W W2) [.slice A1 b.doms.length c1, .slice A2 b.tabs.length c2] b := rBk.mono (jB HRB.o HB4.o) fun q h _ => ⟨.inl h, L0c (HTW.o q h) HB4.o.size⟩
 have hrv2 : rBk.rel W2 (Tn T W W2) [.slice A3 v.doms.length c3, .slice A4 v.tabs.length c4] v := rBk.mono (jB (jB HR2.o HBC.o) HBN.o) fun q h _ => ⟨h.1.1, L0c h.1.2 (L0h HBC.o.size HBN.o.size)⟩
 obtain ⟨HE1, HE2⟩ := Y5z hrb2
 obtain ⟨HE3, HE4⟩ := Y5z hrv2
 have HLEN : Hid (x.read.length + (Z0n b).length + (Z0n v).length < 1000000000) := L0 (by have h1 := HN.o.ld; have h2 := HN.o.lt; have h3 := HNV.o.ld; have h4 := HNV.o.lt; have h5 := HRD.o; simp only [Z0n, L0i, L1h]; omega)
 have hbl : b.doms.length <= 1000 /\ b.tabs.length <= 1000 /\ v.doms.length <= 2000 /\ v.tabs.length <= 2000 := ⟨HN.o.ld, HN.o.lt, HNV.o.ld, HNV.o.lt⟩
 obtain ⟨hbl1, hbl2, hbl3, hbl4⟩ := hbl
 have HW2 : Hid (Wrote sb o W2 W2) := L0 (.refl _ _ _)
 have HKQ : Hid (∀ W', Wrote sb o W W' -> W'.cell? (zn w.heap.size 0) = some (.int .i64 0) /\ W'.cell? (zn w.heap.size 1) = some (.int .i64 0) /\ W'.cell? (zn w.heap.size 2) = some (.string ⟨#[]⟩) /\ W'.cell? (zn w.heap.size 3) = some (nl) /\ W'.cell? (zn w.heap.size 4) = some (nl) /\ W'.frozen? (zn w.heap.size 0) = false /\ W'.frozen? (zn w.heap.size 1) = false /\ W'.frozen? (zn w.heap.size 2) = false /\ W'.frozen? (zn w.heap.size 3) = false /\ W'.frozen? (zn w.heap.size 4) = false) := L0 fun W' hw => by
  have hne : some w.heap.size ≠ some sb := fun e => by injection e with e; have := HSL.o; omega
  have hfz : ∀ j, W'.frozen? (zn w.heap.size j) = false := fun j => (L1a (hw.hg.block _ (by have := HZ.o; show w.heap.size < _; omega) hne)).trans (HF.o j)
  obtain ⟨c0, c1, c2, c3, c4⟩ := HC.o
  exact ⟨hw.hg.cell c0 hne, hw.hg.cell c1 hne, hw.hg.cell c2 hne, hw.hg.cell c3 hne, hw.hg.cell c4 hne, hfz 0, hfz 1, hfz 2, hfz 3, hfz 4⟩
 have HSBC : Hid (sb < wc.heap.size) := L0 (L0c HSB.o.2 HB2.o.size)
 clear hrb2 hrv2 hfl hfi hf0
 go_wp2
 go_loopw [48] (fun si wr => ∃ (k : Nat) (rd : List Txt), (k = 0 /\ si = .int .i64 0 \/ k = 1 /\ si = .int .i64 1 \/ k = 2 /\ si = .int .i64 2) /\ Hid (SesAt wr sb o (Tn T W wr) { x with read := rd }) /\ Hid (Wrote sb o W2 wr) /\ Hid (rd = (([b, v].take k).flatMap Z0n).foldl addN x.read) /\ Hid (rd.length <= x.read.length + (([b, v].take k).flatMap Z0n).length)) (fun si _ => 2 - (intOf si).toNat)
 exact ⟨0, _, .inl ⟨rfl, rfl⟩, HX2, HW2, L0 rfl, L0 (L0g _)⟩
 clear HX2 HW2
 obtain ⟨k, rd, hk3, HXo, HWo, HO0, HLo⟩ := hrel
 obtain ⟨wo, hwo⟩ : ∃ x, x = wr := ⟨_, rfl⟩
 subst hwo
 rcases hk3 with ⟨rfl, rfl⟩ | ⟨rfl, rfl⟩ | ⟨rfl, rfl⟩
 ·skip
  obtain ⟨W7, e7, HB7, HR1⟩ : ∃ W7, wo.alloc (.cells #[.slice A1 b.doms.length c1, .slice A2 b.tabs.length c2] 38) = W7 /\ Hid (Bw wo W7) /\ Hid (W7.cell? (zn wo.heap.size 1) = some (.slice A2 b.tabs.length c2)) := ⟨_, rfl, L0 bA, L0 (L0b _ _ _ _)⟩; have r0 := ac0 e7
  have HSO : Hid (sb < wo.heap.size) := L0 (L0c HSB.o.2 (L0h HB4.o.size HWo.o.hg.size))
  have HWB7 : Hid (Wrote sb o W2 W7) := L0 (HWo.o.trans (.below HB7.o HSO.o))
  have HX7 := L0 (Tn.grow HXo.o HB7.o)
  have HW7 : Hid (Wrote sb o W7 W7) := L0 (.refl _ _ _)
  have HLB : Hid (rd.length + b.doms.length + b.tabs.length < 1000000000000) := L0 (by have h1 := HLo.o; have h2 := HLEN.o; simp only [Z0n, L0i, L1h, L3e, L3o, L0v] at *; omega)
  go_wp2
  clear r0 e7
  go_loopw [54] (fun si wi => ∃ (j : Nat) (r2 : List Txt), si = .int .i64 j /\ j <= b.doms.length /\ Hid (SesAt wi sb o (Tn T W wi) { x with read := r2 }) /\ Hid (Wrote sb o W7 wi) /\ Hid (r2 = ((b.doms.take j).map (·.name)).foldl addN rd) /\ Hid (r2.length <= rd.length + j)) (fun si _ => b.doms.length - (intOf si).toNat)
  exact ⟨0, _, by go_num, L0o _, HX7, HW7, L0 rfl, L0 (L0g _)⟩
  clear HX7 HW7
  obtain ⟨j, r2, rfl, hj, HXi, HWi, HOi, HLi⟩ := hrel
  obtain ⟨wi, hwi⟩ : ∃ x, x = wr := ⟨_, rfl⟩
  subst hwi
  by_cases hlt : j < b.doms.length
  ·have hjk : (j : Int) < b.doms.length := by omega
   have HW2i : Hid (Wrote sb o W2 wi) := L0 (HWB7.o.trans HWi.o)
   have HEE := L0 (HE1.o.keep (HW2i.o.keeps HNS.o))
   obtain ⟨b1, o1, y, hA1, hb1, hx, hyb, g0, g1, g2⟩ := (HEE.o).dm hlt
   subst hA1
   have hnm : y.name.length <= 140737488355328 := hyb.1
   obtain ⟨W9, e9, HB9, hs9⟩ : ∃ W9, wi.alloc (.cells #[sq y.name, .int .i64 y.lo, .int .i64 y.hi] 63) = W9 /\ Hid (Bw wi W9.drew) /\ Hid (wi.heap.size < W9.heap.size) := ⟨_, rfl, L0 (bA.trans ⟨rfl, rfl, rfl, L0g _, fun _ _ => rfl⟩), L0 (by simp)⟩; have m0 := ac0 e9
   have HX := L0 hx
   have HNM := L0 hnm
   have HX9 : Hid (SesAt W9.drew sb o (Tn T W W9.drew) { x with read := r2 }) := L0 (Tn.grow HXi.o HB9.o)
   have HWW : Hid (W.heap.size <= wi.heap.size) := L0 (L0h HB4.o.size HW2i.o.hg.size)
   have HW9 : Hid (W.heap.size <= W9.drew.heap.size) := L0 (L0h HWW.o HB9.o.size)
   have HSI : Hid (sb < wi.heap.size) := L0 (L0c HSB.o.2 HWW.o)
   have HF9 : Hid (∀ q, W9.drew.frozen? (zn sb q) = false) := L0 fun q => (HB9.o.fr q HSI.o).trans ((HW2i.o.frz q).trans (HF2.o q))
   obtain ⟨R9, rc9, g6, hu9⟩ := HX9.o.readOut
   have g6' : W9.cell? (zn sb (o + 6)) = some (.slice R9 r2.length rc9) := g6
   have f6 : W9.drew.frozen? (zn sb (o + 6)) = false := HF9.o _
   have HU9 := L0 hu9
   have HLq : Hid (r2.length < 1000000000000) := L0 (by have := HLi.o; have := HLB.o; omega)
   clear hx hyb hnm hb1 hu9 g6
   go_upto_region 9 with fail
   go_region_law (first
    | ((go_simp; go_at_call 36; (with_reducible refine (Z2g y.name W9.drew HU9.o HNM.o HLq.o (fun _ h => Tn.lt h)).mono ?_); rintro e w4 ⟨u4, rfl, hr4, hb4⟩; obtain ⟨A6, k6, rfl, _⟩ := rSl.elems hr4; obtain ⟨W5, e5, HX5, HWR5, af6, a6⟩ := Z6b (w := W) (W := W9.drew) HX9.o HSB.o HF9.o HW9.o hr4 hb4; obtain ⟨y6, a6⟩ := a6; clear hr4 hb4)))
   all_goals
    go_wp2
    go_roundw
    case rel =>
     refine ⟨j + 1, _, by go_num, hlt, HX5, L0 ((HWi.o.trans (.below HB9.o HSI.o)).trans HWR5.o), L0 ?_, L0 ?_⟩
     ·rw [Z0c HX.o, L1z, L1e, <- HOi.o]
      rfl
     exact L0h (Z1c r2 y.name) (by have := HLi.o; omega)
    simp [intOf]; omega
  have hjk : ¬ (j : Int) < b.doms.length := by omega
  have HOF : Hid (r2 = (b.doms.map (·.name)).foldl addN rd) := L0 (by rw [HOi.o, L0l (by omega)])
  have HLF : Hid (r2.length <= rd.length + b.doms.length) := L0 (by have := HLi.o; omega)
  clear HOi HLi hlt hj
  have r1 := HWi.o.hg.cell HR1.o (show some wo.heap.size ≠ some sb from fun e => by injection e with e; have := HSO.o; omega)
  obtain ⟨re, hre⟩ : ∃ x, x = r2 := ⟨_, rfl⟩
  subst hre
  have HOD := HOF
  have HLD := HLF
  have HX7 := HXi
  have HW7 := HWi
  replace HLB : Hid (re.length + b.tabs.length < 1000000000000) := L0 (by have := HLB.o; have := HLF.o; omega)
  clear HOF HLF HXi HWi
  go_wp2
  clear r1 hjk
  go_loopw [72] (fun si wi => ∃ (j : Nat) (r2 : List Txt), si = .int .i64 j /\ j <= b.tabs.length /\ Hid (SesAt wi sb o (Tn T W wi) { x with read := r2 }) /\ Hid (Wrote sb o W7 wi) /\ Hid (r2 = ((b.tabs.take j).map (·.name)).foldl addN re) /\ Hid (r2.length <= re.length + j)) (fun si _ => b.tabs.length - (intOf si).toNat)
  exact ⟨0, _, by go_num, L0o _, HX7, HW7, L0 rfl, L0 (L0g _)⟩
  clear HX7 HW7
  obtain ⟨j, r2, rfl, hj, HXi, HWi, HOi, HLi⟩ := hrel
  obtain ⟨wi, hwi⟩ : ∃ x, x = wr := ⟨_, rfl⟩
  subst hwi
  by_cases hlt : j < b.tabs.length
  ·have hjk : (j : Int) < b.tabs.length := by omega
   have HW2i : Hid (Wrote sb o W2 wi) := L0 (HWB7.o.trans HWi.o)
   have HEE := L0 (HE2.o.keep (HW2i.o.keeps HNS.o))
   obtain ⟨b1, o1, y, B1, d1, B2, d2, hA1, hb1, hx, hrl, g0, g1, g2, g3, g4⟩ := (HEE.o).tb hlt
   subst hA1
   have hnm : y.name.length <= 140737488355328 := by obtain ⟨_, _, _, h, _⟩ := hrl; exact h
   obtain ⟨W9, e9, HB9, hs9⟩ : ∃ W9, wi.alloc (.cells #[sq y.name, .int .i64 y.pol, .bool y.comp, .slice B1 y.ins.length d1, .slice B2 y.rules.length d2] 66) = W9 /\ Hid (Bw wi W9.drew) /\ Hid (wi.heap.size < W9.heap.size) := ⟨_, rfl, L0 (bA.trans ⟨rfl, rfl, rfl, L0g _, fun _ _ => rfl⟩), L0 (by simp)⟩; have m0 := ac0 e9
   have HX := L0 hx
   have HNM := L0 hnm
   have HX9 : Hid (SesAt W9.drew sb o (Tn T W W9.drew) { x with read := r2 }) := L0 (Tn.grow HXi.o HB9.o)
   have HWW : Hid (W.heap.size <= wi.heap.size) := L0 (L0h HB4.o.size HW2i.o.hg.size)
   have HW9 : Hid (W.heap.size <= W9.drew.heap.size) := L0 (L0h HWW.o HB9.o.size)
   have HSI : Hid (sb < wi.heap.size) := L0 (L0c HSB.o.2 HWW.o)
   have HF9 : Hid (∀ q, W9.drew.frozen? (zn sb q) = false) := L0 fun q => (HB9.o.fr q HSI.o).trans ((HW2i.o.frz q).trans (HF2.o q))
   obtain ⟨R9, rc9, g6, hu9⟩ := HX9.o.readOut
   have g6' : W9.cell? (zn sb (o + 6)) = some (.slice R9 r2.length rc9) := g6
   have f6 : W9.drew.frozen? (zn sb (o + 6)) = false := HF9.o _
   have HU9 := L0 hu9
   have HLq : Hid (r2.length < 1000000000000) := L0 (by have := HLi.o; have := HLB.o; omega)
   clear hx hrl hnm hb1 hu9 g6
   go_upto_region 14 with fail
   go_region_law (first
    | ((go_simp; go_at_call 36; (with_reducible refine (Z2g y.name W9.drew HU9.o HNM.o HLq.o (fun _ h => Tn.lt h)).mono ?_); rintro e w4 ⟨u4, rfl, hr4, hb4⟩; obtain ⟨A6, k6, rfl, _⟩ := rSl.elems hr4; obtain ⟨W5, e5, HX5, HWR5, af6, a6⟩ := Z6b (w := W) (W := W9.drew) HX9.o HSB.o HF9.o HW9.o hr4 hb4; obtain ⟨y6, a6⟩ := a6; clear hr4 hb4)))
   all_goals
    go_wp2
    go_roundw
    case rel =>
     refine ⟨j + 1, _, by go_num, hlt, HX5, L0 ((HWi.o.trans (.below HB9.o HSI.o)).trans HWR5.o), L0 ?_, L0 ?_⟩
     ·rw [Z0c HX.o, L1z, L1e, <- HOi.o]
      rfl
     exact L0h (Z1c r2 y.name) (by have := HLi.o; omega)
    simp [intOf]; omega
  have hjk : ¬ (j : Int) < b.tabs.length := by omega
  have HOF : Hid (r2 = (b.tabs.map (·.name)).foldl addN re) := L0 (by rw [HOi.o, L0l (by omega)])
  have HLF : Hid (r2.length <= re.length + b.tabs.length) := L0 (by have := HLi.o; omega)
  clear HOi HLi hlt hj
  go_wp2
  go_roundw
  case rel =>
   refine ⟨1, _, .inr (.inl ⟨rfl, by go_num⟩), HXi, L0 (HWB7.o.trans HWi.o), L0 ?_, L0 ?_⟩
   ·rw [HOF.o, HOD.o, HO0.o]
    simp [Z0n, jA]
   have h1 := HLF.o; have h2 := HLD.o; have h3 := HLo.o
   simp only [Z0n, L0i, L1h, L3r, L3e, L2u, L3o, L0v] at *
   omega
  simp [intOf]
 ·skip
  obtain ⟨W7, e7, HB7, HR1⟩ : ∃ W7, wo.alloc (.cells #[.slice A3 v.doms.length c3, .slice A4 v.tabs.length c4] 38) = W7 /\ Hid (Bw wo W7) /\ Hid (W7.cell? (zn wo.heap.size 1) = some (.slice A4 v.tabs.length c4)) := ⟨_, rfl, L0 bA, L0 (L0b _ _ _ _)⟩; have r0 := ac0 e7
  have HSO : Hid (sb < wo.heap.size) := L0 (L0c HSB.o.2 (L0h HB4.o.size HWo.o.hg.size))
  have HWB7 : Hid (Wrote sb o W2 W7) := L0 (HWo.o.trans (.below HB7.o HSO.o))
  have HX7 := L0 (Tn.grow HXo.o HB7.o)
  have HW7 : Hid (Wrote sb o W7 W7) := L0 (.refl _ _ _)
  have HLB : Hid (rd.length + v.doms.length + v.tabs.length < 1000000000000) := L0 (by have h1 := HLo.o; have h2 := HLEN.o; simp only [Z0n, L0i, L1h, L3r, L3e, L2u, L3o, L0v] at *; omega)
  go_wp2
  clear r0 e7
  go_loopw [54] (fun si wi => ∃ (j : Nat) (r2 : List Txt), si = .int .i64 j /\ j <= v.doms.length /\ Hid (SesAt wi sb o (Tn T W wi) { x with read := r2 }) /\ Hid (Wrote sb o W7 wi) /\ Hid (r2 = ((v.doms.take j).map (·.name)).foldl addN rd) /\ Hid (r2.length <= rd.length + j)) (fun si _ => v.doms.length - (intOf si).toNat)
  exact ⟨0, _, by go_num, L0o _, HX7, HW7, L0 rfl, L0 (L0g _)⟩
  clear HX7 HW7
  obtain ⟨j, r2, rfl, hj, HXi, HWi, HOi, HLi⟩ := hrel
  obtain ⟨wi, hwi⟩ : ∃ x, x = wr := ⟨_, rfl⟩
  subst hwi
  by_cases hlt : j < v.doms.length
  ·have hjk : (j : Int) < v.doms.length := by omega
   have HW2i : Hid (Wrote sb o W2 wi) := L0 (HWB7.o.trans HWi.o)
   have HEE := L0 (HE3.o.keep (HW2i.o.keeps HNS.o))
   obtain ⟨b1, o1, y, hA1, hb1, hx, hyb, g0, g1, g2⟩ := (HEE.o).dm hlt
   subst hA1
   have hnm : y.name.length <= 140737488355328 := hyb.1
   obtain ⟨W9, e9, HB9, hs9⟩ : ∃ W9, wi.alloc (.cells #[sq y.name, .int .i64 y.lo, .int .i64 y.hi] 63) = W9 /\ Hid (Bw wi W9.drew) /\ Hid (wi.heap.size < W9.heap.size) := ⟨_, rfl, L0 (bA.trans ⟨rfl, rfl, rfl, L0g _, fun _ _ => rfl⟩), L0 (by simp)⟩; have m0 := ac0 e9
   have HX := L0 hx
   have HNM := L0 hnm
   have HX9 : Hid (SesAt W9.drew sb o (Tn T W W9.drew) { x with read := r2 }) := L0 (Tn.grow HXi.o HB9.o)
   have HWW : Hid (W.heap.size <= wi.heap.size) := L0 (L0h HB4.o.size HW2i.o.hg.size)
   have HW9 : Hid (W.heap.size <= W9.drew.heap.size) := L0 (L0h HWW.o HB9.o.size)
   have HSI : Hid (sb < wi.heap.size) := L0 (L0c HSB.o.2 HWW.o)
   have HF9 : Hid (∀ q, W9.drew.frozen? (zn sb q) = false) := L0 fun q => (HB9.o.fr q HSI.o).trans ((HW2i.o.frz q).trans (HF2.o q))
   obtain ⟨R9, rc9, g6, hu9⟩ := HX9.o.readOut
   have g6' : W9.cell? (zn sb (o + 6)) = some (.slice R9 r2.length rc9) := g6
   have f6 : W9.drew.frozen? (zn sb (o + 6)) = false := HF9.o _
   have HU9 := L0 hu9
   have HLq : Hid (r2.length < 1000000000000) := L0 (by have := HLi.o; have := HLB.o; omega)
   clear hx hyb hnm hb1 hu9 g6
   go_upto_region 9 with fail
   go_region_law (first
    | ((go_simp; go_at_call 36; (with_reducible refine (Z2g y.name W9.drew HU9.o HNM.o HLq.o (fun _ h => Tn.lt h)).mono ?_); rintro e w4 ⟨u4, rfl, hr4, hb4⟩; obtain ⟨A6, k6, rfl, _⟩ := rSl.elems hr4; obtain ⟨W5, e5, HX5, HWR5, af6, a6⟩ := Z6b (w := W) (W := W9.drew) HX9.o HSB.o HF9.o HW9.o hr4 hb4; obtain ⟨y6, a6⟩ := a6; clear hr4 hb4)))
   all_goals
    go_wp2
    go_roundw
    case rel =>
     refine ⟨j + 1, _, by go_num, hlt, HX5, L0 ((HWi.o.trans (.below HB9.o HSI.o)).trans HWR5.o), L0 ?_, L0 ?_⟩
     ·rw [Z0c HX.o, L1z, L1e, <- HOi.o]
      rfl
     exact L0h (Z1c r2 y.name) (by have := HLi.o; omega)
    simp [intOf]; omega
  have hjk : ¬ (j : Int) < v.doms.length := by omega
  have HOF : Hid (r2 = (v.doms.map (·.name)).foldl addN rd) := L0 (by rw [HOi.o, L0l (by omega)])
  have HLF : Hid (r2.length <= rd.length + v.doms.length) := L0 (by have := HLi.o; omega)
  clear HOi HLi hlt hj
  have r1 := HWi.o.hg.cell HR1.o (show some wo.heap.size ≠ some sb from fun e => by injection e with e; have := HSO.o; omega)
  obtain ⟨re, hre⟩ : ∃ x, x = r2 := ⟨_, rfl⟩
  subst hre
  have HOD := HOF
  have HLD := HLF
  have HX7 := HXi
  have HW7 := HWi
  replace HLB : Hid (re.length + v.tabs.length < 1000000000000) := L0 (by have := HLB.o; have := HLF.o; omega)
  clear HOF HLF HXi HWi
  go_wp2
  clear r1 hjk
  go_loopw [72] (fun si wi => ∃ (j : Nat) (r2 : List Txt), si = .int .i64 j /\ j <= v.tabs.length /\ Hid (SesAt wi sb o (Tn T W wi) { x with read := r2 }) /\ Hid (Wrote sb o W7 wi) /\ Hid (r2 = ((v.tabs.take j).map (·.name)).foldl addN re) /\ Hid (r2.length <= re.length + j)) (fun si _ => v.tabs.length - (intOf si).toNat)
  exact ⟨0, _, by go_num, L0o _, HX7, HW7, L0 rfl, L0 (L0g _)⟩
  clear HX7 HW7
  obtain ⟨j, r2, rfl, hj, HXi, HWi, HOi, HLi⟩ := hrel
  obtain ⟨wi, hwi⟩ : ∃ x, x = wr := ⟨_, rfl⟩
  subst hwi
  by_cases hlt : j < v.tabs.length
  ·have hjk : (j : Int) < v.tabs.length := by omega
   have HW2i : Hid (Wrote sb o W2 wi) := L0 (HWB7.o.trans HWi.o)
   have HEE := L0 (HE4.o.keep (HW2i.o.keeps HNS.o))
   obtain ⟨b1, o1, y, B1, d1, B2, d2, hA1, hb1, hx, hrl, g0, g1, g2, g3, g4⟩ := (HEE.o).tb hlt
   subst hA1
   have hnm : y.name.length <= 140737488355328 := by obtain ⟨_, _, _, h, _⟩ := hrl; exact h
   obtain ⟨W9, e9, HB9, hs9⟩ : ∃ W9, wi.alloc (.cells #[sq y.name, .int .i64 y.pol, .bool y.comp, .slice B1 y.ins.length d1, .slice B2 y.rules.length d2] 66) = W9 /\ Hid (Bw wi W9.drew) /\ Hid (wi.heap.size < W9.heap.size) := ⟨_, rfl, L0 (bA.trans ⟨rfl, rfl, rfl, L0g _, fun _ _ => rfl⟩), L0 (by simp)⟩; have m0 := ac0 e9
   have HX := L0 hx
   have HNM := L0 hnm
   have HX9 : Hid (SesAt W9.drew sb o (Tn T W W9.drew) { x with read := r2 }) := L0 (Tn.grow HXi.o HB9.o)
   have HWW : Hid (W.heap.size <= wi.heap.size) := L0 (L0h HB4.o.size HW2i.o.hg.size)
   have HW9 : Hid (W.heap.size <= W9.drew.heap.size) := L0 (L0h HWW.o HB9.o.size)
   have HSI : Hid (sb < wi.heap.size) := L0 (L0c HSB.o.2 HWW.o)
   have HF9 : Hid (∀ q, W9.drew.frozen? (zn sb q) = false) := L0 fun q => (HB9.o.fr q HSI.o).trans ((HW2i.o.frz q).trans (HF2.o q))
   obtain ⟨R9, rc9, g6, hu9⟩ := HX9.o.readOut
   have g6' : W9.cell? (zn sb (o + 6)) = some (.slice R9 r2.length rc9) := g6
   have f6 : W9.drew.frozen? (zn sb (o + 6)) = false := HF9.o _
   have HU9 := L0 hu9
   have HLq : Hid (r2.length < 1000000000000) := L0 (by have := HLi.o; have := HLB.o; omega)
   clear hx hrl hnm hb1 hu9 g6
   go_upto_region 14 with fail
   go_region_law (first
    | ((go_simp; go_at_call 36; (with_reducible refine (Z2g y.name W9.drew HU9.o HNM.o HLq.o (fun _ h => Tn.lt h)).mono ?_); rintro e w4 ⟨u4, rfl, hr4, hb4⟩; obtain ⟨A6, k6, rfl, _⟩ := rSl.elems hr4; obtain ⟨W5, e5, HX5, HWR5, af6, a6⟩ := Z6b (w := W) (W := W9.drew) HX9.o HSB.o HF9.o HW9.o hr4 hb4; obtain ⟨y6, a6⟩ := a6; clear hr4 hb4)))
   all_goals
    go_wp2
    go_roundw
    case rel =>
     refine ⟨j + 1, _, by go_num, hlt, HX5, L0 ((HWi.o.trans (.below HB9.o HSI.o)).trans HWR5.o), L0 ?_, L0 ?_⟩
     ·rw [Z0c HX.o, L1z, L1e, <- HOi.o]
      rfl
     exact L0h (Z1c r2 y.name) (by have := HLi.o; omega)
    simp [intOf]; omega
  have hjk : ¬ (j : Int) < v.tabs.length := by omega
  have HOF : Hid (r2 = (v.tabs.map (·.name)).foldl addN re) := L0 (by rw [HOi.o, L0l (by omega)])
  have HLF : Hid (r2.length <= re.length + v.tabs.length) := L0 (by have := HLi.o; omega)
  clear HOi HLi hlt hj
  go_wp2
  go_roundw
  case rel =>
   refine ⟨2, _, .inr (.inr ⟨rfl, by go_num⟩), HXi, L0 (HWB7.o.trans HWi.o), L0 ?_, L0 ?_⟩
   ·rw [HOF.o, HOD.o, HO0.o]
    simp [Z0n, jA]
   have h1 := HLF.o; have h2 := HLD.o; have h3 := HLo.o
   simp only [Z0n, L0i, L1h, L3r, L3e, L2u, L3o, L0v] at *
   omega
  simp [intOf]
 have HRDF : Hid (rd = Z1y v (Z1y b x.read)) := L0 (by rw [HO0.o]; simp [Z1y, jA])
 have HWT : Hid (Wrote sb o W wo) := L0 ((Wrote.below HB4.o HSB.o.2).trans HWo.o)
 have HWT2 := HWo
 obtain ⟨D9, dc9, B9, bc9, G9, gc9, R9, rc9, hr9, x0, x1, x2, x3, x4, x5, x6⟩ := HXo.o.out
 have HLq : Hid (rd.length < 1000000000000) := L0 (by have h1 := HLo.o; have h2 := HLEN.o; simp only [L0i, L3r, L3e, L2u, L3o, L0v] at h1; omega)
 clear x0 x2 x3 x4 x5 hr9 HO0 HLo
 simp only at x1 x6
 cases hst : x.strict
 ·have HST := L0 hst
  rw [hst] at x1
  clear hst x6
  have HRE : Hid ((if x.strict = true then addN (Z1y v (Z1y b x.read)) [] else Z1y v (Z1y b x.read)) = rd) := L0 (by rw [HST.o]; exact HRDF.o.symm)
  obtain ⟨d0, d1, d2, d3, d4, z0, z1, z2, z3, z4⟩ := HKQ.o _ HWT.o
  by_cases her : er = 0
  ·subst her
   have HASK : Hid (askS b x ns = (⟨0, 0, [], l, []⟩, { x with read := rd })) := L0 (by unfold askS; rw [HV.o, HAK.o, HRE.o]; rfl)
   obtain ⟨W6, e6, HG6, r0, r1, r2', r3, r4⟩ := Z1r (.int .i64 0) (.int .i64 0) (.string ⟨#[]⟩) (.slice Ak l.length ck) (nl) d0 d1 d2 d3 d4
   go_wp2
   refine bodyPost_ret (by simp [results, Tryz.results37, go_sem, r0, r1, r2', r3, r4]; rfl) rfl ?_
   refine ⟨[.int .i64 0, .int .i64 0, .string ⟨#[]⟩, .slice Ak l.length ck, nl], rfl, ?_, ?_, ?_⟩
   ·rw [HASK.o]
    exact Y8m HKR.o (L0h HB2.o.size HBC.o.size) HBCS.o HWT2.o HSBC.o HG6.o (by have := HZ.o; have := HB2.o.size; omega) (by have := HZ.o; have := HB2.o.size; omega)
   ·rw [HASK.o]
    exact Y1x HXo.o HSB.o HZ.o (fun q h => HT.o q h) HG6.o HSL.o
   exact ((Wrote.below HB.o HSL.o).trans HWT.o).new HG6.o (L0g _) HSL.o
  have HASK : Hid (askS b x ns = (noR er, { x with read := rd })) := L0 (by unfold askS; rw [HV.o, HAK.o, HRE.o]; simp only [ne_eq, her, not_false_eq_true, if_true])
  have hq1 : (er != 0) = true := bne_iff_ne.2 her
  have HER : Hid (InI er) := L0 (by have := Y8k v ns; rw [HAK.o] at this; exact this)
  obtain ⟨W6, e6, HG6, r0, r1, r2', r3, r4⟩ := Z1r (.int .i64 er) (.int .i64 0) (.string ⟨#[]⟩) (nl) (nl) d0 d1 d2 d3 d4
  go_wp2
  refine bodyPost_ret (by simp [results, Tryz.results37, go_sem, r0, r1, r2', r3, r4]; rfl) rfl ?_
  refine ⟨[.int .i64 er, .int .i64 0, .string ⟨#[]⟩, nl, nl], rfl, ?_, ?_, ?_⟩
  ·rw [HASK.o]
   exact Z2q HER.o (by unfold InI; omega) (by simp)
  ·rw [HASK.o]
   exact Y1x HXo.o HSB.o HZ.o (fun q h => HT.o q h) HG6.o HSL.o
  exact ((Wrote.below HB.o HSL.o).trans HWT.o).new HG6.o (L0g _) HSL.o
 have HST := L0 hst
 rw [hst] at x1
 clear hst
 have hfo : ∀ q, wo.frozen? (zn sb q) = false := fun q => (HWo.o.frz q).trans (HF2.o q)
 have f6 := hfo (o + 6)
 have HFO := L0 hfo
 have HWO : Hid (W.heap.size <= wo.heap.size) := L0 (L0h HB4.o.size HWo.o.hg.size)
 obtain ⟨R9', rc9', g6, hu9⟩ := HXo.o.readOut
 rw [x6] at g6
 simp only [L3j, Value.slice.injEq] at g6
 obtain ⟨rfl, _, rfl⟩ := g6
 have HAD : Hid (Calls Tryz.prog 36 #[.slice R9 rd.length rc9, .string ⟨#[]⟩] wo fun e w' => ∃ u, e = .returned u /\ (rSl rStr).rel w' (Up (Tn T W wo) wo.heap.size) [u] (addN rd []) /\ Bw wo w') := L0 (Z2g [] wo hu9 (by simp) HLq.o (fun _ h => Tn.lt h))
 clear hfo hu9
 go_upto_region 19 with (first
  | (go_at_call 36; (with_reducible refine HAD.o.mono ?_); rintro e w4 ⟨u4, rfl, hr4, hb4⟩; obtain ⟨A6, k6, rfl, _⟩ := rSl.elems hr4; obtain ⟨W5, e5, HX5, HWR5, af6, a6⟩ := Z6b (w := W) (W := wo) HXo.o HSB.o HFO.o HWO.o hr4 hb4; obtain ⟨y6, a6⟩ := a6; clear hr4 hb4))
 have HRE : Hid ((if x.strict = true then addN (Z1y v (Z1y b x.read)) [] else Z1y v (Z1y b x.read)) = addN rd []) := L0 (by rw [HST.o, <- HRDF.o]; rfl)
 have HWS : Hid (Wrote sb o W W5) := L0 (HWT.o.trans HWR5.o)
 have HWS2 : Hid (Wrote sb o W2 W5) := L0 (HWo.o.trans HWR5.o)
 clear x1 x6 f6 af6 a6 e5
 obtain ⟨d0, d1, d2, d3, d4, z0, z1, z2, z3, z4⟩ := HKQ.o _ HWS.o
 by_cases her : er = 0
 ·subst her
  have HASK : Hid (askS b x ns = (⟨0, 0, [], l, []⟩, { x with read := (addN rd []) })) := L0 (by unfold askS; rw [HV.o, HAK.o, HRE.o]; rfl)
  obtain ⟨W6, e6, HG6, r0, r1, r2', r3, r4⟩ := Z1r (.int .i64 0) (.int .i64 0) (.string ⟨#[]⟩) (.slice Ak l.length ck) (nl) d0 d1 d2 d3 d4
  go_wp2
  refine bodyPost_ret (by simp [results, Tryz.results37, go_sem, r0, r1, r2', r3, r4]; rfl) rfl ?_
  refine ⟨[.int .i64 0, .int .i64 0, .string ⟨#[]⟩, .slice Ak l.length ck, nl], rfl, ?_, ?_, ?_⟩
  ·rw [HASK.o]
   exact Y8m HKR.o (L0h HB2.o.size HBC.o.size) HBCS.o HWS2.o HSBC.o HG6.o (by have := HZ.o; have := HB2.o.size; omega) (by have := HZ.o; have := HB2.o.size; omega)
  ·rw [HASK.o]
   exact Y1x HX5.o HSB.o HZ.o (fun q h => HT.o q h) HG6.o HSL.o
  exact ((Wrote.below HB.o HSL.o).trans HWS.o).new HG6.o (L0g _) HSL.o
 have HASK : Hid (askS b x ns = (noR er, { x with read := (addN rd []) })) := L0 (by unfold askS; rw [HV.o, HAK.o, HRE.o]; simp only [ne_eq, her, not_false_eq_true, if_true])
 have hq1 : (er != 0) = true := bne_iff_ne.2 her
 have HER : Hid (InI er) := L0 (by have := Y8k v ns; rw [HAK.o] at this; exact this)
 obtain ⟨W6, e6, HG6, r0, r1, r2', r3, r4⟩ := Z1r (.int .i64 er) (.int .i64 0) (.string ⟨#[]⟩) (nl) (nl) d0 d1 d2 d3 d4
 go_wp2
 refine bodyPost_ret (by simp [results, Tryz.results37, go_sem, r0, r1, r2', r3, r4]; rfl) rfl ?_
 refine ⟨[.int .i64 er, .int .i64 0, .string ⟨#[]⟩, nl, nl], rfl, ?_, ?_, ?_⟩
 ·rw [HASK.o]
  exact Z2q HER.o (by unfold InI; omega) (by simp)
 ·rw [HASK.o]
  exact Y1x HX5.o HSB.o HZ.o (fun q h => HT.o q h) HG6.o HSL.o
 exact ((Wrote.below HB.o HSL.o).trans HWS.o).new HG6.o (L0g _) HSL.o
