import Derived.Test.YtlopccnehgolnacGreatDoorGK47
import Derived.Test.YtlopccnehgolnacGreatDoorSess
import Derived.Test.YtlopccnehgolnacGreatDoorGK31
import Derived.Test.YtlopccnehgolnacGreatDoorGK41
namespace Go.Proofs.YtlopccnehgolnacGreatDoor
open Go.RowKit Rb
open Rd renaming below -> jA
set_option maxRecDepth 100000
set_option maxHeartbeats 6400000
structure At (w0 w : World) (sb : Nat) (C T : Nat -> Prop) (st : Sto) : Prop where
 sto : StoAt w sb C T st
 bl : Below w0.heap.size w0 w
 cn : ∀ q, C q -> w0.heap.size <= q
 tn : ∀ q, T q -> w0.heap.size <= q
 lib : LibC C w
 ok : SGood st
theorem At.below {w0 w w' : World} {sb : Nat} {C T : Nat -> Prop} {st : Sto} (h : At w0 w sb C T st) (hb : Below w.heap.size w w') : At w0 w' sb C T st :=
 ⟨h.sto.below hb, h.bl.trans (hb.mono h.bl.size), h.cn, h.tn, h.lib.below hb, h.ok⟩
theorem At.act {w0 w : World} {sb : Nat} {C T I : Nat -> Prop} {st : Sto} {a : Acn} {as' : List Value} (h : At w0 w sb C T st) (ha : rAcn.rel w I as' a) (hI : ∀ q, I q -> q < w.heap.size /\ ¬ C q) :
  Calls Tryz.prog 11 #[.pointer (some ⟨sb, 0, none⟩), .agg as'.toArray] w fun e w' => ∃ A c B d C' T', e = .returned (.agg #[.int .i64 (doS st a).1.code, .int .i64 (doS st a).1.n, .string ⟨(doS st a).1.text.toArray⟩, .slice A (doS st a).1.ans.length c, .slice B (doS st a).1.at'.length d]) /\
   rRep.rel w' (fun q => w.heap.size <= q /\ ¬ C' q /\ q < w'.heap.size) [.int .i64 (doS st a).1.code, .int .i64 (doS st a).1.n, .string ⟨(doS st a).1.text.toArray⟩, .slice A (doS st a).1.ans.length c, .slice B (doS st a).1.at'.length d] (doS st a).1 /\ At w0 w' sb C' T' (doS st a).2 /\ Chg C w w' /\ (∀ q, C' q -> C q \/ w.heap.size <= q) /\ ∀ q, T' q -> T q \/ w.heap.size <= q := by
 refine (X01 w h.sto ha hI h.ok.ok h.lib).mono ?_
 rintro e w' ⟨rs, C', T', rfl, hr, hs, hc, hC, hT⟩
 obtain ⟨A, c, B, d, rfl⟩ := Z6g hr
 have hz := h.bl.size
 exact ⟨A, c, B, d, C', T', rfl, hr, ⟨hs, h.bl.trans (hc.toBelow hz h.cn), fun q hq => (hC q hq).elim (h.cn q) fun h => by omega, fun q hq => (hT q hq).elim (h.tn q) fun h => by omega, h.lib.chg hc hC, h.ok.step a⟩, hc, hC, hT⟩
theorem At.new (w : World) (hl : LibW w) (hp : PolW w) : Calls Tryz.prog 26 #[] w fun e w' => ∃ sb C T, e = .returned (.pointer (some ⟨sb, 0, none⟩)) /\ At w w' sb C T sto0 := by
 refine (Y91 w).mono ?_
 rintro e w' ⟨rfl, hs, hb⟩
 refine ⟨_, _, _, rfl, hs, hb, fun q hq => by rcases hq with rfl | rfl <;> omega, fun q hq => hq.elim, fun w2 hc => ?_, SGood.start⟩
 have h2 : Below w.heap.size w w2 := hb.trans (hc.toBelow hb.size fun q hq => by rcases hq with rfl | rfl <;> omega)
 exact ⟨hl.below h2, hp.below h2⟩
theorem At.other {w0 w w' : World} {sb : Nat} {C T D : Nat -> Prop} {st : Sto} (h : At w0 w sb C T st) (hl : LibW w0) (hp : PolW w0) (hc : Chg D w w') (hb : Below w0.heap.size w0 w') (hd : ∀ q, D q -> ¬ C q /\ ¬ T q) : At w0 w' sb C T st :=
 ⟨h.sto.keep (hc.keeps fun b hb hD => hb.elim (hd b hD).2 (hd b hD).1) hc.size, hb, h.cn, h.tn, fun w'' h2 => by
  have h3 := hb.trans (h2.toBelow hb.size h.cn)
  exact ⟨hl.below h3, hp.below h3⟩, h.ok⟩
theorem At.lower {w w1 w2 : World} {sb : Nat} {C T : Nat -> Prop} {st : Sto} (h : At w1 w2 sb C T st) (hb : Below w.heap.size w w1) : At w w2 sb C T st :=
 ⟨h.sto, hb.trans (h.bl.mono hb.size), fun q hq => L0h hb.size (h.cn q hq), fun q hq => L0h hb.size (h.tn q hq), h.lib, h.ok⟩
theorem At.act_at {w0 w : World} {sb : Nat} {C T I : Nat -> Prop} {st st' : Sto} {a : Acn} {as' : List Value} {r : Rep} (hd : doS st a = (r, st')) (h : At w0 w sb C T st) (ha : rAcn.rel w I as' a) (hI : ∀ q, I q -> q < w.heap.size /\ ¬ C q) :
  Calls Tryz.prog 11 #[.pointer (some ⟨sb, 0, none⟩), .agg as'.toArray] w fun e w' => ∃ A c B d C' T', e = .returned (.agg #[.int .i64 r.code, .int .i64 r.n, .string ⟨r.text.toArray⟩, .slice A r.ans.length c, .slice B r.at'.length d]) /\
   rRep.rel w' (fun q => w.heap.size <= q /\ ¬ C' q /\ q < w'.heap.size) [.int .i64 r.code, .int .i64 r.n, .string ⟨r.text.toArray⟩, .slice A r.ans.length c, .slice B r.at'.length d] r /\ At w0 w' sb C' T' st' /\ Chg C w w' /\ (∀ q, C' q -> C q \/ w.heap.size <= q) /\ ∀ q, T' q -> T q \/ w.heap.size <= q := by
 have := h.act ha hI
 rw [hd] at this
 exact this
theorem Y2t (w : World) (kd n : Int) (nm tx : Txt) (h1 : InI kd) (h2 : InI n) (h3 : nm.length <= 140737488355328) (h4 : tx.length <= 140737488355328) : rAcn.rel w (fun _ => False) [.int .i64 kd, .int .i64 n, .string ⟨nm.toArray⟩, .string ⟨tx.toArray⟩, .slice none 0 0] ⟨kd, n, nm, tx, []⟩ :=
 ⟨_, rfl, h1, h2, h3, h4, Z1l _ _⟩
theorem box5 (w : World) (v0 v1 v2 v3 v4 : Value) : ∃ W, w.alloc (.cells #[v0, v1, v2, v3, v4] 30) = W /\ Hid (Below w.heap.size w W) /\ W.cell? ⟨w.heap.size, 0, none⟩ = some v0 /\ W.cell? ⟨w.heap.size, 1, none⟩ = some v1 /\ Hid (w.heap.size < W.heap.size) :=
 ⟨_, rfl, L0 bA, L0b _ _ _ _, L0b _ _ _ _, L0 (by simp)⟩
theorem Y5y (w : World) (hl : LibW w) (hp : PolW w) : Calls Tryz.prog 52 #[] w fun e w' => e = .returned (.bool true) /\ Below w.heap.size w w' := by
 obtain ⟨⟨r1, s1⟩, h1⟩ : ∃ z, doS sto0 Z6p = z := ⟨_, rfl⟩
 obtain ⟨⟨r2, s2⟩, h2⟩ : ∃ z, doS s1 Y1d = z := ⟨_, rfl⟩
 obtain ⟨⟨r3, s3⟩, h3⟩ : ∃ z, doS s2 Z5x = z := ⟨_, rfl⟩
 have k1 : r1.code = 0 := by have := Y4f; rw [h1] at this; rw [show r1 = _ from this]
 have k2 : r2.code = 0 := by have := Y5z; rw [h1, h2] at this; exact this
 have k3 : r3.code = 0 /\ r3.n = 1 /\ s3.states.length = 2 := by have := Y1e; rw [h1, h2, h3] at this; exact this
 obtain ⟨k3, k4, k5⟩ := k3
 have HH1 := L0 h1
 have HH2 := L0 h2
 have HH3 := L0 h3
 have HNEW := L0 (At.new w hl hp)
 clear h1 h2 h3 hl hp
 have HF : Hid (∀ (w : World) (C : Nat -> Prop) (q : Nat), False -> q < w.heap.size /\ ¬ C q) := L0 fun _ _ _ h => h.elim
 go_enter Tryz.func52, Tryz.ntmps52
 go_upto_region 4 with (first
  | (go_at_call 26; (with_reducible refine HNEW.out.mono ?_); rintro e w1 ⟨sb, C1, T1, rfl, hA1⟩; have HA1 := L0 hA1; clear hA1))
 go_upto_region 7 with (first
  | (go_at_call 11; first | (((refine Calls.mono (HA1.out.act_at HH1.out (Y2t w1 1 0 [] [] ⟨by decide, by decide⟩ ⟨by decide, by decide⟩ (by simp) (by simp)) (HF.out w1 C1)) ?_); rintro e v2 ⟨A2, c2, B2, d2, C2, T2, rfl, _, hA2, hc2, hC2, _⟩; obtain ⟨W2, e2, HB2, x2, y2, HS2⟩ := box5 v2 (.int .i64 0) (.int .i64 r1.n) (.string ⟨r1.text.toArray⟩) (.slice A2 r1.ans.length c2) (.slice B2 r1.at'.length d2); have HA2 := L0 (hA2.below HB2.out); have HW2 := L0 hA2.sto.cw; clear hA2 hc2 hC2)) | (((refine Calls.mono (HA2.out.act_at HH2.out (Y2t W2 2 0 [] [100, 111, 109, 97, 105, 110, 32, 97, 32, 49, 46, 46, 57] ⟨by decide, by decide⟩ ⟨by decide, by decide⟩ (by simp) (by simp)) (HF.out W2 C2)) ?_); rintro e v3 ⟨A3, c3, B3, d3, C3, T3, rfl, _, hA3, hc3, hC3, _⟩; obtain ⟨W3, e3, HB3, x3, y3, HS3⟩ := box5 v3 (.int .i64 0) (.int .i64 r2.n) (.string ⟨r2.text.toArray⟩) (.slice A3 r2.ans.length c3) (.slice B3 r2.at'.length d3); have HA3 := L0 (hA3.below HB3.out); have HW3 := L0 hA3.sto.cw; have x2b := (HB3.out.ce 0 (L0c HS2.out hc3.size)).trans ((L0y (a := ⟨v2.heap.size, 0, none⟩) (hc3.block v2.heap.size HS2.out (fun h => L2w _ (HW2.out _ h)))).trans x2); have HN3 : Hid (¬ C3 v2.heap.size) := L0 (fun h => by (rcases hC3 _ h with h | h; exact L2w _ (HW2.out _ h); (have := HS2.out; omega))); have HS3b : Hid (v2.heap.size < W3.heap.size) := L0 (L0f _ _ x2b); clear x2; clear hA3 hc3 hC3)) | (((refine Calls.mono (HA3.out.act_at HH3.out (Y2t W3 6 0 [] [] ⟨by decide, by decide⟩ ⟨by decide, by decide⟩ (by simp) (by simp)) (HF.out W3 C3)) ?_); rintro e v4 ⟨A4, c4, B4, d4, C4, T4, rfl, _, hA4, hc4, hC4, _⟩; obtain ⟨W4, e4, HB4, x4, y4, HS4⟩ := box5 v4 (.int .i64 0) (.int .i64 1) (.string ⟨r3.text.toArray⟩) (.slice A4 r3.ans.length c4) (.slice B4 r3.at'.length d4); have HA4 := L0 (hA4.below HB4.out); have x2c := (HB4.out.ce 0 (L0c HS3b.out hc4.size)).trans ((L0y (a := ⟨v2.heap.size, 0, none⟩) (hc4.block v2.heap.size HS3b.out HN3.out)).trans x2b); have x3b := (HB4.out.ce 0 (L0c HS3.out hc4.size)).trans ((L0y (a := ⟨v3.heap.size, 0, none⟩) (hc4.block v3.heap.size HS3.out (fun h => L2w _ (HW3.out _ h)))).trans x3); clear x2b x3; clear hA4 hc4 hC4))))
 have HST := L0 (Z6o W4 HA4.out.sto)
 have HK5 := L0 k5
 go_wp2_with (go_at_call 12; (with_reducible refine HST.out.mono ?_); rintro e w9 ⟨u9, rfl, ho9, hb9⟩; obtain ⟨A9, c9, e9⟩ := ho9.value; rw [HK5.out] at e9; subst e9; have HB9 := L0 hb9; clear ho9 hb9)
 go_ret
 exact ⟨rfl, HA4.out.bl.trans (HB9.out.mono HA4.out.bl.size)⟩
def Z6f (l : List Acn) (n : Nat) : Sto := (l.take n).foldl (fun s a => (doS s a).2) sto0
theorem Y3d {l : List Acn} {n : Nat} {a : Acn} (h : l[n]? = some a) : Z6f l (n + 1) = (doS (Z6f l n) a).2 := by
 unfold Z6f
 rw [Z0b h, L1c]
 rfl
theorem Elems.acn {w : World} {S : Nat -> Prop} {A : Option Addr} {l : List Acn} (h : Elems rAcn w S A l) {i : Nat} (hi : i < l.length) : ∃ b off a I c, A = some ⟨b, off, none⟩ /\ S b /\ b < w.heap.size /\ l[i]? = some a /\ rAcn.rel w S [.int .i64 a.kind, .int .i64 a.n, .string ⟨a.name.toArray⟩, .string ⟨a.text.toArray⟩, .slice I a.inp.length c] a /\
  w.cell? ⟨b, off + i * 5, none⟩ = some (.int .i64 a.kind) /\ w.cell? ⟨b, off + i * 5 + 1, none⟩ = some (.int .i64 a.n) /\ w.cell? ⟨b, off + i * 5 + 2, none⟩ = some (.string ⟨a.name.toArray⟩) /\ w.cell? ⟨b, off + i * 5 + 3, none⟩ = some (.string ⟨a.text.toArray⟩) /\ w.cell? ⟨b, off + i * 5 + 4, none⟩ = some (.slice I a.inp.length c) := by
 obtain ⟨b, off, es, hA, hS, hb, hr, hc⟩ := h i l[i] (L0e hi)
 have hr' := hr
 obtain ⟨u, rfl, _, _, _, _, hin⟩ := hr
 obtain ⟨I, c, rfl, _⟩ := rSl.elems hin
 exact ⟨b, off, l[i], I, c, hA, hS, hb, L0e hi, hr', hc 0 _ rfl, hc 1 _ rfl, hc 2 _ rfl, hc 3 _ rfl, hc 4 _ rfl⟩
theorem X1d {w v W : World} {q o : Nat} {u0 u1 u2 u3 u4 : Value} (h : v.heap[q]? = w.heap[q]?) (hq : q < v.heap.size) (hb : Below v.heap.size v W) (g0 : w.cell? ⟨q, o, none⟩ = some u0) (g1 : w.cell? ⟨q, o + 1, none⟩ = some u1) (g2 : w.cell? ⟨q, o + 2, none⟩ = some u2) (g3 : w.cell? ⟨q, o + 3, none⟩ = some u3) (g4 : w.cell? ⟨q, o + 4, none⟩ = some u4) :
  W.cell? ⟨q, o, none⟩ = some u0 /\ W.cell? ⟨q, o + 1, none⟩ = some u1 /\ W.cell? ⟨q, o + 2, none⟩ = some u2 /\ W.cell? ⟨q, o + 3, none⟩ = some u3 /\ W.cell? ⟨q, o + 4, none⟩ = some u4 := by
 have k : ∀ j, W.cell? ⟨q, j, none⟩ = w.cell? ⟨q, j, none⟩ := fun j => (hb.ce j hq).trans (L0y (a := ⟨q, j, none⟩) h)
 exact ⟨(k _).trans g0, (k _).trans g1, (k _).trans g2, (k _).trans g3, (k _).trans g4⟩
theorem X1z (w : World) (v0 v1 v2 v3 v4 : Value) : ∃ W, w.alloc (.cells #[v0, v1, v2, v3, v4] 30) = W /\ Hid (Below w.heap.size w W) /\ W.cell? ⟨w.heap.size, 0, none⟩ = some v0 /\ W.cell? ⟨w.heap.size, 1, none⟩ = some v1 /\ W.cell? ⟨w.heap.size, 2, none⟩ = some v2 /\ W.cell? ⟨w.heap.size, 3, none⟩ = some v3 /\ W.cell? ⟨w.heap.size, 4, none⟩ = some v4 /\ Hid (W.heap.size = w.heap.size + 1) :=
 ⟨_, rfl, L0 bA, L0b _ _ _ _, L0b _ _ _ _, L0b _ _ _ _, L0b _ _ _ _, L0b _ _ _ _, L0 (by simp)⟩
structure At2 (w0 w : World) (sb : Nat) (C T : Nat -> Prop) (st : Sto) (gb : Nat) (D U : Nat -> Prop) (sg : Sto) : Prop where
 s : At w0 w sb C T st
 g : At w0 w gb D U sg
 dj : ∀ q, C q \/ T q -> ¬ (D q \/ U q)
section
variable {w0 w w' w1 w2 : World} {sb gb : Nat} {C T D U I : Nat -> Prop} {st sg : Sto} {a : Acn} {as' : List Value}
theorem At2.below (h : At2 w0 w sb C T st gb D U sg) (hb : Below w.heap.size w w') : At2 w0 w' sb C T st gb D U sg := ⟨h.s.below hb, h.g.below hb, h.dj⟩
theorem At2.swap (h : At2 w0 w sb C T st gb D U sg) : At2 w0 w gb D U sg sb C T st := ⟨h.g, h.s, fun q hq hn => h.dj q hn hq⟩
theorem At2.start (h1 : At w w1 sb C T st) (h2 : At w1 w2 gb D U sg) : At2 w w2 sb C T st gb D U sg :=
 ⟨h1.below h2.bl, h2.lower h1.bl, fun q hq hn => by
  have h3 : q < w1.heap.size := hq.elim (h1.sto.cw q) (h1.sto.tw q)
  have h4 : w1.heap.size <= q := hn.elim (h2.cn q) (h2.tn q)
  omega⟩
theorem At2.act {st' : Sto} {r : Rep} (hd : doS st a = (r, st')) (h : At2 w0 w sb C T st gb D U sg) (hl : LibW w0) (hp : PolW w0) (ha : rAcn.rel w I as' a) (hI : ∀ q, I q -> q < w.heap.size /\ ¬ C q) :
  Calls Tryz.prog 11 #[.pointer (some ⟨sb, 0, none⟩), .agg as'.toArray] w fun e w' => ∃ A c B d C' T', e = .returned (.agg #[.int .i64 r.code, .int .i64 r.n, .string ⟨r.text.toArray⟩, .slice A r.ans.length c, .slice B r.at'.length d]) /\
   rRep.rel w' (fun q => w.heap.size <= q /\ ¬ C' q /\ q < w'.heap.size) [.int .i64 r.code, .int .i64 r.n, .string ⟨r.text.toArray⟩, .slice A r.ans.length c, .slice B r.at'.length d] r /\ At2 w0 w' sb C' T' st' gb D U sg /\ Chg C w w' /\ (∀ q, C' q -> C q \/ w.heap.size <= q) := by
 refine (h.s.act_at hd ha hI).mono ?_
 rintro e w' ⟨A, c, B, d, C', T', rfl, hr, hs, hc, hC, hT⟩
 refine ⟨A, c, B, d, C', T', rfl, hr, ⟨hs, h.g.other hl hp hc hs.bl fun q hq => ⟨fun hD => h.dj q (.inl hq) (.inl hD), fun hU => h.dj q (.inl hq) (.inr hU)⟩, fun q hq hn => ?_⟩, hc, hC⟩
 have h1 : q < w.heap.size := hn.elim (h.g.sto.cw q) (h.g.sto.tw q)
 rcases hq with hq | hq
 ·rcases hC q hq with h2 | h2
  ·exact h.dj q (.inl h2) hn
  ·omega
 ·rcases hT q hq with h2 | h2
  ·exact h.dj q (.inr h2) hn
  ·omega
end
theorem Z8s {w : World} {S : Nat -> Prop} {ys : List Value} {x : Ses} (h : rSes.rel w S ys x) : ∃ D dc B bc G gc R rc, ys = [.bool x.opn, .bool x.strict, .int .i64 x.frm, .slice D x.mine.doms.length dc, .slice B x.mine.tabs.length bc, .slice G x.gone.length gc, .slice R x.read.length rc] /\ InI x.frm /\
  rBk.rel w S [.slice D x.mine.doms.length dc, .slice B x.mine.tabs.length bc] x.mine /\ (rSl rStr).rel w S [.slice G x.gone.length gc] x.gone /\ (rSl rStr).rel w S [.slice R x.read.length rc] x.read := by
 obtain ⟨v, u, g, r, rfl, h0, h1, h2, h3, h4⟩ := h
 obtain ⟨D, dc, rfl, _⟩ := rSl.elems h1
 obtain ⟨B, bc, rfl, _⟩ := rSl.elems h2
 obtain ⟨G, gc, rfl, _⟩ := rSl.elems h3
 obtain ⟨R, rc, rfl, _⟩ := rSl.elems h4
 exact ⟨D, dc, B, bc, G, gc, R, rc, rfl, h0, ⟨_, _, rfl, h1, h2⟩, h3, h4⟩
theorem box7 (w : World) (v0 v1 v2 v3 v4 v5 v6 u0 u1 u2 u3 u4 u5 u6 : Value) : ∃ W, (w.alloc (.cells #[v0, v1, v2, v3, v4, v5, v6] 41)).alloc (.cells #[u0, u1, u2, u3, u4, u5, u6] 41) = W /\ Hid (Below w.heap.size w W) /\
  W.cell? ⟨w.heap.size, 0, none⟩ = some v0 /\ W.cell? ⟨w.heap.size, 1, none⟩ = some v1 /\ W.cell? ⟨w.heap.size, 2, none⟩ = some v2 /\ W.cell? ⟨w.heap.size, 3, none⟩ = some v3 /\ W.cell? ⟨w.heap.size, 4, none⟩ = some v4 /\ W.cell? ⟨w.heap.size, 5, none⟩ = some v5 /\ W.cell? ⟨w.heap.size, 6, none⟩ = some v6 /\
  W.cell? ⟨w.heap.size + 1, 0, none⟩ = some u0 /\ W.cell? ⟨w.heap.size + 1, 1, none⟩ = some u1 /\ W.cell? ⟨w.heap.size + 1, 2, none⟩ = some u2 /\ W.cell? ⟨w.heap.size + 1, 3, none⟩ = some u3 /\ W.cell? ⟨w.heap.size + 1, 4, none⟩ = some u4 /\ W.cell? ⟨w.heap.size + 1, 5, none⟩ = some u5 /\ W.cell? ⟨w.heap.size + 1, 6, none⟩ = some u6 := by
 have z1 : (w.alloc (.cells #[v0, v1, v2, v3, v4, v5, v6] 41)).heap.size = w.heap.size + 1 := by simp
 refine ⟨_, rfl, L0 (bA.alloc (by simp) _), ?_, ?_, ?_, ?_, ?_, ?_, ?_, ?_, ?_, ?_, ?_, ?_, ?_, ?_⟩
 all_goals first
  | exact (L0j _ _ _ (by simp)).trans (L0b _ _ _ _)
  | (rw [<- z1]; exact L0b _ _ _ _)
theorem X0s {C T D U : Nat -> Prop} {sb gb : Nat} {st st2 : Sto} (w : World) (h : StoAt w sb C T st) (h2 : StoAt w gb D U st2) (hs : st2.states = st.states) (hx : ∀ k, k < 4 -> st2.ses k = st.ses k) (hw : LibW w) (hp : PolW w) :
  Calls Tryz.prog 25 #[.pointer (some ⟨sb, 0, none⟩), .pointer (some ⟨gb, 0, none⟩)] w fun e w' => e = .returned (.bool true) /\ Below w.heap.size w w' := by
 have HH := L0 h
 have HH2 := L0 h2
 have HX := L0 hx
 have HS1 := L0 (Z6o w h)
 have HS2 : Hid (∀ w1, Below w.heap.size w w1 -> _) := L0 fun w1 (hb : Below w.heap.size w w1) => Z6o w1 (h2.below hb)
 rw [hs] at HS2
 have HW := L0 fun w' (hb : Below w.heap.size w w') => hw.below hb
 have HP := L0 fun w' (hb : Below w.heap.size w w') => hp.below hb
 have hn : ((st.states.length : Int) != (st.states.length : Int)) = false := by simp
 clear h h2 hs hx hw hp
 go_enter Tryz.func25, Tryz.ntmps25
 go_upto_region 5 with (first
  | (go_at_call 12; ((with_reducible refine HS1.out.mono ?_); rintro e w1 ⟨u1, rfl, ho1, hb1⟩; obtain ⟨A1, c1, e1, _, _, hby1, hE1⟩ := rSl.elems (ho1.rel (by decide)); subst e1; have HB1 := L0 hb1; have hln : st.states.length <= 2932031007402 := (by simp only [rBk] at hby1; omega); clear ho1 hb1 hby1; have HE1 := L0 hE1; clear hE1))
  | (go_at_call 12; ((with_reducible refine (HS2.out w1 HB1.out).mono ?_); rintro e w2 ⟨u2, rfl, ho2, hb2⟩; obtain ⟨A2, c2, e2, _, _, _, hE2⟩ := rSl.elems (ho2.rel (by decide)); subst e2; have HB2 := L0 (HB1.out.trans (hb2.mono HB1.out.size)); have HE2 := L0 hE2; have HE1b := L0 (HE1.out.keep (.of_below hb2)); clear ho2 hb2 hE2)))
 go_loopw [22] (fun i wr => ∃ k : Nat, k <= st.states.length /\ i = .int .i64 k /\ Hid (Below w2.heap.size w2 wr)) (fun i _ => st.states.length - (intOf i).toNat)
 case atStart => exact ⟨0, L0n _, rfl, L0 (L0m _ _)⟩
 case round =>
  obtain ⟨k, hk, rfl, HB⟩ := hrel
  have HBW := L0 (HB2.out.trans (HB.out.mono HB2.out.size))
  by_cases hlt : k < st.states.length
  ·obtain ⟨b1, o1, y, D1, d1, F1, f1, rfl, hb1, hx, hr, g0, g1⟩ := HE1b.out.bk hlt
   obtain ⟨b2, o2, y', D2, d2, F2, f2, rfl, hb2, hx', hr', h0, h1⟩ := HE2.out.bk hlt
   obtain rfl : y = y' := by rw [hx] at hx'; exact L0r hx'
   rw [<- HB.out.ce _ hb1] at g0 g1
   rw [<- HB.out.ce _ hb2] at h0 h1
   have hb1' : b1 < wr.heap.size := L0c hb1 HB.out.size
   have hb2' : b2 < wr.heap.size := L0c hb2 HB.out.size
   have hik : (k : Int) < (st.states.length : Int) := by omega
   have HC := L0 fun w' (hb : Below wr.heap.size wr w') => Z8r y w' (jA hr (HB.out.trans (hb.mono HB.out.size))) (jA hr' (HB.out.trans (hb.mono HB.out.size))) (HW.out _ (HBW.out.trans (hb.mono HBW.out.size))) (HP.out _ (HBW.out.trans (hb.mono HBW.out.size)))
   clear hx hx' hr hr' hb1 hb2
   go_wp2
   refine wp_region_quiet_below (by kernel_rfl) (by kernel_rfl) ?_
   repeat (go_big_quiet_step (with_reducible exact Calls.inBelow HC.out _ _))
   refine wpQuiet_nil ?_
   intro _ hw'
   obtain ⟨⟨dq, osq⟩, hw''⟩ := hw'
   subst hw''
   go_wp2
   go_roundw
   case rel => exact ⟨k + 1, by omega, by go_num, L0 (HB.out.trans ((below_regrown _ _ _).mono HB.out.size))⟩
   case measure => simp [intOf]; omega
  ·have hik : ¬ (k : Int) < (st.states.length : Int) := by omega
   go_wp2
   go_loopw [36] (fun i wr => ∃ k : Nat, k <= 4 /\ i = .int .i64 k /\ Hid (Below w.heap.size w wr)) (fun i _ => 4 - (intOf i).toNat)
   case atStart => exact ⟨0, L0n _, rfl, HBW⟩
   case round =>
    clear HB HBW
    obtain ⟨m, hm, rfl, HB⟩ := hrel
    by_cases hlt2 : m < 4
    ·have hik2 : (m : Int) < 4 := by omega
     have hm0 : ¬ ((m : Int) < 0) := by omega
     obtain ⟨x, hxe⟩ : ∃ x, st.ses m = x := ⟨_, rfl⟩
     have HSA : Hid (SesAt wr sb (1 + m * 7) T x) := L0 (by rw [<- hxe]; exact (HH.out.below HB.out).ses m hlt2)
     have HSB : Hid (SesAt wr gb (1 + m * 7) U x) := L0 (by rw [<- hxe, <- HX.out m hlt2]; exact (HH2.out.below HB.out).ses m hlt2)
     have HC1 : Hid (Calls Tryz.prog 14 #[.pointer (some ⟨sb, 0, none⟩), .int .i64 m] wr fun e w' => ∃ ys, e = .returned (.agg ys.toArray) /\ rSes.rel w' (fun q => wr.heap.size <= q) ys x /\ Below wr.heap.size wr w') := L0 (by
      obtain ⟨xs, hr, hc⟩ := HSA.out
      exact Z7v wr hlt2 hr hc (HH.out.below HB.out).tw)
     have HC2 : Hid (∀ w4, Below wr.heap.size wr w4 -> Calls Tryz.prog 14 #[.pointer (some ⟨gb, 0, none⟩), .int .i64 m] w4 fun e w' => ∃ ys, e = .returned (.agg ys.toArray) /\ rSes.rel w' (fun q => w4.heap.size <= q) ys x /\ Below w4.heap.size w4 w') := L0 (fun w4 hb => by
      obtain ⟨xs, hr, hc⟩ := HSB.out.below hb
      exact Z7v w4 hlt2 hr hc ((HH2.out.below HB.out).below hb).tw)
     have t0 : (x.opn != x.opn) = false := by simp
     have t1 : (x.strict != x.strict) = false := by simp
     have t2 : (x.frm != x.frm) = false := by simp
     clear hxe
     go_upto_region 14 with (first
      | (go_at_call 14; ((with_reducible refine HC1.out.mono ?_); rintro e w4 ⟨ys, rfl, hr4, hb4⟩; obtain ⟨D1, d1, F1, f1, G1, g1, R1, r1, rfl, _, q1, q2, q3⟩ := Z8s hr4; have HB4 := L0 hb4; have HM1 := L0 q1; have HG1 := L0 q2; have HR1 := L0 q3; clear hr4 hb4 q1 q2 q3))
      | (go_at_call 14; ((with_reducible refine (HC2.out w4 HB4.out).mono ?_); rintro e w5 ⟨zs, rfl, hr5, hb5⟩; obtain ⟨D2, d2, F2, f2, G2, g2, R2, r2, rfl, _, q1, q2, q3⟩ := Z8s hr5; have HB5 := L0 hb5; have HM2 := L0 q1; have HG2 := L0 q2; have HR2 := L0 q3; clear hr5 hb5 q1 q2 q3; obtain ⟨X, eX, HBX, a0, a1, a2, a3, a4, a5, a6, b0, b1, b2, b3, b4, b5, b6⟩ := box7 w5 (.bool x.opn) (.bool x.strict) (.int .i64 x.frm) (.slice D1 x.mine.doms.length d1) (.slice F1 x.mine.tabs.length f1) (.slice G1 x.gone.length g1) (.slice R1 x.read.length r1) (.bool x.opn) (.bool x.strict) (.int .i64 x.frm) (.slice D2 x.mine.doms.length d2) (.slice F2 x.mine.tabs.length f2) (.slice G2 x.gone.length g2) (.slice R2 x.read.length r2))))
     have HB45 := L0 (HB5.out.trans (HBX.out.mono HB5.out.size))
     have HBr := L0 (HB4.out.trans (HB45.out.mono HB4.out.size))
     have HBw := L0 (HB.out.trans (HBr.out.mono HB.out.size))
     have HCM := L0 (Z8r x.mine X (jA HM1.out HB45.out) (jA HM2.out HBX.out) (HW.out X HBw.out) (HP.out X HBw.out))
     have HCG := L0 fun w' (hb : Below X.heap.size X w') => Z7a x.gone w' (jA HG1.out (HB45.out.trans (hb.mono HB45.out.size))) (jA HG2.out (HBX.out.trans (hb.mono HBX.out.size)))
     have HCR := L0 fun w' (hb : Below X.heap.size X w') => Z7a x.read w' (jA HR1.out (HB45.out.trans (hb.mono HB45.out.size))) (jA HR2.out (HBX.out.trans (hb.mono HBX.out.size)))
     have HOLD : Hid (∀ w', Below X.heap.size X w' -> w'.cell? ⟨w5.heap.size, 5, none⟩ = some (.slice G1 x.gone.length g1) /\ w'.cell? ⟨w5.heap.size + 1, 5, none⟩ = some (.slice G2 x.gone.length g2) /\ w'.cell? ⟨w5.heap.size, 6, none⟩ = some (.slice R1 x.read.length r1) /\ w'.cell? ⟨w5.heap.size + 1, 6, none⟩ = some (.slice R2 x.read.length r2)) := L0 fun w' hb =>
      ⟨(hb.ce 5 (L0f _ _ a5)).trans a5, (hb.ce 5 (L0f _ _ b5)).trans b5, (hb.ce 6 (L0f _ _ a6)).trans a6, (hb.ce 6 (L0f _ _ b6)).trans b6⟩
     go_wp2_with (first
      | (go_at_call 22; (with_reducible refine HCM.out.mono ?_); rintro e w6 ⟨rfl, hb6⟩; have HB6 := L0 hb6; obtain ⟨k5, l5, k6, l6⟩ := HOLD.out w6 hb6; clear hb6)
      | (go_at_call 53; ((with_reducible refine (HCG.out w6 HB6.out).mono ?_); rintro e w7 ⟨rfl, hb7⟩; have HB7 := L0 (HB6.out.trans (hb7.mono HB6.out.size)); obtain ⟨m5, n5, m6, n6⟩ := HOLD.out w7 HB7.out; clear hb7))
      | (go_at_call 53; ((with_reducible refine (HCR.out w7 HB7.out).mono ?_); rintro e w8 ⟨rfl, hb8⟩; have HB8 := L0 (HB7.out.trans (hb8.mono HB7.out.size)); clear hb8)))
     go_roundw
     case rel => exact ⟨m + 1, by omega, by go_num, L0 (HBw.out.trans (HB8.out.mono HBw.out.size))⟩
     case measure => simp [intOf]; omega
    ·have hik2 : ¬ (m : Int) < 4 := by omega
     go_wp2
     go_ret
     exact ⟨rfl, HB.out⟩
