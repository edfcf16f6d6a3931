import Derived.Test.YtlopccnehgolnadGreatDoorGRuns48
import Derived.Test.YtlopccnehgolnadGreatDoorGRuns33
namespace Go.Proofs.YtlopccnehgolnadGreatDoor
open Go.RowKit Rb
open Go.Lib renaming hid -> hI9
open Nat renaming le_trans -> nT, le_refl -> nR, le_succ -> jD, lt_irrefl -> jE, lt_of_lt_of_le -> jF, succ_le_succ -> jG, zero_le -> jH
open List renaming getElem?_eq_getElem -> jA, length_append -> jB, nodup_nil -> jC
open Go.World renaming cell?_alloc_new -> jI, cell?_of_block -> jJ
set_option maxRecDepth 100000
set_option maxHeartbeats 3200000
structure SOk (st : Sto) : Prop where
 ne : 0 < st.states.length
 le : st.states.length <= 40
 bk : ∀ b ∈ st.states, Neat b 4 4
 ses : ∀ k, k < 4 -> (st.ses k).opn = true -> (∃ f : Nat, (st.ses k).frm = f /\ f < st.states.length)
 mn : ∀ k, k < 4 -> Neat (st.ses k).mine 1000 1000
 gl : ∀ k, k < 4 -> (st.ses k).gone.length <= 1000
 rl : ∀ k, k < 4 -> (st.ses k).read.length <= 1000000
theorem SOk.inv {st : Sto} {k : Nat} (h : SOk st) (hk : k < 4) (ho : (st.ses k).opn = true) : ∃ f, SesInv st k f := by
 obtain ⟨f, h1, h2⟩ := h.ses k hk ho
 exact ⟨f, h.mn k hk, h.gl k hk, h.rl k hk, h1, h2, h.bk, h.le⟩
theorem X0j {C T I : Nat -> Prop} {sb : Nat} {st : Sto} {a : Acn} {as' : List Value} (w : World) (h : StoAt w sb C T st) (ha : rAcn.rel w I as' a) (hI : ∀ q, I q -> q < w.heap.size /\ ¬ C q) (hok : SOk st) (hlib : LibC C w) :
  Calls Tryz.prog 8 #[.pointer (some ⟨sb, 0, none⟩), .agg as'.toArray] w fun e w' => Z1b w sb C T (doS st a).1 (doS st a).2 e w' := by
 by_cases h200 : 200 <= st.acts
 ·exact Y9f w h ha hI h200
 by_cases hkd : a.kind < 1 \/ 7 < a.kind
 ·exact Y9g w h ha hI h200 hkd
 by_cases hk1 : a.kind = 1
 ·exact Y9h w h ha hI h200 hk1 hok.ne
 have hk : 2 <= a.kind /\ a.kind <= 7 := by omega
 by_cases hn0 : a.n < 0
 ·exact X0n w h ha hI h200 hk hn0
 by_cases hn4 : 4 <= a.n
 ·exact X0l w h ha hI h200 hk hn4
 obtain ⟨kd, n, nm, tx, ip⟩ := a
 simp only at hk hn0 hn4 hk1 hkd
 obtain ⟨k, rfl⟩ : ∃ k : Nat, n = k := ⟨n.toNat, by omega⟩
 have hk4 : k < 4 := by omega
 obtain ⟨u, rfl, _, _, hnm, htx, hin⟩ := ha
 obtain ⟨A, c, rfl, _⟩ := rSl.elems hin
 cases ho : (st.ses k).opn
 ·exact Y9i w h hin hI hnm htx h200 hk4 hk ho
 obtain ⟨f, hv⟩ := hok.inv hk4 ho
 have hcs : kd = 2 \/ kd = 3 \/ kd = 4 \/ kd = 5 \/ kd = 6 \/ kd = 7 := by omega
 rcases hcs with rfl | rfl | rfl | rfl | rfl | rfl
 ·exact X0o w h hin hI hnm htx h200 hk4 ho hv hlib
 ·cases hnd : Z2a nm
  ·exact Y7i w h hin hI hnm htx h200 hk4 ho hnd
  ·exact Y9e w h hin hI hnm htx h200 hk4 ho hnd hv
 ·cases hnd : Z2a nm
  ·exact Y7j w h hin hI hnm htx h200 hk4 ho hnd
  ·exact X0m w h hin hI hnm htx h200 hk4 ho hnd hv hlib
 ·exact X0k w h hin hI hnm htx h200 hk4 ho hv
 ·exact Y5c w h hin hI hnm htx h200 hk4 ho hv hlib
 ·exact Y7h w h hin hI hnm htx h200 hk4 ho
structure XGood (n m : Nat) (x : Ses) : Prop where
 fr : x.opn = true -> ∃ f : Nat, x.frm = f /\ f < n
 mn : Neat x.mine m m
 gl : x.gone.length <= m
 rl : x.read.length <= 1000 * m
structure SGood (st : Sto) : Prop where
 ne : 0 < st.states.length
 le : st.states.length <= 40
 chk : ∀ b ∈ st.states, (Z0g b).2.2 = 0
 ac : st.acts <= 200
 ses : ∀ k, XGood st.states.length st.acts (st.ses k)
theorem Neat.bk0 (nd nt : Nat) : Neat bk0 nd nt := ⟨jC, jC, jH _, jH _⟩
theorem XGood.ses0 (n m : Nat) : XGood n m ses0 := ⟨fun h => Bool.noConfusion h, Neat.bk0 _ _, jH _, jH _⟩
theorem XGood.mono {n m n' m' : Nat} {x : Ses} (h : XGood n m x) (hn : n <= n') (hm : m <= m') : XGood n' m' x :=
 ⟨fun ho => by obtain ⟨f, h1, h2⟩ := h.fr ho; exact ⟨f, h1, by omega⟩, h.mn.mono hm hm, nT h.gl hm, nT h.rl (Nat.mul_le_mul_left _ hm)⟩
theorem Z9h {b : Bk} (h : (Z0g b).2.2 = 0) : Neat b 4 4 := by
 have hc := Y9v h
 exact ⟨hc.domNames, hc.tabNames, hc.dl, hc.tl⟩
theorem SGood.ok {st : Sto} (h : SGood st) : SOk st := by
 have := h.ac
 exact ⟨h.ne, h.le, fun b hb => Z9h (h.chk b hb), fun k _ => (h.ses k).fr, fun k _ => (h.ses k).mn.mono (by omega) (by omega), fun k _ => by have := (h.ses k).gl; omega, fun k _ => by have := (h.ses k).rl; omega⟩
theorem SGood.start : SGood sto0 := by
 refine ⟨by decide, by decide, fun b hb => ?_, by decide, fun k => XGood.ses0 _ _⟩
 obtain rfl : b = bk0 := by simpa [sto0] using hb
 rfl
theorem SGood.put {st : Sto} (h : SGood st) {k : Nat} {x : Ses} (hx : XGood st.states.length st.acts x) : SGood (st.put k x) :=
 ⟨h.ne, h.le, h.chk, h.ac, fun j => by
  show XGood _ _ (if j = k then x else st.ses j)
  split
  ·exact hx
  ·exact h.ses j⟩
theorem SGood.up {st : Sto} (h : SGood st) (ha : ¬ 200 <= st.acts) : SGood st.up :=
 ⟨h.ne, h.le, h.chk, by show st.acts + 1 <= 200; omega, fun k => (h.ses k).mono (nR _) (jD _)⟩
theorem Z9l (b : Bk) (l : List Txt) : (Z11 b l).length <= l.length + b.doms.length + b.tabs.length := by
 have := Z58 Z07 (Z0r b) l
 simp only [Z0r, jB, List.length_map] at this
 unfold Z11
 simp only [Z0r]
 omega
theorem SGood.step {st : Sto} (h : SGood st) (a : Acn) : SGood (doS st a).2 := by
 unfold doS
 split
 ·exact h
 rename_i h200
 have hu := h.up h200
 have hua : st.up.acts = st.acts + 1 := rfl
 split
 ·exact hu
 split
 ·unfold Z5v
  split
  ·exact hu
  ·split
   ·refine hu.put ⟨fun _ => ⟨st.up.states.length - 1, ?_, ?_⟩, Neat.bk0 _ _, jH _, jH _⟩
    ·have := hu.ne
     show (st.up.states.length : Int) - 1 = _
     omega
    ·have := hu.ne
     omega
   ·exact hu
 split
 ·exact hu
 split
 ·exact hu
 generalize hk : a.n.toNat = k
 have hx := h.ses k
 have hxu := hu.ses k
 have hxe : st.up.ses k = st.ses k := rfl
 have hse : st.up.states = st.states := rfl
 unfold Y1i
 rw [hxe]
 rw [hxe] at hxu
 split
 ·refine hu.put ?_
  unfold putB
  split
  ·exact hxu
  ·split
   ·exact ⟨hx.fr, (Z6w hx.mn _).mono (jD _) (nR _), nT (Z07 _ _) (jG hx.gl), by have := hxu.rl; exact this⟩
   ·exact ⟨hx.fr, (Z6v hx.mn _).mono (nR _) (jD _), nT (Z07 _ _) (jG hx.gl), by have := hxu.rl; exact this⟩
 split
 ·exact hu.put ⟨hx.fr, (hx.mn.without _).mono (jD _) (jD _), nT (Z07 _ _) (jG hx.gl), by have := hxu.rl; exact this⟩
 split
 ·refine hu.put ⟨hx.fr, hxu.mn, hxu.gl, ?_⟩
  have h1 := Z07 (st.ses k).read a.name
  have h2 := hx.rl
  show (addN (st.ses k).read a.name).length <= 1000 * (st.acts + 1)
  omega
 split
 ·refine hu.put ⟨hx.fr, hxu.mn, hxu.gl, ?_⟩
  have hb4 : Neat (st.up.at (st.ses k).frm) 4 4 := by
   unfold Sto.at
   rw [hse]
   rcases hg : st.states[(st.ses k).frm.toNat]? with _ | b
   ·exact Neat.bk0 _ _
   ·exact Z9h (h.chk b (List.mem_of_getElem? hg))
  have hv := hb4.view (st.ses k)
  have h1 := Z9l (st.up.at (st.ses k).frm) (st.ses k).read
  have h2 := Z9l (Z3d (st.up.at (st.ses k).frm) (st.ses k)) (Z11 (st.up.at (st.ses k).frm) (st.ses k).read)
  have h3 := Z07 (Z11 (Z3d (st.up.at (st.ses k).frm) (st.ses k)) (Z11 (st.up.at (st.ses k).frm) (st.ses k).read)) []
  have h4 := hx.rl
  have h5 := hb4.ld
  have h6 := hb4.lt
  have h7 := hv.ld
  have h8 := hv.lt
  have h9 := hx.mn.ld
  have h10 := hx.mn.lt
  have h11 := h.ac
  show (if (st.ses k).strict then _ else _ : List Txt).length <= 1000 * (st.acts + 1)
  split <;> omega
 split
 ·have hc : SGood (st.up.put k ses0) := hu.put (XGood.ses0 _ _)
  unfold Z17
  split
  ·exact hc
  ·split
   ·exact hc
   ·split
    ·exact hc
    ·split
     ·exact hc
     ·rename_i h40 hck
      refine ⟨by simp, by rw [jB]; simp only [List.length_singleton]; omega, fun b hb => ?_, hc.ac, fun j => (hc.ses j).mono (by show _ <= (st.up.states ++ [_]).length; rw [jB]; exact Nat.le_add_right _ _) (nR _)⟩
      rcases List.mem_append.1 hb with hb | hb
      ·exact h.chk b hb
      ·obtain rfl := List.mem_singleton.1 hb
       simpa using hck
 ·exact hu.put (XGood.ses0 _ _)
theorem Y34 {C T : Nat -> Prop} {sb : Nat} {st : Sto} (w : World) (h : StoAt w sb C T st) :
  Calls Tryz.prog 9 #[.pointer (some ⟨sb, 0, none⟩)] w fun e w' => ∃ u, e = .returned u /\ Own rBk 46 w' w.heap.size (fun _ => False) u st.states /\ Below w.heap.size w w' := by
 obtain ⟨v, h0, h1, _⟩ := h.row
 exact Y33 (S := fun q => q < w.heap.size) w h0 ((rSl rBk).mono (h1.self.rel (by decide)) fun q _ hl => hl) fun q hq => hq
def Z5o : Acn := ⟨1, 0, [], [], []⟩
def Y02 : Acn := ⟨2, 0, [], [100, 111, 109, 97, 105, 110, 32, 97, 32, 49, 46, 46, 57], []⟩
def Z51 : Acn := ⟨6, 0, [], [], []⟩
theorem Y35 : (doS sto0 Z5o).1 = ⟨0, 0, [], [], []⟩ := by rfl
theorem Y5s : (doS (doS sto0 Z5o).2 Y02).1.code = 0 := by kernel_rfl
theorem Y03 : (doS (doS (doS sto0 Z5o).2 Y02).2 Z51).1.code = 0 /\ (doS (doS (doS sto0 Z5o).2 Y02).2 Z51).1.n = 1 /\ (doS (doS (doS sto0 Z5o).2 Y02).2 Z51).2.states.length = 2 := by
 refine ⟨by kernel_rfl, by kernel_rfl, by kernel_rfl⟩
structure At (w0 w : World) (sb : Nat) (C T : Nat -> Prop) (st : Sto) : Prop where
 sto : StoAt w sb C T st
 bl : Below w0.heap.size w0 w
 cn : ∀ q, C q -> w0.heap.size <= q
 tn : ∀ q, T q -> w0.heap.size <= q
 lib : LibC C w
 ok : SGood st
theorem At.below {w0 w w' : World} {sb : Nat} {C T : Nat -> Prop} {st : Sto} (h : At w0 w sb C T st) (hb : Below w.heap.size w w') : At w0 w' sb C T st :=
 ⟨h.sto.below hb, h.bl.trans (hb.mono h.bl.size), h.cn, h.tn, h.lib.below hb, h.ok⟩
theorem At.act {w0 w : World} {sb : Nat} {C T I : Nat -> Prop} {st : Sto} {a : Acn} {as' : List Value} (h : At w0 w sb C T st) (ha : rAcn.rel w I as' a) (hI : ∀ q, I q -> q < w.heap.size /\ ¬ C q) :
  Calls Tryz.prog 8 #[.pointer (some ⟨sb, 0, none⟩), .agg as'.toArray] w fun e w' => ∃ A c B d C' T', e = .returned (.agg #[.int .i64 (doS st a).1.code, .int .i64 (doS st a).1.n, .string ⟨(doS st a).1.text.toArray⟩, .slice A (doS st a).1.ans.length c, .slice B (doS st a).1.at'.length d]) /\
   rRep.rel w' (fun q => w.heap.size <= q /\ ¬ C' q /\ q < w'.heap.size) [.int .i64 (doS st a).1.code, .int .i64 (doS st a).1.n, .string ⟨(doS st a).1.text.toArray⟩, .slice A (doS st a).1.ans.length c, .slice B (doS st a).1.at'.length d] (doS st a).1 /\ At w0 w' sb C' T' (doS st a).2 /\ Chg C w w' /\ (∀ q, C' q -> C q \/ w.heap.size <= q) /\ ∀ q, T' q -> T q \/ w.heap.size <= q := by
 refine (X0j w h.sto ha hI h.ok.ok h.lib).mono ?_
 rintro e w' ⟨rs, C', T', rfl, hr, hs, hc, hC, hT⟩
 obtain ⟨A, c, B, d, rfl⟩ := Z41 hr
 have hz := h.bl.size
 exact ⟨A, c, B, d, C', T', rfl, hr, ⟨hs, h.bl.trans (hc.toBelow hz h.cn), fun q hq => (hC q hq).elim (h.cn q) fun h => by omega, fun q hq => (hT q hq).elim (h.tn q) fun h => by omega, h.lib.chg hc hC, h.ok.step a⟩, hc, hC, hT⟩
theorem At.new (w : World) (hl : LibW w) (hp : PolW w) : Calls Tryz.prog 7 #[] w fun e w' => ∃ sb C T, e = .returned (.pointer (some ⟨sb, 0, none⟩)) /\ At w w' sb C T sto0 := by
 refine (Y9l w).mono ?_
 rintro e w' ⟨rfl, hs, hb⟩
 refine ⟨_, _, _, rfl, hs, hb, fun q hq => by rcases hq with rfl | rfl <;> omega, fun q hq => hq.elim, fun w2 hc => ?_, SGood.start⟩
 have h2 : Below w.heap.size w w2 := hb.trans (hc.toBelow hb.size fun q hq => by rcases hq with rfl | rfl <;> omega)
 exact ⟨hl.below h2, hp.below h2⟩
theorem At.other {w0 w w' : World} {sb : Nat} {C T D : Nat -> Prop} {st : Sto} (h : At w0 w sb C T st) (hl : LibW w0) (hp : PolW w0) (hc : Chg D w w') (hb : Below w0.heap.size w0 w') (hd : ∀ q, D q -> ¬ C q /\ ¬ T q) : At w0 w' sb C T st :=
 ⟨h.sto.keep (hc.keeps fun b hb hD => hb.elim (hd b hD).2 (hd b hD).1) hc.size, hb, h.cn, h.tn, fun w'' h2 => by
  have h3 := hb.trans (h2.toBelow hb.size h.cn)
  exact ⟨hl.below h3, hp.below h3⟩, h.ok⟩
theorem At.act_at {w0 w : World} {sb : Nat} {C T I : Nat -> Prop} {st st' : Sto} {a : Acn} {as' : List Value} {r : Rep} (hd : doS st a = (r, st')) (h : At w0 w sb C T st) (ha : rAcn.rel w I as' a) (hI : ∀ q, I q -> q < w.heap.size /\ ¬ C q) :
  Calls Tryz.prog 8 #[.pointer (some ⟨sb, 0, none⟩), .agg as'.toArray] w fun e w' => ∃ A c B d C' T', e = .returned (.agg #[.int .i64 r.code, .int .i64 r.n, .string ⟨r.text.toArray⟩, .slice A r.ans.length c, .slice B r.at'.length d]) /\
   rRep.rel w' (fun q => w.heap.size <= q /\ ¬ C' q /\ q < w'.heap.size) [.int .i64 r.code, .int .i64 r.n, .string ⟨r.text.toArray⟩, .slice A r.ans.length c, .slice B r.at'.length d] r /\ At w0 w' sb C' T' st' /\ Chg C w w' /\ (∀ q, C' q -> C q \/ w.heap.size <= q) /\ ∀ q, T' q -> T q \/ w.heap.size <= q := by
 have := h.act ha hI
 rw [hd] at this
 exact this
theorem Y2i (w : World) (kd n : Int) (nm tx : Txt) (h1 : InI kd) (h2 : InI n) (h3 : nm.length <= 140737488355328) (h4 : tx.length <= 140737488355328) : rAcn.rel w (fun _ => False) [.int .i64 kd, .int .i64 n, .string ⟨nm.toArray⟩, .string ⟨tx.toArray⟩, .slice none 0 0] ⟨kd, n, nm, tx, []⟩ :=
 ⟨_, rfl, h1, h2, h3, h4, Z1l _ _⟩
theorem box5 (w : World) (v0 v1 v2 v3 v4 : Value) : ∃ W, w.alloc (.cells #[v0, v1, v2, v3, v4] 32) = W /\ Hid (Below w.heap.size w W) /\ W.cell? ⟨w.heap.size, 0, none⟩ = some v0 /\ W.cell? ⟨w.heap.size, 1, none⟩ = some v1 /\ Hid (w.heap.size < W.heap.size) :=
 ⟨_, rfl, hI9 ((Below.refl _ _).alloc (nR _) _), jI _ _ _ _, jI _ _ _ _, hI9 (by simp)⟩
theorem Y5r (w : World) (hl : LibW w) (hp : PolW w) : Calls Tryz.prog 4 #[] w fun e w' => e = .returned (.bool true) /\ Below w.heap.size w w' := by
 obtain ⟨⟨r1, s1⟩, h1⟩ : ∃ z, doS sto0 Z5o = z := ⟨_, rfl⟩
 obtain ⟨⟨r2, s2⟩, h2⟩ : ∃ z, doS s1 Y02 = z := ⟨_, rfl⟩
 obtain ⟨⟨r3, s3⟩, h3⟩ : ∃ z, doS s2 Z51 = z := ⟨_, rfl⟩
 have k1 : r1.code = 0 := by have := Y35; rw [h1] at this; rw [show r1 = _ from this]
 have k2 : r2.code = 0 := by have := Y5s; rw [h1, h2] at this; exact this
 have k3 : r3.code = 0 /\ r3.n = 1 /\ s3.states.length = 2 := by have := Y03; rw [h1, h2, h3] at this; exact this
 obtain ⟨k3, k4, k5⟩ := k3
 have HH1 := hI9 h1
 have HH2 := hI9 h2
 have HH3 := hI9 h3
 have HNEW := hI9 (At.new w hl hp)
 clear h1 h2 h3 hl hp
 have HF : Hid (∀ (w : World) (C : Nat -> Prop) (q : Nat), False -> q < w.heap.size /\ ¬ C q) := hI9 fun _ _ _ h => h.elim
 go_enter Tryz.func4, Tryz.ntmps4
 go_upto_region 4 with (first
  | (go_at_call 7; (with_reducible refine HNEW.out.mono ?_); rintro e w1 ⟨sb, C1, T1, rfl, hA1⟩; have HA1 := hI9 hA1; clear hA1))
 go_upto_region 7 with (first
  | (go_at_call 8; first | (((refine Calls.mono (HA1.out.act_at HH1.out (Y2i w1 1 0 [] [] ⟨by decide, by decide⟩ ⟨by decide, by decide⟩ (by simp) (by simp)) (HF.out w1 C1)) ?_); rintro e v2 ⟨A2, c2, B2, d2, C2, T2, rfl, _, hA2, hc2, hC2, _⟩; obtain ⟨W2, e2, HB2, x2, y2, HS2⟩ := box5 v2 (.int .i64 0) (.int .i64 r1.n) (.string ⟨r1.text.toArray⟩) (.slice A2 r1.ans.length c2) (.slice B2 r1.at'.length d2); have HA2 := hI9 (hA2.below HB2.out); have HW2 := hI9 hA2.sto.cw; clear hA2 hc2 hC2)) | (((refine Calls.mono (HA2.out.act_at HH2.out (Y2i W2 2 0 [] [100, 111, 109, 97, 105, 110, 32, 97, 32, 49, 46, 46, 57] ⟨by decide, by decide⟩ ⟨by decide, by decide⟩ (by simp) (by simp)) (HF.out W2 C2)) ?_); rintro e v3 ⟨A3, c3, B3, d3, C3, T3, rfl, _, hA3, hc3, hC3, _⟩; obtain ⟨W3, e3, HB3, x3, y3, HS3⟩ := box5 v3 (.int .i64 0) (.int .i64 r2.n) (.string ⟨r2.text.toArray⟩) (.slice A3 r2.ans.length c3) (.slice B3 r2.at'.length d3); have HA3 := hI9 (hA3.below HB3.out); have HW3 := hI9 hA3.sto.cw; have x2b := (HB3.out.cell (p := ⟨v2.heap.size, 0, none⟩) (jF HS2.out hc3.size)).trans ((jJ (a := ⟨v2.heap.size, 0, none⟩) (hc3.block v2.heap.size HS2.out (fun h => jE _ (HW2.out _ h)))).trans x2); have HN3 : Hid (¬ C3 v2.heap.size) := hI9 (fun h => by (rcases hC3 _ h with h | h; exact jE _ (HW2.out _ h); (have := HS2.out; omega))); have HS3b : Hid (v2.heap.size < W3.heap.size) := hI9 (World.block_lt_of_cell? _ _ x2b); clear x2; clear hA3 hc3 hC3)) | (((refine Calls.mono (HA3.out.act_at HH3.out (Y2i W3 6 0 [] [] ⟨by decide, by decide⟩ ⟨by decide, by decide⟩ (by simp) (by simp)) (HF.out W3 C3)) ?_); rintro e v4 ⟨A4, c4, B4, d4, C4, T4, rfl, _, hA4, hc4, hC4, _⟩; obtain ⟨W4, e4, HB4, x4, y4, HS4⟩ := box5 v4 (.int .i64 0) (.int .i64 1) (.string ⟨r3.text.toArray⟩) (.slice A4 r3.ans.length c4) (.slice B4 r3.at'.length d4); have HA4 := hI9 (hA4.below HB4.out); have x2c := (HB4.out.cell (p := ⟨v2.heap.size, 0, none⟩) (jF HS3b.out hc4.size)).trans ((jJ (a := ⟨v2.heap.size, 0, none⟩) (hc4.block v2.heap.size HS3b.out HN3.out)).trans x2b); have x3b := (HB4.out.cell (p := ⟨v3.heap.size, 0, none⟩) (jF HS3.out hc4.size)).trans ((jJ (a := ⟨v3.heap.size, 0, none⟩) (hc4.block v3.heap.size HS3.out (fun h => jE _ (HW3.out _ h)))).trans x3); clear x2b x3; clear hA4 hc4 hC4))))
 have HST := hI9 (Y34 W4 HA4.out.sto)
 have HK5 := hI9 k5
 go_wp2_with (go_at_call 9; (with_reducible refine HST.out.mono ?_); rintro e w9 ⟨u9, rfl, ho9, hb9⟩; obtain ⟨A9, c9, e9⟩ := ho9.value; rw [HK5.out] at e9; subst e9; have HB9 := hI9 hb9; clear ho9 hb9)
 go_ret
 exact ⟨rfl, HA4.out.bl.trans (HB9.out.mono HA4.out.bl.size)⟩
def Z40 (l : List Acn) (n : Nat) : Sto := (l.take n).foldl (fun s a => (doS s a).2) sto0
theorem Y22 {l : List Acn} {n : Nat} {a : Acn} (h : l[n]? = some a) : Z40 l (n + 1) = (doS (Z40 l n) a).2 := by
 unfold Z40
 rw [Z0b h, List.foldl_append]
 rfl
theorem Elems.acn {w : World} {S : Nat -> Prop} {A : Option Addr} {l : List Acn} (h : Elems rAcn w S A l) {i : Nat} (hi : i < l.length) : ∃ b off a I c, A = some ⟨b, off, none⟩ /\ S b /\ b < w.heap.size /\ l[i]? = some a /\ rAcn.rel w S [.int .i64 a.kind, .int .i64 a.n, .string ⟨a.name.toArray⟩, .string ⟨a.text.toArray⟩, .slice I a.inp.length c] a /\
  w.cell? ⟨b, off + i * 5, none⟩ = some (.int .i64 a.kind) /\ w.cell? ⟨b, off + i * 5 + 1, none⟩ = some (.int .i64 a.n) /\ w.cell? ⟨b, off + i * 5 + 2, none⟩ = some (.string ⟨a.name.toArray⟩) /\ w.cell? ⟨b, off + i * 5 + 3, none⟩ = some (.string ⟨a.text.toArray⟩) /\ w.cell? ⟨b, off + i * 5 + 4, none⟩ = some (.slice I a.inp.length c) := by
 obtain ⟨b, off, es, hA, hS, hb, hr, hc⟩ := h i l[i] (jA hi)
 have hr' := hr
 obtain ⟨u, rfl, _, _, _, _, hin⟩ := hr
 obtain ⟨I, c, rfl, _⟩ := rSl.elems hin
 exact ⟨b, off, l[i], I, c, hA, hS, hb, jA hi, hr', hc 0 _ rfl, hc 1 _ rfl, hc 2 _ rfl, hc 3 _ rfl, hc 4 _ rfl⟩
end Go.Proofs.YtlopccnehgolnadGreatDoor
namespace Go.Proofs.YtlopccnehgolnadGreatDoor
open Go.RowKit Rb
theorem At.grown {w0 w w' : World} {sb : Nat} {C T : Nat -> Prop} {st : Sto} {row : Option Nat} (h : At w0 w sb C T st) (hl : LibW w0) (hp : PolW w0) (hg : w.grownBy w' row) (hr : ∀ g, row = some g -> w0.heap.size <= g /\ ¬ C g /\ ¬ T g) : At w0 w' sb C T st :=
 h.other hl hp (D := fun q => row = some q) (.grown hg fun _ hg => .inl hg) (h.bl.grown hg h.bl.size fun k hk => (hr k hk).1) fun q hq => (hr q hq).2
section
variable {w0 w w' w1 w2 : World} {sb gb : Nat} {C T D U I : Nat -> Prop} {st sg : Sto} {a : Acn} {as' : List Value}
end
end Go.Proofs.YtlopccnehgolnadGreatDoor
namespace Go.Proofs.YtlopccnehgolnadGreatDoor
open Go.RowKit Rb
open Go.Lib renaming hid -> hI
open Go.World renaming cell?_alloc_new -> cN
open List renaming getElem?_eq_getElem -> jA, getElem?_map -> jB, getElem?_range -> jC
open Nat renaming lt_of_lt_of_le -> jD
set_option maxRecDepth 100000
set_option maxHeartbeats 3200000
theorem Y9z : ElemOf Tryz.prog rRep 24 32 := .mk' Tryz.underlying24 (z := .agg #[.int .i64 0, .int .i64 0, .string ⟨#[]⟩, .slice none 0 0, .slice none 0 0]) (k := 5) (b := 80) (by kernel_rfl) rfl rfl rfl (by decide) (by decide)
theorem Y56 : ElemOf Tryz.prog rAcn 22 38 := .mk' Tryz.underlying22 (z := .agg #[.int .i64 0, .int .i64 0, .string ⟨#[]⟩, .string ⟨#[]⟩, .slice none 0 0]) (k := 5) (b := 72) (by kernel_rfl) rfl rfl rfl (by decide) (by decide)
def Z27 (l : List Acn) (n : Nat) : List Rep := (List.range n).map fun i => (doS (Z40 l i) ((l[i]?).getD Z5o)).1
theorem Y4s {l : List Acn} {n : Nat} {a : Acn} (h : l[n]? = some a) : Z27 l (n + 1) = Z27 l n ++ [(doS (Z40 l n) a).1] := by
 unfold Z27
 rw [List.range_succ, List.map_append, List.map_cons, List.map_nil, h]
 rfl
theorem Z6j (l : List Acn) (n : Nat) : (Z27 l n).length = n := by simp [Z27]
theorem Y4t {l : List Acn} {m i : Nat} (h : m <= l.length) (hi : i < m) : (Z27 (l.take m) m)[i]? = (Z27 l l.length)[i]? := by
 unfold Z27
 rw [jB, jB, jC hi, jC (by omega)]
 simp only [Option.map_some, Option.some.injEq]
 have h1 : Z40 (l.take m) i = Z40 l i := by
  unfold Z40
  rw [List.take_take, Nat.min_eq_left (by omega)]
 rw [h1, List.getElem?_take, if_pos hi]
theorem OwnS.keeps {α : Type} {R : Rd α} {e : TypeId} {w w' : World} {base : Nat} {S : Nat -> Prop} {v : Value} {xs : List α} (h : OwnS R e w base S v xs) (hk : Keeps (fun b => S b \/ v.ownBlock = some b) w w') : OwnS R e w' base S v xs := by
 obtain ⟨cells, k1, k2, k3, k4⟩ := h
 refine ⟨cells, ⟨k1.1, ?_⟩, k2, k3, fun i y hy => R.keep (k4 i y hy) fun b hb hl => hk b (.inl hb) hl⟩
 rcases k1.2 with h0 | ⟨g, cap, cur, hv, hb, hh, hrest⟩
 ·exact .inl h0
 ·exact .inr ⟨g, cap, cur, hv, hb, (hk g (.inr (by rw [hv]; rfl)) (Array.getElem?_eq_some_iff.1 hh).1).trans hh, hrest⟩
structure RunRow (w0 w : World) (C T : Nat -> Prop) (u : Value) (xs : List Rep) : Prop where
 row : ∃ S, OwnS rRep 32 w w0.heap.size S u xs /\ ∀ q, S q -> q < w.heap.size /\ ¬ C q
 nc : ∀ g, u.ownBlock = some g -> ¬ C g /\ ¬ T g
section
variable {w0 w w' : World} {C T C' T' : Nat -> Prop} {u u' : Value} {xs : List Rep} {x : Rep}
theorem RunRow.act (h : RunRow w0 w C T u xs) (hc : Chg C w w') (hC : ∀ q, C' q -> C q \/ w.heap.size <= q) (hT : ∀ q, T' q -> T q \/ w.heap.size <= q) : RunRow w0 w' C' T' u xs := by
 obtain ⟨⟨S, h1, h2⟩, h3⟩ := h
 have hlt := h1.lt
 refine ⟨⟨S, h1.keeps (hc.keeps fun b hb hC => hb.elim (fun h => (h2 b h).2 hC) fun h => (h3 b h).1 hC), fun q hq => ⟨jD (h2 q hq).1 hc.size, fun hn => (hC q hn).elim (h2 q hq).2 fun h => by have := (h2 q hq).1; omega⟩⟩, fun g hg => ⟨fun hn => (hC g hn).elim (h3 g hg).1 fun h => by have := (hlt g hg).2; omega, fun hn => (hT g hn).elim (h3 g hg).2 fun h => by have := (hlt g hg).2; omega⟩⟩
theorem RunRow.below (h : RunRow w0 w C T u xs) (hb : Below w.heap.size w w') : RunRow w0 w' C T u xs := h.act (.below hb) (fun _ h => .inl h) fun _ h => .inl h
theorem RunRow.value (h : RunRow w0 w C T u xs) : ∃ A c, u = .slice A xs.length c := by
 obtain ⟨⟨S, h1, _⟩, _⟩ := h
 exact h1.self.value
end
theorem Elems.rep {w : World} {S : Nat -> Prop} {A : Option Addr} {l : List Rep} (h : Elems rRep w S A l) {i : Nat} (hi : i < l.length) : ∃ b off r I c J d, A = some ⟨b, off, none⟩ /\ b < w.heap.size /\ l[i]? = some r /\ rRep.rel w S [.int .i64 r.code, .int .i64 r.n, .string ⟨r.text.toArray⟩, .slice I r.ans.length c, .slice J r.at'.length d] r /\
  w.cell? ⟨b, off + i * 5, none⟩ = some (.int .i64 r.code) /\ w.cell? ⟨b, off + i * 5 + 1, none⟩ = some (.int .i64 r.n) /\ w.cell? ⟨b, off + i * 5 + 2, none⟩ = some (.string ⟨r.text.toArray⟩) /\ w.cell? ⟨b, off + i * 5 + 3, none⟩ = some (.slice I r.ans.length c) /\ w.cell? ⟨b, off + i * 5 + 4, none⟩ = some (.slice J r.at'.length d) := by
 obtain ⟨b, off, es, hA, hS, hb, hr, hc⟩ := h i l[i] (jA hi)
 obtain ⟨I, c, J, d, rfl⟩ := Z41 hr
 exact ⟨b, off, l[i], I, c, J, d, hA, hb, jA hi, hr, hc 0 _ rfl, hc 1 _ rfl, hc 2 _ rfl, hc 3 _ rfl, hc 4 _ rfl⟩
theorem Y9p {S : Nat -> Prop} {lv : Value} {l : List Acn} (w : World) (hl : (rSl rAcn).rel w S [lv] l) (hS : ∀ q, S q -> q < w.heap.size) (h200 : l.length <= 200) (hw : LibW w) (hp : PolW w) :
  Calls Tryz.prog 5 #[lv] w fun e w' => ∃ A c S', e = .returned (.tuple #[.slice A (Z27 l l.length).length c, .int .i64 0]) /\ (rSl rRep).rel w' S' [.slice A (Z27 l l.length).length c] (Z27 l l.length) /\ Below w.heap.size w w' := by
 obtain ⟨A, c, rfl, _, _, hby, hE⟩ := rSl.elems hl
 have hln : ¬ (200 : Int) < (l.length : Int) := by omega
 have HE := hI hE
 have HS := hI hS
 have HL := hI hw
 have HP := hI hp
 have HNW := hI (At.new w hw hp)
 clear hl hE hS hby hw hp
 go_enter Tryz.func5, Tryz.ntmps5
 go_upto_region 6 with (first
  | (go_at_call 7; (with_reducible refine HNW.out.mono ?_); rintro e w2 ⟨sb, C, T, rfl, hA⟩; have HA := hI hA; clear hA))
 go_loopw [5, 14] (fun c5 si wr => ∃ (k : Nat) (C T : Nat -> Prop) (v : Value), c5 = v /\ si = .int .i64 k /\ k <= l.length /\ Hid (At w wr sb C T (Z40 l k)) /\ Hid (RunRow w wr C T v (Z27 l k))) (fun _ si _ => l.length - (intOf si).toNat)
 case atStart => exact ⟨0, C, T, _, rfl, rfl, Nat.zero_le _, HA, hI ⟨⟨fun _ => False, OwnS.nil _ _ _ _ _, fun _ h => h.elim⟩, fun g h => by simp [Value.ownBlock] at h⟩⟩
 case round =>
  clear HA
  obtain ⟨k, C, T, v, hv, rfl, hk, HA, HO⟩ := hrel
  obtain rfl := hv.symm
  obtain ⟨UA, uc, rfl⟩ := HO.out.value
  by_cases hlt : k < l.length
  ·have hik : (k : Int) < (l.length : Int) := by omega
   obtain ⟨q, off, a, I, ic, rfl, hSq, hq, hx, hr, g0, g1, g2, g3, g4⟩ := (HE.out.keep (.of_below HA.out.bl)).acn hlt
   obtain ⟨⟨r1, s1⟩, h1⟩ : ∃ z, doS (Z40 l k) a = z := ⟨_, rfl⟩
   have HH1 := hI h1
   have HNX : Hid (Z40 l (k + 1) = s1 /\ Z27 l (k + 1) = Z27 l k ++ [r1]) := hI ⟨by rw [Y22 hx, h1], by rw [Y4s hx, h1]⟩
   obtain ⟨W2, e2, HB2, HR2, HZ2, j0, j1, j2, j3, j4⟩ : ∃ W2, wr.alloc (.cells #[.int .i64 a.kind, .int .i64 a.n, .string ⟨a.name.toArray⟩, .string ⟨a.text.toArray⟩, .slice I a.inp.length ic] 38) = W2 /\ Hid (Below wr.heap.size wr W2) /\ Hid (rAcn.rel W2 S [.int .i64 a.kind, .int .i64 a.n, .string ⟨a.name.toArray⟩, .string ⟨a.text.toArray⟩, .slice I a.inp.length ic] a) /\ Hid (wr.heap.size < W2.heap.size) /\ W2.cell? ⟨wr.heap.size, 0, none⟩ = some (.int .i64 a.kind) /\ W2.cell? ⟨wr.heap.size, 1, none⟩ = some (.int .i64 a.n) /\ W2.cell? ⟨wr.heap.size, 2, none⟩ = some (.string ⟨a.name.toArray⟩) /\ W2.cell? ⟨wr.heap.size, 3, none⟩ = some (.string ⟨a.text.toArray⟩) /\ W2.cell? ⟨wr.heap.size, 4, none⟩ = some (.slice I a.inp.length ic) :=
    ⟨_, rfl, hI ((Below.refl _ _).alloc (Nat.le_refl _) _), hI (Rd.alloc hr _), hI (by simp), cN _ _ _ _, cN _ _ _ _, cN _ _ _ _, cN _ _ _ _, cN _ _ _ _⟩
   have HA2 := hI (HA.out.below HB2.out)
   have HO2 := hI (HO.out.below HB2.out)
   have HNC : Hid (∀ p, S p -> p < W2.heap.size /\ ¬ C p) := hI fun p hp => ⟨jD (HS.out p hp) HA2.out.bl.size, fun hc => by have := HA2.out.cn p hc; have := HS.out p hp; omega⟩
   have HBY : Hid (((Z27 l k).length + 1) * rRep.bytes <= 140737488355328) := hI (by rw [Z6j]; simp only [rRep]; omega)
   clear hx hr h1 hSq
   go_wp2_with (first
    | (go_at_call 8; (with_reducible refine Calls.mono (HA2.out.act_at HH1.out HR2.out HNC.out) ?_); rintro e v2 ⟨A2, p2, B2, q2, C2, T2, rfl, hr2, hA2, hc2, hC2, hT2⟩; have HA3 := hI hA2; have HR3 := hI hr2; have HO3 := hI (HO2.out.act hc2 hC2 hT2); obtain ⟨S3, ho3, hs3⟩ := HO3.out.row; have HO4 := hI ho3; have HS3 := hI hs3; have HS1 : Hid (∀ q, (W2.heap.size <= q /\ ¬ C2 q /\ q < v2.heap.size) -> q < v2.heap.size -> (Value.slice UA (Z27 l k).length uc).ownBlock ≠ some q) := hI (fun q h1 _ h => by (obtain ⟨S0, ho0, _⟩ := HO2.out.row; have := (ho0.lt q h).2; omega)); have HBS : Hid (w.heap.size <= v2.heap.size) := hI hA2.bl.size; clear hr2 hA2 hc2 hC2 hT2 ho3 hs3)
    | (at_builtin; refine Z3n (R := rRep) (x := r1) Y9z rfl (.tmp 18) (.tmp 22) rfl rfl HO4.out [.int .i64 r1.code, .int .i64 r1.n, .string ⟨r1.text.toArray⟩, .slice A2 r1.ans.length p2, .slice B2 r1.at'.length q2] rfl rfl (fun q => W2.heap.size <= q /\ ¬ C2 q /\ q < v2.heap.size) HR3.out (by exact HS1.out) HBY.out HBS.out ?_; intro v4 w4 ho4 hg4 hv4; have HW4 := hI (And.intro ho4 (And.intro hg4 hv4)); clear ho4 hg4 hv4))
   go_roundw
   case rel =>
    refine ⟨k + 1, C2, T2, _, rfl, by go_num, hlt, hI ?_, hI ?_⟩
    ·rw [HNX.out.1]
     exact HA3.out.grown HL.out HP.out HW4.out.2.1 fun g hg => ⟨(HO4.out.lt g hg).1, HO3.out.nc g hg⟩
    ·rw [HNX.out.2]
     refine ⟨⟨_, HW4.out.1, fun q hq => ⟨jD hq.2.1 HW4.out.2.1.size, ?_⟩⟩, fun g hg => ?_⟩
     ·rcases hq.1 with h | h
      ·exact (HS3.out q h).2
      ·exact h.2.1
     ·rcases HW4.out.2.2 with h | h
      ·rw [h] at hg; exact HO3.out.nc g hg
      ·rw [h] at hg
       injection hg with hg
       exact ⟨fun hn => by have := HA3.out.sto.cw g hn; omega, fun hn => by have := HA3.out.sto.tw g hn; omega⟩
   case measure => simp [intOf]; omega
  ·obtain rfl : k = l.length := by omega
   have hik : ¬ (l.length : Int) < (l.length : Int) := by omega
   go_wp2
   go_ret2
   obtain ⟨S', ho, _⟩ := HO.out.row
   exact ⟨UA, uc, rfl, ⟨_, ho.self.rel (by decide)⟩, HA.out.bl⟩
theorem Y8z {S : Nat -> Prop} {v : Value} {l : List Acn} {n : Nat} (w : World) (hl : (rSl rAcn).rel w S [v] l) (hn : l.length = n) (h200 : n <= 200) (hw : LibW w) (hp : PolW w) :
  Calls Tryz.prog 5 #[v] w fun e w' => ∃ A c S', e = .returned (.tuple #[.slice A n c, .int .i64 0]) /\ (rSl rRep).rel w' S' [.slice A n c] (Z27 l n) /\ Below w.heap.size w w' := by
 subst hn
 have h := Y9p w ((rSl rAcn).mono (S' := fun q => q < w.heap.size) hl fun _ _ h => h) (fun _ h => h) h200 hw hp
 rw [Z6j] at h
 exact h
end Go.Proofs.YtlopccnehgolnadGreatDoor
namespace Go.Proofs.YtlopccnehgolnadGreatDoor
open Go.RowKit Rb
open Go.Lib renaming hid -> hI
open Nat renaming lt_of_lt_of_le -> nL
open Go.RowKit.Below renaming refl -> jA
open Int renaming tmod_lt_of_pos -> jB
open List renaming length_nil -> jC
open Rd renaming below -> jD
set_option maxRecDepth 100000
set_option maxHeartbeats 6400000
theorem Y96 {k : Int} {n : Nat} (hn : n <= 50) : ∃ m : Nat, m <= n /\ (wrap64 (wrap64 (k.tmod ((n : Int) + 1) + n) + 1)).tmod ((n : Int) + 1) = m := by
 have h1 := jB k (show (0 : Int) < (n : Int) + 1 by omega)
 have h2 := Int.lt_tmod_of_pos k (show (0 : Int) < (n : Int) + 1 by omega)
 generalize k.tmod ((n : Int) + 1) = z at h1 h2
 have e1 : wrap64 (z + n) = z + n := by unfold wrap64; omega
 have e2 : wrap64 (z + n + 1) = z + n + 1 := by unfold wrap64; omega
 rw [e1, e2]
 have h3 := Int.tmod_nonneg ((n : Int) + 1) (show 0 <= z + n + 1 by omega)
 have h4 := jB (z + n + 1) (show (0 : Int) < (n : Int) + 1 by omega)
 exact ⟨((z + n + 1).tmod ((n : Int) + 1)).toNat, by omega, by omega⟩
theorem Y00 {S : Nat -> Prop} {lv : Value} {l : List Acn} {k : Int} (w : World) (hl : (rSl rAcn).rel w S [lv] l) (hS : ∀ q, S q -> q < w.heap.size) (_hk : InI k) (hw : LibW w) (hp : PolW w) :
  Calls Tryz.prog 3 #[lv, .int .i64 k] w fun e w' => e = .returned (.bool true) /\ Below w.heap.size w w' := by
 have hl' := hl
 obtain ⟨A, c, rfl, hlc, hcm, hby, hE⟩ := rSl.elems hl
 have hln : l.length <= 1954687338432 := by simp only [rAcn] at hby; omega
 have HE := hI hE
 have HS := hI hS
 have HRL := hI hl'
 have HLB : Hid (∀ w', Below w.heap.size w w' -> LibW w' /\ PolW w') := hI fun w' hb => ⟨hw.below hb, hp.below hb⟩
 have HAL : Hid (∀ w', Below w.heap.size w w' -> Calls Tryz.prog 4 #[] w' fun e w2 => e = .returned (.bool true) /\ Below w'.heap.size w' w2) := hI fun w' hb => Y5r w' (hw.below hb) (hp.below hb)
 clear hl hl' hS hE hby hw hp
 go_enter Tryz.func3, Tryz.ntmps3
 by_cases h50 : l.length <= 50
 ·have hz50 : ¬ (50 : Int) < (l.length : Int) := by omega
  go_upto_region 3 with (first
   | (go_at_call 4; (with_reducible refine (HAL.out w (jA _ _)).mono ?_); rintro e w1 ⟨rfl, hb1⟩; have HB1 := hI hb1; clear hb1))
  obtain ⟨m, hm, hmk⟩ := Y96 (k := k) h50
  go_upto_region 4 with fail
  clear hmk
  have hE1 := hI (HE.out.keep (.of_below HB1.out))
  have HS1 : Hid (∀ q, S q -> q < w1.heap.size) := hI fun q h => nL (HS.out q h) HB1.out.size
  have HBY : Hid ((([] : List Acn).length + l.length) * rAcn.bytes <= 140737488355328) := hI (by simp only [rAcn, jC]; omega)
  have HBYm : Hid ((([] : List Acn).length + m) * rAcn.bytes <= 140737488355328) := hI (by simp only [rAcn, jC]; omega)
  have h200 : l.length <= 200 := by omega
  have hm200 : m <= 200 := by omega
  have hmc : (m : Int) <= (c : Int) := by omega
  have htl : (l.take m).length = m := by rw [List.length_take]; omega
  have HTL := hI htl
  clear htl
  go_upto_region 5 with (first
   | (at_builtin; refine Z0n (R := rAcn) (v := .slice none 0 0) Y56 rfl (.const (.slice none 0 0)) (.tmp 32) rfl rfl (OwnS.nil rAcn 38 w1 w1.heap.size S) rfl (ys := l) rfl hE1.out HS1.out HBY.out (Nat.le_refl _) ?_; intro v3 w3 ho3 hb3 _ _; have HO3 : Hid (OwnS rAcn 38 w3 w1.heap.size S v3 l) := hI ho3; have HB3 := hI (HB1.out.trans (hb3.mono HB1.out.size)); clear ho3 hb3)
   | (go_at_call 5; (with_reducible refine (Y8z w3 (HO3.out.self.rel (by decide)) rfl h200 (HLB.out w3 HB3.out).1 (HLB.out w3 HB3.out).2).mono ?_); rintro e w4 ⟨A4, c4, S4, rfl, hr4, hb4⟩; have HB4 := hI (HB3.out.trans (hb4.mono HB3.out.size)); have HR4 := hI hr4; clear hr4 hb4))
  have HT4 := hI (rSl.take (jD HRL.out HB4.out) m hm)
  have hE4 : Hid (Elems rAcn w4 S A (l.take m)) := hI (by
   obtain ⟨A', c', e, _, _, _, h⟩ := rSl.elems HT4.out
   injection e with e1
   subst e1
   exact h)
  have HS4 : Hid (∀ q, S q -> q < w4.heap.size) := hI fun q h => nL (HS.out q h) HB4.out.size
  go_upto_region 6 with (first
   | (at_builtin; refine Z0n (R := rAcn) (v := .slice none 0 0) Y56 rfl (.const (.slice none 0 0)) (.tmp 40) rfl rfl (OwnS.nil rAcn 38 w4 w4.heap.size S) rfl (ys := l.take m) HTL.out hE4.out HS4.out HBYm.out (Nat.le_refl _) ?_; intro v5 w5 ho5 hb5 _ _; have HO5 : Hid (OwnS rAcn 38 w5 w4.heap.size S v5 (l.take m)) := hI ho5; have HB5 := hI (HB4.out.trans (hb5.mono HB4.out.size)); have HB45 := hI hb5; clear ho5 hb5)
   | (go_at_call 5; (with_reducible refine (Y8z w5 (HO5.out.self.rel (by decide)) HTL.out hm200 (HLB.out w5 HB5.out).1 (HLB.out w5 HB5.out).2).mono ?_); rintro e w6 ⟨A6, c6, S6, rfl, hr6, hb6⟩; have HB6 := hI (HB5.out.trans (hb6.mono HB5.out.size)); have HR6 := hI hr6; have HR4b := hI (jD (jD HR4.out HB45.out) hb6); clear hr6 hb6))
  have HLa : Hid ((Z27 l l.length).length = l.length) := hI (Z6j _ _)
  have HLb : Hid ((Z27 (l.take m) m).length = m) := hI (Z6j _ _)
  have HEa : Hid (Elems rRep w6 S4 A4 (Z27 l l.length)) := hI (by
   obtain ⟨A', c', e, _, _, _, h⟩ := rSl.elems HR4b.out
   injection e with e1
   subst e1
   exact h)
  have HEb : Hid (Elems rRep w6 S6 A6 (Z27 (l.take m) m)) := hI (by
   obtain ⟨A', c', e, _, _, _, h⟩ := rSl.elems HR6.out
   injection e with e1
   subst e1
   exact h)
  have hq1 : ((l.length : Int) != (l.length : Int)) = false := by simp
  have hq2 : ((m : Int) != (m : Int)) = false := by simp
  go_upto_region 9 with fail
  clear hq1 hq2
  go_loopw [9] (fun i wr => ∃ k : Nat, k <= m /\ i = .int .i64 k /\ Hid (Below w6.heap.size w6 wr)) (fun i _ => m - (intOf i).toNat)
  case atStart => exact ⟨0, Nat.zero_le _, rfl, hI (jA _ _)⟩
  case round =>
   obtain ⟨k, hk, rfl, HB⟩ := hrel
   by_cases hlt : k < m
   ·have hik : (k : Int) < (m : Int) := by omega
    have hil : (k : Int) < (l.length : Int) := by omega
    obtain ⟨b1, o1, y, I1, j1, J1, d1, rfl, hb1, hx, hr, g0, g1, g2, g3, g4⟩ := HEa.out.rep (show k < (Z27 l l.length).length by rw [HLa.out]; omega)
    obtain ⟨b2, o2, y', I2, j2, J2, d2, rfl, hb2, hx', hr', f0, f1, f2, f3, f4⟩ := HEb.out.rep (show k < (Z27 (l.take m) m).length by rw [HLb.out]; exact hlt)
    obtain rfl : y = y' := by rw [Y4t hm hlt, hx] at hx'; exact Option.some.inj hx'
    rw [<- HB.out.cell (p := ⟨b1, _, none⟩) hb1] at g0 g1 g2 g3 g4
    rw [<- HB.out.cell (p := ⟨b2, _, none⟩) hb2] at f0 f1 f2 f3 f4
    have hb1' : b1 < wr.heap.size := nL hb1 HB.out.size
    have hb2' : b2 < wr.heap.size := nL hb2 HB.out.size
    have HC := hI fun w' (hb : Below wr.heap.size wr w') => Y16 y w' (jD hr (HB.out.trans (hb.mono HB.out.size))) (jD hr' (HB.out.trans (hb.mono HB.out.size)))
    clear hx hx' hr hr' hb1 hb2
    go_wp2
    refine wp_region_quiet_below (by kernel_rfl) (by kernel_rfl) ?_
    repeat (go_big_quiet_step (with_reducible exact Calls.inBelow HC.out _ _))
    refine wpQuiet_nil ?_
    intro _ hw'
    obtain ⟨⟨dq, osq⟩, hw''⟩ := hw'
    subst hw''
    go_wp2
    go_roundw
    case rel => exact ⟨k + 1, by omega, by go_num, hI (HB.out.trans ((below_regrown _ _ _).mono HB.out.size))⟩
    case measure => simp [intOf]; omega
   ·have hik : ¬ (k : Int) < (m : Int) := by omega
    go_wp2
    go_ret
    exact ⟨rfl, HB6.out.trans (HB.out.mono HB6.out.size)⟩
 ·have hz50 : (50 : Int) < (l.length : Int) := by omega
  go_wp2_with (first
   | (go_at_call 4; (with_reducible refine (HAL.out w (jA _ _)).mono ?_); rintro e w1 ⟨rfl, hb1⟩; have HB1 := hI hb1; clear hb1)
   | (go_at_call 4; (with_reducible refine (HAL.out w1 HB1.out).mono ?_); rintro e w2 ⟨rfl, hb2⟩; have HB2 := hI (HB1.out.trans (hb2.mono HB1.out.size)); clear hb2))
  go_ret
  exact ⟨rfl, HB2.out⟩
