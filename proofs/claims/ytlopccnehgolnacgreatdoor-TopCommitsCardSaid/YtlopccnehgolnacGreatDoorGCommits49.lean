import Derived.Test.YtlopccnehgolnacGreatDoorGCommits48
import Derived.Test.YtlopccnehgolnacGreatDoorGCommits32
import Derived.Test.YtlopccnehgolnacGreatDoorSess
import Derived.Test.YtlopccnehgolnacGreatDoorGCommits43
namespace Go.Proofs.YtlopccnehgolnacGreatDoor
open Go.RowKit Rb
open Go.Lib renaming hid -> hI9
open Go.World renaming cell?_alloc_new -> cN, cell?_of_block -> jI
open Nat renaming le_trans -> nT, le_refl -> nR, le_succ -> jD, lt_irrefl -> jE, lt_of_lt_of_le -> jF, succ_le_succ -> jG, zero_le -> jH
open List renaming getElem?_eq_getElem -> jA, length_append -> jB, nodup_nil -> jC
set_option maxRecDepth 100000
set_option maxHeartbeats 3200000
structure SOk (st : Sto) : Prop where
 ne : 0 < st.states.length
 le : st.states.length <= 40
 bk : ∀ b ∈ st.states, Neat b 4 4
 ses : ∀ k, k < 4 -> (st.ses k).opn = true -> (∃ f : Nat, (st.ses k).frm = f /\ f < st.states.length)
 mn : ∀ k, k < 4 -> Neat (st.ses k).mine 1000 1000
 gl : ∀ k, k < 4 -> (st.ses k).gone.length <= 1000
 rl : ∀ k, k < 4 -> (st.ses k).read.length <= 1000000
theorem SOk.inv {st : Sto} {k : Nat} (h : SOk st) (hk : k < 4) (ho : (st.ses k).opn = true) : ∃ f, SesInv st k f := by
 obtain ⟨f, h1, h2⟩ := h.ses k hk ho
 exact ⟨f, h.mn k hk, h.gl k hk, h.rl k hk, h1, h2, h.bk, h.le⟩
theorem X0m {C T I : Nat -> Prop} {sb : Nat} {st : Sto} {a : Acn} {as' : List Value} (w : World) (h : StoAt w sb C T st) (ha : rAcn.rel w I as' a) (hI : ∀ q, I q -> q < w.heap.size /\ ¬ C q) (hok : SOk st) (hlib : LibC C w) :
  Calls Tryz.prog 11 #[.pointer (some ⟨sb, 0, none⟩), .agg as'.toArray] w fun e w' => Z1c w sb C T (doS st a).1 (doS st a).2 e w' := by
 by_cases h200 : 200 <= st.acts
 ·exact Y9k w h ha hI h200
 by_cases hkd : a.kind < 1 \/ 7 < a.kind
 ·exact Y9l w h ha hI h200 hkd
 by_cases hk1 : a.kind = 1
 ·exact Y9m w h ha hI h200 hk1 hok.ne
 have hk : 2 <= a.kind /\ a.kind <= 7 := by omega
 by_cases hn0 : a.n < 0
 ·exact X0q w h ha hI h200 hk hn0
 by_cases hn4 : 4 <= a.n
 ·exact X0o w h ha hI h200 hk hn4
 obtain ⟨kd, n, nm, tx, ip⟩ := a
 simp only at hk hn0 hn4 hk1 hkd
 obtain ⟨k, rfl⟩ : ∃ k : Nat, n = k := ⟨n.toNat, by omega⟩
 have hk4 : k < 4 := by omega
 obtain ⟨u, rfl, _, _, hnm, htx, hin⟩ := ha
 obtain ⟨A, c, rfl, _⟩ := rSl.elems hin
 cases ho : (st.ses k).opn
 ·exact Y9n w h hin hI hnm htx h200 hk4 hk ho
 obtain ⟨f, hv⟩ := hok.inv hk4 ho
 have hcs : kd = 2 \/ kd = 3 \/ kd = 4 \/ kd = 5 \/ kd = 6 \/ kd = 7 := by omega
 rcases hcs with rfl | rfl | rfl | rfl | rfl | rfl
 ·exact X0r w h hin hI hnm htx h200 hk4 ho hv hlib
 ·cases hnd : Z2b nm
  ·exact Y7l w h hin hI hnm htx h200 hk4 ho hnd
  ·exact Y9j w h hin hI hnm htx h200 hk4 ho hnd hv
 ·cases hnd : Z2b nm
  ·exact Y7m w h hin hI hnm htx h200 hk4 ho hnd
  ·exact X0p w h hin hI hnm htx h200 hk4 ho hnd hv hlib
 ·exact X0n w h hin hI hnm htx h200 hk4 ho hv
 ·exact Y5f w h hin hI hnm htx h200 hk4 ho hv hlib
 ·exact Y7k w h hin hI hnm htx h200 hk4 ho
structure XGood (n m : Nat) (x : Ses) : Prop where
 fr : x.opn = true -> ∃ f : Nat, x.frm = f /\ f < n
 mn : Neat x.mine m m
 gl : x.gone.length <= m
 rl : x.read.length <= 1000 * m
structure SGood (st : Sto) : Prop where
 ne : 0 < st.states.length
 le : st.states.length <= 40
 chk : ∀ b ∈ st.states, (Z0g b).2.2 = 0
 ac : st.acts <= 200
 ses : ∀ k, XGood st.states.length st.acts (st.ses k)
theorem Neat.bk0 (nd nt : Nat) : Neat bk0 nd nt := ⟨jC, jC, jH _, jH _⟩
theorem XGood.ses0 (n m : Nat) : XGood n m ses0 := ⟨fun h => Bool.noConfusion h, Neat.bk0 _ _, jH _, jH _⟩
theorem XGood.mono {n m n' m' : Nat} {x : Ses} (h : XGood n m x) (hn : n <= n') (hm : m <= m') : XGood n' m' x :=
 ⟨fun ho => by obtain ⟨f, h1, h2⟩ := h.fr ho; exact ⟨f, h1, by omega⟩, h.mn.mono hm hm, nT h.gl hm, nT h.rl (Nat.mul_le_mul_left _ hm)⟩
theorem Z6u {b : Bk} (h : (Z0g b).2.2 = 0) : Neat b 4 4 := by
 have hc := Y90 h
 exact ⟨hc.domNames, hc.tabNames, hc.dl, hc.tl⟩
theorem SGood.ok {st : Sto} (h : SGood st) : SOk st := by
 have := h.ac
 exact ⟨h.ne, h.le, fun b hb => Z6u (h.chk b hb), fun k _ => (h.ses k).fr, fun k _ => (h.ses k).mn.mono (by omega) (by omega), fun k _ => by have := (h.ses k).gl; omega, fun k _ => by have := (h.ses k).rl; omega⟩
theorem SGood.start : SGood sto0 := by
 refine ⟨by decide, by decide, fun b hb => ?_, by decide, fun k => XGood.ses0 _ _⟩
 obtain rfl : b = bk0 := by simpa [sto0] using hb
 rfl
theorem SGood.put {st : Sto} (h : SGood st) {k : Nat} {x : Ses} (hx : XGood st.states.length st.acts x) : SGood (st.put k x) :=
 ⟨h.ne, h.le, h.chk, h.ac, fun j => by
  show XGood _ _ (if j = k then x else st.ses j)
  split
  ·exact hx
  ·exact h.ses j⟩
theorem SGood.up {st : Sto} (h : SGood st) (ha : ¬ 200 <= st.acts) : SGood st.up :=
 ⟨h.ne, h.le, h.chk, by show st.acts + 1 <= 200; omega, fun k => (h.ses k).mono (nR _) (jD _)⟩
theorem Z9o (b : Bk) (l : List Txt) : (Z12 b l).length <= l.length + b.doms.length + b.tabs.length := by
 have := Z56 Z08 (Z0q b) l
 simp only [Z0q, jB, List.length_map] at this
 unfold Z12
 simp only [Z0q]
 omega
theorem SGood.step {st : Sto} (h : SGood st) (a : Acn) : SGood (doS st a).2 := by
 unfold doS
 split
 ·exact h
 rename_i h200
 have hu := h.up h200
 have hua : st.up.acts = st.acts + 1 := rfl
 split
 ·exact hu
 split
 ·unfold Z40
  split
  ·exact hu
  ·split
   ·refine hu.put ⟨fun _ => ⟨st.up.states.length - 1, ?_, ?_⟩, Neat.bk0 _ _, jH _, jH _⟩
    ·have := hu.ne
     show (st.up.states.length : Int) - 1 = _
     omega
    ·have := hu.ne
     omega
   ·exact hu
 split
 ·exact hu
 split
 ·exact hu
 generalize hk : a.n.toNat = k
 have hx := h.ses k
 have hxu := hu.ses k
 have hxe : st.up.ses k = st.ses k := rfl
 have hse : st.up.states = st.states := rfl
 unfold Y0c
 rw [hxe]
 rw [hxe] at hxu
 split
 ·refine hu.put ?_
  unfold putB
  split
  ·exact hxu
  ·split
   ·exact ⟨hx.fr, (Z6w hx.mn _).mono (jD _) (nR _), nT (Z08 _ _) (jG hx.gl), by have := hxu.rl; exact this⟩
   ·exact ⟨hx.fr, (Z6v hx.mn _).mono (nR _) (jD _), nT (Z08 _ _) (jG hx.gl), by have := hxu.rl; exact this⟩
 split
 ·exact hu.put ⟨hx.fr, (hx.mn.without _).mono (jD _) (jD _), nT (Z08 _ _) (jG hx.gl), by have := hxu.rl; exact this⟩
 split
 ·refine hu.put ⟨hx.fr, hxu.mn, hxu.gl, ?_⟩
  have h1 := Z08 (st.ses k).read a.name
  have h2 := hx.rl
  show (addN (st.ses k).read a.name).length <= 1000 * (st.acts + 1)
  omega
 split
 ·refine hu.put ⟨hx.fr, hxu.mn, hxu.gl, ?_⟩
  have hb4 : Neat (st.up.at (st.ses k).frm) 4 4 := by
   unfold Sto.at
   rw [hse]
   rcases hg : st.states[(st.ses k).frm.toNat]? with _ | b
   ·exact Neat.bk0 _ _
   ·exact Z6u (h.chk b (List.mem_of_getElem? hg))
  have hv := hb4.view (st.ses k)
  have h1 := Z9o (st.up.at (st.ses k).frm) (st.ses k).read
  have h2 := Z9o (Z2l (st.up.at (st.ses k).frm) (st.ses k)) (Z12 (st.up.at (st.ses k).frm) (st.ses k).read)
  have h3 := Z08 (Z12 (Z2l (st.up.at (st.ses k).frm) (st.ses k)) (Z12 (st.up.at (st.ses k).frm) (st.ses k).read)) []
  have h4 := hx.rl
  have h5 := hb4.ld
  have h6 := hb4.lt
  have h7 := hv.ld
  have h8 := hv.lt
  have h9 := hx.mn.ld
  have h10 := hx.mn.lt
  have h11 := h.ac
  show (if (st.ses k).strict then _ else _ : List Txt).length <= 1000 * (st.acts + 1)
  split <;> omega
 split
 ·have hc : SGood (st.up.put k ses0) := hu.put (XGood.ses0 _ _)
  unfold Z1v
  split
  ·exact hc
  ·split
   ·exact hc
   ·split
    ·exact hc
    ·split
     ·exact hc
     ·rename_i h40 hck
      refine ⟨by simp, by rw [jB]; simp only [List.length_singleton]; omega, fun b hb => ?_, hc.ac, fun j => (hc.ses j).mono (by show _ <= (st.up.states ++ [_]).length; rw [jB]; exact Nat.le_add_right _ _) (nR _)⟩
      rcases List.mem_append.1 hb with hb | hb
      ·exact h.chk b hb
      ·obtain rfl := List.mem_singleton.1 hb
       simpa using hck
 ·exact hu.put (XGood.ses0 _ _)
theorem Z89 {C T : Nat -> Prop} {sb : Nat} {st : Sto} (w : World) (h : StoAt w sb C T st) :
  Calls Tryz.prog 12 #[.pointer (some ⟨sb, 0, none⟩)] w fun e w' => ∃ u, e = .returned u /\ Own rBk 38 w' w.heap.size (fun _ => False) u st.states /\ Below w.heap.size w w' := by
 obtain ⟨v, h0, h1, _⟩ := h.row
 exact Y39 (S := fun q => q < w.heap.size) w h0 ((rSl rBk).mono (h1.self.rel (by decide)) fun q _ hl => hl) fun q hq => hq
def Z6p : Acn := ⟨1, 0, [], [], []⟩
def Y07 : Acn := ⟨2, 0, [], [100, 111, 109, 97, 105, 110, 32, 97, 32, 49, 46, 46, 57], []⟩
def Z5z : Acn := ⟨6, 0, [], [], []⟩
theorem Y4a : (doS sto0 Z6p).1 = ⟨0, 0, [], [], []⟩ := by rfl
theorem Y5v : (doS (doS sto0 Z6p).2 Y07).1.code = 0 := by kernel_rfl
theorem Y08 : (doS (doS (doS sto0 Z6p).2 Y07).2 Z5z).1.code = 0 /\ (doS (doS (doS sto0 Z6p).2 Y07).2 Z5z).1.n = 1 /\ (doS (doS (doS sto0 Z6p).2 Y07).2 Z5z).2.states.length = 2 := by
 refine ⟨by kernel_rfl, by kernel_rfl, by kernel_rfl⟩
structure At (w0 w : World) (sb : Nat) (C T : Nat -> Prop) (st : Sto) : Prop where
 sto : StoAt w sb C T st
 bl : Below w0.heap.size w0 w
 cn : ∀ q, C q -> w0.heap.size <= q
 tn : ∀ q, T q -> w0.heap.size <= q
 lib : LibC C w
 ok : SGood st
theorem At.below {w0 w w' : World} {sb : Nat} {C T : Nat -> Prop} {st : Sto} (h : At w0 w sb C T st) (hb : Below w.heap.size w w') : At w0 w' sb C T st :=
 ⟨h.sto.below hb, h.bl.trans (hb.mono h.bl.size), h.cn, h.tn, h.lib.below hb, h.ok⟩
theorem At.act {w0 w : World} {sb : Nat} {C T I : Nat -> Prop} {st : Sto} {a : Acn} {as' : List Value} (h : At w0 w sb C T st) (ha : rAcn.rel w I as' a) (hI : ∀ q, I q -> q < w.heap.size /\ ¬ C q) :
  Calls Tryz.prog 11 #[.pointer (some ⟨sb, 0, none⟩), .agg as'.toArray] w fun e w' => ∃ A c B d C' T', e = .returned (.agg #[.int .i64 (doS st a).1.code, .int .i64 (doS st a).1.n, .string ⟨(doS st a).1.text.toArray⟩, .slice A (doS st a).1.ans.length c, .slice B (doS st a).1.at'.length d]) /\
   rRep.rel w' (fun q => w.heap.size <= q /\ ¬ C' q /\ q < w'.heap.size) [.int .i64 (doS st a).1.code, .int .i64 (doS st a).1.n, .string ⟨(doS st a).1.text.toArray⟩, .slice A (doS st a).1.ans.length c, .slice B (doS st a).1.at'.length d] (doS st a).1 /\ At w0 w' sb C' T' (doS st a).2 /\ Chg C w w' /\ (∀ q, C' q -> C q \/ w.heap.size <= q) /\ ∀ q, T' q -> T q \/ w.heap.size <= q := by
 refine (X0m w h.sto ha hI h.ok.ok h.lib).mono ?_
 rintro e w' ⟨rs, C', T', rfl, hr, hs, hc, hC, hT⟩
 obtain ⟨A, c, B, d, rfl⟩ := Z41 hr
 have hz := h.bl.size
 exact ⟨A, c, B, d, C', T', rfl, hr, ⟨hs, h.bl.trans (hc.toBelow hz h.cn), fun q hq => (hC q hq).elim (h.cn q) fun h => by omega, fun q hq => (hT q hq).elim (h.tn q) fun h => by omega, h.lib.chg hc hC, h.ok.step a⟩, hc, hC, hT⟩
theorem At.new (w : World) (hl : LibW w) (hp : PolW w) : Calls Tryz.prog 26 #[] w fun e w' => ∃ sb C T, e = .returned (.pointer (some ⟨sb, 0, none⟩)) /\ At w w' sb C T sto0 := by
 refine (Y9q w).mono ?_
 rintro e w' ⟨rfl, hs, hb⟩
 refine ⟨_, _, _, rfl, hs, hb, fun q hq => by rcases hq with rfl | rfl <;> omega, fun q hq => hq.elim, fun w2 hc => ?_, SGood.start⟩
 have h2 : Below w.heap.size w w2 := hb.trans (hc.toBelow hb.size fun q hq => by rcases hq with rfl | rfl <;> omega)
 exact ⟨hl.below h2, hp.below h2⟩
theorem At.other {w0 w w' : World} {sb : Nat} {C T D : Nat -> Prop} {st : Sto} (h : At w0 w sb C T st) (hl : LibW w0) (hp : PolW w0) (hc : Chg D w w') (hb : Below w0.heap.size w0 w') (hd : ∀ q, D q -> ¬ C q /\ ¬ T q) : At w0 w' sb C T st :=
 ⟨h.sto.keep (hc.keeps fun b hb hD => hb.elim (hd b hD).2 (hd b hD).1) hc.size, hb, h.cn, h.tn, fun w'' h2 => by
  have h3 := hb.trans (h2.toBelow hb.size h.cn)
  exact ⟨hl.below h3, hp.below h3⟩, h.ok⟩
theorem At.lower {w w1 w2 : World} {sb : Nat} {C T : Nat -> Prop} {st : Sto} (h : At w1 w2 sb C T st) (hb : Below w.heap.size w w1) : At w w2 sb C T st :=
 ⟨h.sto, hb.trans (h.bl.mono hb.size), fun q hq => nT hb.size (h.cn q hq), fun q hq => nT hb.size (h.tn q hq), h.lib, h.ok⟩
theorem At.act_at {w0 w : World} {sb : Nat} {C T I : Nat -> Prop} {st st' : Sto} {a : Acn} {as' : List Value} {r : Rep} (hd : doS st a = (r, st')) (h : At w0 w sb C T st) (ha : rAcn.rel w I as' a) (hI : ∀ q, I q -> q < w.heap.size /\ ¬ C q) :
  Calls Tryz.prog 11 #[.pointer (some ⟨sb, 0, none⟩), .agg as'.toArray] w fun e w' => ∃ A c B d C' T', e = .returned (.agg #[.int .i64 r.code, .int .i64 r.n, .string ⟨r.text.toArray⟩, .slice A r.ans.length c, .slice B r.at'.length d]) /\
   rRep.rel w' (fun q => w.heap.size <= q /\ ¬ C' q /\ q < w'.heap.size) [.int .i64 r.code, .int .i64 r.n, .string ⟨r.text.toArray⟩, .slice A r.ans.length c, .slice B r.at'.length d] r /\ At w0 w' sb C' T' st' /\ Chg C w w' /\ (∀ q, C' q -> C q \/ w.heap.size <= q) /\ ∀ q, T' q -> T q \/ w.heap.size <= q := by
 have := h.act ha hI
 rw [hd] at this
 exact this
theorem Y2m (w : World) (kd n : Int) (nm tx : Txt) (h1 : InI kd) (h2 : InI n) (h3 : nm.length <= 140737488355328) (h4 : tx.length <= 140737488355328) : rAcn.rel w (fun _ => False) [.int .i64 kd, .int .i64 n, .string ⟨nm.toArray⟩, .string ⟨tx.toArray⟩, .slice none 0 0] ⟨kd, n, nm, tx, []⟩ :=
 ⟨_, rfl, h1, h2, h3, h4, Z01 _ _⟩
theorem box5 (w : World) (v0 v1 v2 v3 v4 : Value) : ∃ W, w.alloc (.cells #[v0, v1, v2, v3, v4] 30) = W /\ Hid (Below w.heap.size w W) /\ W.cell? ⟨w.heap.size, 0, none⟩ = some v0 /\ W.cell? ⟨w.heap.size, 1, none⟩ = some v1 /\ Hid (w.heap.size < W.heap.size) :=
 ⟨_, rfl, hI9 bA, cN _ _ _ _, cN _ _ _ _, hI9 (by simp)⟩
theorem Y5u (w : World) (hl : LibW w) (hp : PolW w) : Calls Tryz.prog 52 #[] w fun e w' => e = .returned (.bool true) /\ Below w.heap.size w w' := by
 obtain ⟨⟨r1, s1⟩, h1⟩ : ∃ z, doS sto0 Z6p = z := ⟨_, rfl⟩
 obtain ⟨⟨r2, s2⟩, h2⟩ : ∃ z, doS s1 Y07 = z := ⟨_, rfl⟩
 obtain ⟨⟨r3, s3⟩, h3⟩ : ∃ z, doS s2 Z5z = z := ⟨_, rfl⟩
 have k1 : r1.code = 0 := by have := Y4a; rw [h1] at this; rw [show r1 = _ from this]
 have k2 : r2.code = 0 := by have := Y5v; rw [h1, h2] at this; exact this
 have k3 : r3.code = 0 /\ r3.n = 1 /\ s3.states.length = 2 := by have := Y08; rw [h1, h2, h3] at this; exact this
 obtain ⟨k3, k4, k5⟩ := k3
 have HH1 := hI9 h1
 have HH2 := hI9 h2
 have HH3 := hI9 h3
 have HNEW := hI9 (At.new w hl hp)
 clear h1 h2 h3 hl hp
 have HF : Hid (∀ (w : World) (C : Nat -> Prop) (q : Nat), False -> q < w.heap.size /\ ¬ C q) := hI9 fun _ _ _ h => h.elim
 go_enter Tryz.func52, Tryz.ntmps52
 go_upto_region 4 with (first
  | (go_at_call 26; (with_reducible refine HNEW.out.mono ?_); rintro e w1 ⟨sb, C1, T1, rfl, hA1⟩; have HA1 := hI9 hA1; clear hA1))
 go_upto_region 7 with (first
  | (go_at_call 11; first | (((refine Calls.mono (HA1.out.act_at HH1.out (Y2m w1 1 0 [] [] ⟨by decide, by decide⟩ ⟨by decide, by decide⟩ (by simp) (by simp)) (HF.out w1 C1)) ?_); rintro e v2 ⟨A2, c2, B2, d2, C2, T2, rfl, _, hA2, hc2, hC2, _⟩; obtain ⟨W2, e2, HB2, x2, y2, HS2⟩ := box5 v2 (.int .i64 0) (.int .i64 r1.n) (.string ⟨r1.text.toArray⟩) (.slice A2 r1.ans.length c2) (.slice B2 r1.at'.length d2); have HA2 := hI9 (hA2.below HB2.out); have HW2 := hI9 hA2.sto.cw; clear hA2 hc2 hC2)) | (((refine Calls.mono (HA2.out.act_at HH2.out (Y2m W2 2 0 [] [100, 111, 109, 97, 105, 110, 32, 97, 32, 49, 46, 46, 57] ⟨by decide, by decide⟩ ⟨by decide, by decide⟩ (by simp) (by simp)) (HF.out W2 C2)) ?_); rintro e v3 ⟨A3, c3, B3, d3, C3, T3, rfl, _, hA3, hc3, hC3, _⟩; obtain ⟨W3, e3, HB3, x3, y3, HS3⟩ := box5 v3 (.int .i64 0) (.int .i64 r2.n) (.string ⟨r2.text.toArray⟩) (.slice A3 r2.ans.length c3) (.slice B3 r2.at'.length d3); have HA3 := hI9 (hA3.below HB3.out); have HW3 := hI9 hA3.sto.cw; have x2b := (HB3.out.ce 0 (jF HS2.out hc3.size)).trans ((jI (a := ⟨v2.heap.size, 0, none⟩) (hc3.block v2.heap.size HS2.out (fun h => jE _ (HW2.out _ h)))).trans x2); have HN3 : Hid (¬ C3 v2.heap.size) := hI9 (fun h => by (rcases hC3 _ h with h | h; exact jE _ (HW2.out _ h); (have := HS2.out; omega))); have HS3b : Hid (v2.heap.size < W3.heap.size) := hI9 (World.block_lt_of_cell? _ _ x2b); clear x2; clear hA3 hc3 hC3)) | (((refine Calls.mono (HA3.out.act_at HH3.out (Y2m W3 6 0 [] [] ⟨by decide, by decide⟩ ⟨by decide, by decide⟩ (by simp) (by simp)) (HF.out W3 C3)) ?_); rintro e v4 ⟨A4, c4, B4, d4, C4, T4, rfl, _, hA4, hc4, hC4, _⟩; obtain ⟨W4, e4, HB4, x4, y4, HS4⟩ := box5 v4 (.int .i64 0) (.int .i64 1) (.string ⟨r3.text.toArray⟩) (.slice A4 r3.ans.length c4) (.slice B4 r3.at'.length d4); have HA4 := hI9 (hA4.below HB4.out); have x2c := (HB4.out.ce 0 (jF HS3b.out hc4.size)).trans ((jI (a := ⟨v2.heap.size, 0, none⟩) (hc4.block v2.heap.size HS3b.out HN3.out)).trans x2b); have x3b := (HB4.out.ce 0 (jF HS3.out hc4.size)).trans ((jI (a := ⟨v3.heap.size, 0, none⟩) (hc4.block v3.heap.size HS3.out (fun h => jE _ (HW3.out _ h)))).trans x3); clear x2b x3; clear hA4 hc4 hC4))))
 have HST := hI9 (Z89 W4 HA4.out.sto)
 have HK5 := hI9 k5
 go_wp2_with (go_at_call 12; (with_reducible refine HST.out.mono ?_); rintro e w9 ⟨u9, rfl, ho9, hb9⟩; obtain ⟨A9, c9, e9⟩ := ho9.value; rw [HK5.out] at e9; subst e9; have HB9 := hI9 hb9; clear ho9 hb9)
 go_ret
 exact ⟨rfl, HA4.out.bl.trans (HB9.out.mono HA4.out.bl.size)⟩
def Z6h (l : List Acn) (n : Nat) : Sto := (l.take n).foldl (fun s a => (doS s a).2) sto0
theorem Y26 {l : List Acn} {n : Nat} {a : Acn} (h : l[n]? = some a) : Z6h l (n + 1) = (doS (Z6h l n) a).2 := by
 unfold Z6h
 rw [Z0b h, List.foldl_append]
 rfl
theorem Elems.acn {w : World} {S : Nat -> Prop} {A : Option Addr} {l : List Acn} (h : Elems rAcn w S A l) {i : Nat} (hi : i < l.length) : ∃ b off a I c, A = some ⟨b, off, none⟩ /\ S b /\ b < w.heap.size /\ l[i]? = some a /\ rAcn.rel w S [.int .i64 a.kind, .int .i64 a.n, .string ⟨a.name.toArray⟩, .string ⟨a.text.toArray⟩, .slice I a.inp.length c] a /\
  w.cell? ⟨b, off + i * 5, none⟩ = some (.int .i64 a.kind) /\ w.cell? ⟨b, off + i * 5 + 1, none⟩ = some (.int .i64 a.n) /\ w.cell? ⟨b, off + i * 5 + 2, none⟩ = some (.string ⟨a.name.toArray⟩) /\ w.cell? ⟨b, off + i * 5 + 3, none⟩ = some (.string ⟨a.text.toArray⟩) /\ w.cell? ⟨b, off + i * 5 + 4, none⟩ = some (.slice I a.inp.length c) := by
 obtain ⟨b, off, es, hA, hS, hb, hr, hc⟩ := h i l[i] (jA hi)
 have hr' := hr
 obtain ⟨u, rfl, _, _, _, _, hin⟩ := hr
 obtain ⟨I, c, rfl, _⟩ := rSl.elems hin
 exact ⟨b, off, l[i], I, c, hA, hS, hb, jA hi, hr', hc 0 _ rfl, hc 1 _ rfl, hc 2 _ rfl, hc 3 _ rfl, hc 4 _ rfl⟩
theorem X0y {w v W : World} {q o : Nat} {u0 u1 u2 u3 u4 : Value} (h : v.heap[q]? = w.heap[q]?) (hq : q < v.heap.size) (hb : Below v.heap.size v W) (g0 : w.cell? ⟨q, o, none⟩ = some u0) (g1 : w.cell? ⟨q, o + 1, none⟩ = some u1) (g2 : w.cell? ⟨q, o + 2, none⟩ = some u2) (g3 : w.cell? ⟨q, o + 3, none⟩ = some u3) (g4 : w.cell? ⟨q, o + 4, none⟩ = some u4) :
  W.cell? ⟨q, o, none⟩ = some u0 /\ W.cell? ⟨q, o + 1, none⟩ = some u1 /\ W.cell? ⟨q, o + 2, none⟩ = some u2 /\ W.cell? ⟨q, o + 3, none⟩ = some u3 /\ W.cell? ⟨q, o + 4, none⟩ = some u4 := by
 have k : ∀ j, W.cell? ⟨q, j, none⟩ = w.cell? ⟨q, j, none⟩ := fun j => (hb.ce j hq).trans (jI (a := ⟨q, j, none⟩) h)
 exact ⟨(k _).trans g0, (k _).trans g1, (k _).trans g2, (k _).trans g3, (k _).trans g4⟩
theorem X1m (w : World) (v0 v1 v2 v3 v4 : Value) : ∃ W, w.alloc (.cells #[v0, v1, v2, v3, v4] 30) = W /\ Hid (Below w.heap.size w W) /\ W.cell? ⟨w.heap.size, 0, none⟩ = some v0 /\ W.cell? ⟨w.heap.size, 1, none⟩ = some v1 /\ W.cell? ⟨w.heap.size, 2, none⟩ = some v2 /\ W.cell? ⟨w.heap.size, 3, none⟩ = some v3 /\ W.cell? ⟨w.heap.size, 4, none⟩ = some v4 /\ Hid (W.heap.size = w.heap.size + 1) :=
 ⟨_, rfl, hI9 bA, cN _ _ _ _, cN _ _ _ _, cN _ _ _ _, cN _ _ _ _, cN _ _ _ _, hI9 (by simp)⟩
theorem Y6z {w : World} {S : Nat -> Prop} {ys : List Value} {x : Ses} (h : rSes.rel w S ys x) : ∃ D dc B bc G gc R rc, ys = [.bool x.opn, .bool x.strict, .int .i64 x.frm, .slice D x.mine.doms.length dc, .slice B x.mine.tabs.length bc, .slice G x.gone.length gc, .slice R x.read.length rc] /\ InI x.frm /\
  rBk.rel w S [.slice D x.mine.doms.length dc, .slice B x.mine.tabs.length bc] x.mine /\ (rSl rStr).rel w S [.slice G x.gone.length gc] x.gone /\ (rSl rStr).rel w S [.slice R x.read.length rc] x.read := by
 obtain ⟨v, u, g, r, rfl, h0, h1, h2, h3, h4⟩ := h
 obtain ⟨D, dc, rfl, _⟩ := rSl.elems h1
 obtain ⟨B, bc, rfl, _⟩ := rSl.elems h2
 obtain ⟨G, gc, rfl, _⟩ := rSl.elems h3
 obtain ⟨R, rc, rfl, _⟩ := rSl.elems h4
 exact ⟨D, dc, B, bc, G, gc, R, rc, rfl, h0, ⟨_, _, rfl, h1, h2⟩, h3, h4⟩
