import Derived.Test.YtlopccnehgolnabGreatDoorGPromises49
import Derived.Test.YtlopccnehgolnabGreatDoorGPromises33
import Derived.Test.YtlopccnehgolnabGreatDoorGPromises28
namespace Go.Proofs.YtlopccnehgolnabGreatDoor
open Go.RowKit Rb
open Go.Lib renaming hid -> hI9
open Go.World renaming cell?_alloc_new -> cN, block_lt_of_cell? -> jI, cell?_of_block -> jJ
open Nat renaming lt_of_lt_of_le -> nL, le_trans -> nT, le_refl -> nR, le_succ -> jE, lt_irrefl -> jF, succ_le_succ -> jG, zero_le -> jH
open List renaming getElem?_eq_getElem -> jA, length_append -> jB, nodup_nil -> jC, take_of_length_le -> jD
set_option maxRecDepth 100000
set_option maxHeartbeats 3200000
structure SOk (st : Sto) : Prop where
 ne : 0 < st.states.length
 le : st.states.length <= 40
 bk : ∀ b ∈ st.states, Neat b 4 4
 ses : ∀ k, k < 4 -> (st.ses k).opn = true -> (∃ f : Nat, (st.ses k).frm = f /\ f < st.states.length)
 mn : ∀ k, k < 4 -> Neat (st.ses k).mine 1000 1000
 gl : ∀ k, k < 4 -> (st.ses k).gone.length <= 1000
 rl : ∀ k, k < 4 -> (st.ses k).read.length <= 1000000
theorem SOk.inv {st : Sto} {k : Nat} (h : SOk st) (hk : k < 4) (ho : (st.ses k).opn = true) : ∃ f, SesInv st k f := by
 obtain ⟨f, h1, h2⟩ := h.ses k hk ho
 exact ⟨f, h.mn k hk, h.gl k hk, h.rl k hk, h1, h2, h.bk, h.le⟩
theorem X3i {C T I : Nat -> Prop} {sb : Nat} {st : Sto} {a : Acn} {as' : List Value} (w : World) (h : StoAt w sb C T st) (ha : rAcn.rel w I as' a) (hI : ∀ q, I q -> q < w.heap.size /\ ¬ C q) (hok : SOk st) (hlib : LibC C w) :
  Calls Tryz.prog 38 #[.pointer (some ⟨sb, 0, none⟩), .agg as'.toArray] w fun e w' => Z1q w sb C T (doS st a).1 (doS st a).2 e w' := by
 by_cases h200 : 200 <= st.acts
 ·exact X2g w h ha hI h200
 by_cases hkd : a.kind < 1 \/ 7 < a.kind
 ·exact X2h w h ha hI h200 hkd
 by_cases hk1 : a.kind = 1
 ·exact X2i w h ha hI h200 hk1 hok.ne
 have hk : 2 <= a.kind /\ a.kind <= 7 := by omega
 by_cases hn0 : a.n < 0
 ·exact X3m w h ha hI h200 hk hn0
 by_cases hn4 : 4 <= a.n
 ·exact X3k w h ha hI h200 hk hn4
 obtain ⟨kd, n, nm, tx, ip⟩ := a
 simp only at hk hn0 hn4 hk1 hkd
 obtain ⟨k, rfl⟩ : ∃ k : Nat, n = k := ⟨n.toNat, by omega⟩
 have hk4 : k < 4 := by omega
 obtain ⟨u, rfl, _, _, hnm, htx, hin⟩ := ha
 obtain ⟨A, c, rfl, _⟩ := rSl.elems hin
 cases ho : (st.ses k).opn
 ·exact X2j w h hin hI hnm htx h200 hk4 hk ho
 obtain ⟨f, hv⟩ := hok.inv hk4 ho
 have hcs : kd = 2 \/ kd = 3 \/ kd = 4 \/ kd = 5 \/ kd = 6 \/ kd = 7 := by omega
 rcases hcs with rfl | rfl | rfl | rfl | rfl | rfl
 ·exact X3n w h hin hI hnm htx h200 hk4 ho hv hlib
 ·cases hnd : Z2r nm
  ·exact Y95 w h hin hI hnm htx h200 hk4 ho hnd
  ·exact X2f w h hin hI hnm htx h200 hk4 ho hnd hv
 ·cases hnd : Z2r nm
  ·exact Y96 w h hin hI hnm htx h200 hk4 ho hnd
  ·exact X3l w h hin hI hnm htx h200 hk4 ho hnd hv hlib
 ·exact X3j w h hin hI hnm htx h200 hk4 ho hv
 ·exact Y7i w h hin hI hnm htx h200 hk4 ho hv hlib
 ·exact Y94 w h hin hI hnm htx h200 hk4 ho
structure XGood (n m : Nat) (x : Ses) : Prop where
 fr : x.opn = true -> ∃ f : Nat, x.frm = f /\ f < n
 mn : Neat x.mine m m
 gl : x.gone.length <= m
 rl : x.read.length <= 1000 * m
structure SGood (st : Sto) : Prop where
 ne : 0 < st.states.length
 le : st.states.length <= 40
 chk : ∀ b ∈ st.states, (Z0g b).2.2 = 0
 ac : st.acts <= 200
 ses : ∀ k, XGood st.states.length st.acts (st.ses k)
theorem Neat.bk0 (nd nt : Nat) : Neat bk0 nd nt := ⟨jC, jC, jH _, jH _⟩
theorem XGood.ses0 (n m : Nat) : XGood n m ses0 := ⟨fun h => Bool.noConfusion h, Neat.bk0 _ _, jH _, jH _⟩
theorem XGood.mono {n m n' m' : Nat} {x : Ses} (h : XGood n m x) (hn : n <= n') (hm : m <= m') : XGood n' m' x :=
 ⟨fun ho => by obtain ⟨f, h1, h2⟩ := h.fr ho; exact ⟨f, h1, by omega⟩, h.mn.mono hm hm, nT h.gl hm, nT h.rl (Nat.mul_le_mul_left _ hm)⟩
theorem Y0y {b : Bk} (h : (Z0g b).2.2 = 0) : Neat b 4 4 := by
 have hc := Y8c h
 exact ⟨hc.domNames, hc.tabNames, hc.dl, hc.tl⟩
theorem SGood.ok {st : Sto} (h : SGood st) : SOk st := by
 have := h.ac
 exact ⟨h.ne, h.le, fun b hb => Y0y (h.chk b hb), fun k _ => (h.ses k).fr, fun k _ => (h.ses k).mn.mono (by omega) (by omega), fun k _ => by have := (h.ses k).gl; omega, fun k _ => by have := (h.ses k).rl; omega⟩
theorem SGood.start : SGood sto0 := by
 refine ⟨by decide, by decide, fun b hb => ?_, by decide, fun k => XGood.ses0 _ _⟩
 obtain rfl : b = bk0 := by simpa [sto0] using hb
 rfl
theorem SGood.put {st : Sto} (h : SGood st) {k : Nat} {x : Ses} (hx : XGood st.states.length st.acts x) : SGood (st.put k x) :=
 ⟨h.ne, h.le, h.chk, h.ac, fun j => by
  show XGood _ _ (if j = k then x else st.ses j)
  split
  ·exact hx
  ·exact h.ses j⟩
theorem SGood.up {st : Sto} (h : SGood st) (ha : ¬ 200 <= st.acts) : SGood st.up :=
 ⟨h.ne, h.le, h.chk, by show st.acts + 1 <= 200; omega, fun k => (h.ses k).mono (nR _) (jE _)⟩
theorem Y02 (b : Bk) (l : List Txt) : (Z2k b l).length <= l.length + b.doms.length + b.tabs.length := by
 have := Z6x Z1i (Z0x b) l
 simp only [Z0x, jB, List.length_map] at this
 unfold Z2k
 simp only [Z0x]
 omega
theorem SGood.step {st : Sto} (h : SGood st) (a : Acn) : SGood (doS st a).2 := by
 unfold doS
 split
 ·exact h
 rename_i h200
 have hu := h.up h200
 have hua : st.up.acts = st.acts + 1 := rfl
 split
 ·exact hu
 split
 ·unfold Z6h
  split
  ·exact hu
  ·split
   ·refine hu.put ⟨fun _ => ⟨st.up.states.length - 1, ?_, ?_⟩, Neat.bk0 _ _, jH _, jH _⟩
    ·have := hu.ne
     show (st.up.states.length : Int) - 1 = _
     omega
    ·have := hu.ne
     omega
   ·exact hu
 split
 ·exact hu
 split
 ·exact hu
 generalize hk : a.n.toNat = k
 have hx := h.ses k
 have hxu := hu.ses k
 have hxe : st.up.ses k = st.ses k := rfl
 have hse : st.up.states = st.states := rfl
 unfold Y27
 rw [hxe]
 rw [hxe] at hxu
 split
 ·refine hu.put ?_
  unfold putB
  split
  ·exact hxu
  ·split
   ·exact ⟨hx.fr, (Z7t hx.mn _).mono (jE _) (nR _), nT (Z1i _ _) (jG hx.gl), by have := hxu.rl; exact this⟩
   ·exact ⟨hx.fr, (Z7s hx.mn _).mono (nR _) (jE _), nT (Z1i _ _) (jG hx.gl), by have := hxu.rl; exact this⟩
 split
 ·exact hu.put ⟨hx.fr, (hx.mn.without _).mono (jE _) (jE _), nT (Z1i _ _) (jG hx.gl), by have := hxu.rl; exact this⟩
 split
 ·refine hu.put ⟨hx.fr, hxu.mn, hxu.gl, ?_⟩
  have h1 := Z1i (st.ses k).read a.name
  have h2 := hx.rl
  show (addN (st.ses k).read a.name).length <= 1000 * (st.acts + 1)
  omega
 split
 ·refine hu.put ⟨hx.fr, hxu.mn, hxu.gl, ?_⟩
  have hb4 : Neat (st.up.at (st.ses k).frm) 4 4 := by
   unfold Sto.at
   rw [hse]
   rcases hg : st.states[(st.ses k).frm.toNat]? with _ | b
   ·exact Neat.bk0 _ _
   ·exact Y0y (h.chk b (List.mem_of_getElem? hg))
  have hv := hb4.view (st.ses k)
  have h1 := Y02 (st.up.at (st.ses k).frm) (st.ses k).read
  have h2 := Y02 (Z3x (st.up.at (st.ses k).frm) (st.ses k)) (Z2k (st.up.at (st.ses k).frm) (st.ses k).read)
  have h3 := Z1i (Z2k (Z3x (st.up.at (st.ses k).frm) (st.ses k)) (Z2k (st.up.at (st.ses k).frm) (st.ses k).read)) []
  have h4 := hx.rl
  have h5 := hb4.ld
  have h6 := hb4.lt
  have h7 := hv.ld
  have h8 := hv.lt
  have h9 := hx.mn.ld
  have h10 := hx.mn.lt
  have h11 := h.ac
  show (if (st.ses k).strict then _ else _ : List Txt).length <= 1000 * (st.acts + 1)
  split <;> omega
 split
 ·have hc : SGood (st.up.put k ses0) := hu.put (XGood.ses0 _ _)
  unfold Z2p
  split
  ·exact hc
  ·split
   ·exact hc
   ·split
    ·exact hc
    ·split
     ·exact hc
     ·rename_i h40 hck
      refine ⟨by simp, by rw [jB]; simp only [List.length_singleton]; omega, fun b hb => ?_, hc.ac, fun j => (hc.ses j).mono (by show _ <= (st.up.states ++ [_]).length; rw [jB]; exact Nat.le_add_right _ _) (nR _)⟩
      rcases List.mem_append.1 hb with hb | hb
      ·exact h.chk b hb
      ·obtain rfl := List.mem_singleton.1 hb
       simpa using hck
 ·exact hu.put (XGood.ses0 _ _)
theorem Y0j {C T : Nat -> Prop} {sb : Nat} {st : Sto} (w : World) (h : StoAt w sb C T st) :
  Calls Tryz.prog 10 #[.pointer (some ⟨sb, 0, none⟩)] w fun e w' => ∃ u, e = .returned u /\ Own rBk 33 w' w.heap.size (fun _ => False) u st.states /\ Below w.heap.size w w' := by
 obtain ⟨v, h0, h1, _⟩ := h.row
 exact Y58 (S := fun q => q < w.heap.size) w h0 ((rSl rBk).mono (h1.self.rel (by decide)) fun q _ hl => hl) fun q hq => hq
theorem Y89 (x : Value) (as' rs : List Value) (ha : as'.length = 5) (hr : rs.length = 5) (w : World) : Calls Tryz.prog 9 #[x, .agg as'.toArray, .agg rs.toArray] w fun e w' => e = .returned (.bool true) /\ Below w.heap.size w w' := by
 obtain ⟨a0, a1, a2, a3, a4, rfl⟩ : ∃ a0 a1 a2 a3 a4, as' = [a0, a1, a2, a3, a4] := by
  match as', ha with
  | [a0, a1, a2, a3, a4], _ => exact ⟨a0, a1, a2, a3, a4, rfl⟩
 obtain ⟨r0, r1, r2, r3, r4, rfl⟩ : ∃ a0 a1 a2 a3 a4, rs = [a0, a1, a2, a3, a4] := by
  match rs, hr with
  | [a0, a1, a2, a3, a4], _ => exact ⟨a0, a1, a2, a3, a4, rfl⟩
 obtain ⟨W1, e1, HB⟩ : ∃ W1, (w.alloc (.cells #[a0, a1, a2, a3, a4] 83)).alloc (.cells #[r0, r1, r2, r3, r4] 80) = W1 /\ Hid (Below w.heap.size w W1) := ⟨_, rfl, hI9 (bA.alloc (by simp) _)⟩
 clear ha hr
 go_enter Tryz.func9, Tryz.ntmps9
 go_wp2
 go_ret
 exact ⟨rfl, HB.out⟩
def Z7i : Acn := ⟨1, 0, [], [], []⟩
def Y2p : Acn := ⟨2, 0, [], [100, 111, 109, 97, 105, 110, 32, 97, 32, 49, 46, 46, 57], []⟩
def Z6p : Acn := ⟨6, 0, [], [], []⟩
theorem Y59 : (doS sto0 Z7i).1 = ⟨0, 0, [], [], []⟩ := by rfl
theorem Y7y : (doS (doS sto0 Z7i).2 Y2p).1.code = 0 := by kernel_rfl
theorem Y2q : (doS (doS (doS sto0 Z7i).2 Y2p).2 Z6p).1.code = 0 /\ (doS (doS (doS sto0 Z7i).2 Y2p).2 Z6p).1.n = 1 /\ (doS (doS (doS sto0 Z7i).2 Y2p).2 Z6p).2.states.length = 2 := by
 refine ⟨by kernel_rfl, by kernel_rfl, by kernel_rfl⟩
structure At (w0 w : World) (sb : Nat) (C T : Nat -> Prop) (st : Sto) : Prop where
 sto : StoAt w sb C T st
 bl : Below w0.heap.size w0 w
 cn : ∀ q, C q -> w0.heap.size <= q
 tn : ∀ q, T q -> w0.heap.size <= q
 lib : LibC C w
 ok : SGood st
theorem At.below {w0 w w' : World} {sb : Nat} {C T : Nat -> Prop} {st : Sto} (h : At w0 w sb C T st) (hb : Below w.heap.size w w') : At w0 w' sb C T st :=
 ⟨h.sto.below hb, h.bl.trans (hb.mono h.bl.size), h.cn, h.tn, h.lib.below hb, h.ok⟩
theorem At.act {w0 w : World} {sb : Nat} {C T I : Nat -> Prop} {st : Sto} {a : Acn} {as' : List Value} (h : At w0 w sb C T st) (ha : rAcn.rel w I as' a) (hI : ∀ q, I q -> q < w.heap.size /\ ¬ C q) :
  Calls Tryz.prog 38 #[.pointer (some ⟨sb, 0, none⟩), .agg as'.toArray] w fun e w' => ∃ A c B d C' T', e = .returned (.agg #[.int .i64 (doS st a).1.code, .int .i64 (doS st a).1.n, .string ⟨(doS st a).1.text.toArray⟩, .slice A (doS st a).1.ans.length c, .slice B (doS st a).1.at'.length d]) /\
   rRep.rel w' (fun q => w.heap.size <= q /\ ¬ C' q /\ q < w'.heap.size) [.int .i64 (doS st a).1.code, .int .i64 (doS st a).1.n, .string ⟨(doS st a).1.text.toArray⟩, .slice A (doS st a).1.ans.length c, .slice B (doS st a).1.at'.length d] (doS st a).1 /\ At w0 w' sb C' T' (doS st a).2 /\ Chg C w w' /\ (∀ q, C' q -> C q \/ w.heap.size <= q) /\ ∀ q, T' q -> T q \/ w.heap.size <= q := by
 refine (X3i w h.sto ha hI h.ok.ok h.lib).mono ?_
 rintro e w' ⟨rs, C', T', rfl, hr, hs, hc, hC, hT⟩
 obtain ⟨A, c, B, d, rfl⟩ := Z7a hr
 have hz := h.bl.size
 exact ⟨A, c, B, d, C', T', rfl, hr, ⟨hs, h.bl.trans (hc.toBelow hz h.cn), fun q hq => (hC q hq).elim (h.cn q) fun h => by omega, fun q hq => (hT q hq).elim (h.tn q) fun h => by omega, h.lib.chg hc hC, h.ok.step a⟩, hc, hC, hT⟩
theorem At.new (w : World) (hl : LibW w) (hp : PolW w) : Calls Tryz.prog 37 #[] w fun e w' => ∃ sb C T, e = .returned (.pointer (some ⟨sb, 0, none⟩)) /\ At w w' sb C T sto0 := by
 refine (X2m w).mono ?_
 rintro e w' ⟨rfl, hs, hb⟩
 refine ⟨_, _, _, rfl, hs, hb, fun q hq => by rcases hq with rfl | rfl <;> omega, fun q hq => hq.elim, fun w2 hc => ?_, SGood.start⟩
 have h2 : Below w.heap.size w w2 := hb.trans (hc.toBelow hb.size fun q hq => by rcases hq with rfl | rfl <;> omega)
 exact ⟨hl.below h2, hp.below h2⟩
theorem At.lower {w w1 w2 : World} {sb : Nat} {C T : Nat -> Prop} {st : Sto} (h : At w1 w2 sb C T st) (hb : Below w.heap.size w w1) : At w w2 sb C T st :=
 ⟨h.sto, hb.trans (h.bl.mono hb.size), fun q hq => nT hb.size (h.cn q hq), fun q hq => nT hb.size (h.tn q hq), h.lib, h.ok⟩
theorem At.act_at {w0 w : World} {sb : Nat} {C T I : Nat -> Prop} {st st' : Sto} {a : Acn} {as' : List Value} {r : Rep} (hd : doS st a = (r, st')) (h : At w0 w sb C T st) (ha : rAcn.rel w I as' a) (hI : ∀ q, I q -> q < w.heap.size /\ ¬ C q) :
  Calls Tryz.prog 38 #[.pointer (some ⟨sb, 0, none⟩), .agg as'.toArray] w fun e w' => ∃ A c B d C' T', e = .returned (.agg #[.int .i64 r.code, .int .i64 r.n, .string ⟨r.text.toArray⟩, .slice A r.ans.length c, .slice B r.at'.length d]) /\
   rRep.rel w' (fun q => w.heap.size <= q /\ ¬ C' q /\ q < w'.heap.size) [.int .i64 r.code, .int .i64 r.n, .string ⟨r.text.toArray⟩, .slice A r.ans.length c, .slice B r.at'.length d] r /\ At w0 w' sb C' T' st' /\ Chg C w w' /\ (∀ q, C' q -> C q \/ w.heap.size <= q) /\ ∀ q, T' q -> T q \/ w.heap.size <= q := by
 have := h.act ha hI
 rw [hd] at this
 exact this
theorem Y38 (w : World) (kd n : Int) (nm tx : Txt) (h1 : InI kd) (h2 : InI n) (h3 : nm.length <= 140737488355328) (h4 : tx.length <= 140737488355328) : rAcn.rel w (fun _ => False) [.int .i64 kd, .int .i64 n, .string ⟨nm.toArray⟩, .string ⟨tx.toArray⟩, .slice none 0 0] ⟨kd, n, nm, tx, []⟩ :=
 ⟨_, rfl, h1, h2, h3, h4, Z1x _ _⟩
theorem box5 (w : World) (v0 v1 v2 v3 v4 : Value) : ∃ W, w.alloc (.cells #[v0, v1, v2, v3, v4] 80) = W /\ Hid (Below w.heap.size w W) /\ W.cell? ⟨w.heap.size, 0, none⟩ = some v0 /\ W.cell? ⟨w.heap.size, 1, none⟩ = some v1 /\ Hid (w.heap.size < W.heap.size) :=
 ⟨_, rfl, hI9 bA, cN _ _ _ _, cN _ _ _ _, hI9 (by simp)⟩
theorem Y7x (w : World) (hl : LibW w) (hp : PolW w) : Calls Tryz.prog 36 #[] w fun e w' => e = .returned (.bool true) /\ Below w.heap.size w w' := by
 obtain ⟨⟨r1, s1⟩, h1⟩ : ∃ z, doS sto0 Z7i = z := ⟨_, rfl⟩
 obtain ⟨⟨r2, s2⟩, h2⟩ : ∃ z, doS s1 Y2p = z := ⟨_, rfl⟩
 obtain ⟨⟨r3, s3⟩, h3⟩ : ∃ z, doS s2 Z6p = z := ⟨_, rfl⟩
 have k1 : r1.code = 0 := by have := Y59; rw [h1] at this; rw [show r1 = _ from this]
 have k2 : r2.code = 0 := by have := Y7y; rw [h1, h2] at this; exact this
 have k3 : r3.code = 0 /\ r3.n = 1 /\ s3.states.length = 2 := by have := Y2q; rw [h1, h2, h3] at this; exact this
 obtain ⟨k3, k4, k5⟩ := k3
 have HH1 := hI9 h1
 have HH2 := hI9 h2
 have HH3 := hI9 h3
 have HNEW := hI9 (At.new w hl hp)
 clear h1 h2 h3 hl hp
 have HF : Hid (∀ (w : World) (C : Nat -> Prop) (q : Nat), False -> q < w.heap.size /\ ¬ C q) := hI9 fun _ _ _ h => h.elim
 go_enter Tryz.func36, Tryz.ntmps36
 go_upto_region 4 with (first
  | (go_at_call 37; (with_reducible refine HNEW.out.mono ?_); rintro e w1 ⟨sb, C1, T1, rfl, hA1⟩; have HA1 := hI9 hA1; clear hA1))
 go_upto_region 7 with (first
  | (go_at_call 38; first | (((refine Calls.mono (HA1.out.act_at HH1.out (Y38 w1 1 0 [] [] ⟨by decide, by decide⟩ ⟨by decide, by decide⟩ (by simp) (by simp)) (HF.out w1 C1)) ?_); rintro e v2 ⟨A2, c2, B2, d2, C2, T2, rfl, _, hA2, hc2, hC2, _⟩; obtain ⟨W2, e2, HB2, x2, y2, HS2⟩ := box5 v2 (.int .i64 0) (.int .i64 r1.n) (.string ⟨r1.text.toArray⟩) (.slice A2 r1.ans.length c2) (.slice B2 r1.at'.length d2); have HA2 := hI9 (hA2.below HB2.out); have HW2 := hI9 hA2.sto.cw; clear hA2 hc2 hC2)) | (((refine Calls.mono (HA2.out.act_at HH2.out (Y38 W2 2 0 [] [100, 111, 109, 97, 105, 110, 32, 97, 32, 49, 46, 46, 57] ⟨by decide, by decide⟩ ⟨by decide, by decide⟩ (by simp) (by simp)) (HF.out W2 C2)) ?_); rintro e v3 ⟨A3, c3, B3, d3, C3, T3, rfl, _, hA3, hc3, hC3, _⟩; obtain ⟨W3, e3, HB3, x3, y3, HS3⟩ := box5 v3 (.int .i64 0) (.int .i64 r2.n) (.string ⟨r2.text.toArray⟩) (.slice A3 r2.ans.length c3) (.slice B3 r2.at'.length d3); have HA3 := hI9 (hA3.below HB3.out); have HW3 := hI9 hA3.sto.cw; have x2b := (HB3.out.ce 0 (nL HS2.out hc3.size)).trans ((jJ (a := ⟨v2.heap.size, 0, none⟩) (hc3.block v2.heap.size HS2.out (fun h => jF _ (HW2.out _ h)))).trans x2); have HN3 : Hid (¬ C3 v2.heap.size) := hI9 (fun h => by (rcases hC3 _ h with h | h; exact jF _ (HW2.out _ h); (have := HS2.out; omega))); have HS3b : Hid (v2.heap.size < W3.heap.size) := hI9 (jI _ _ x2b); clear x2; clear hA3 hc3 hC3)) | (((refine Calls.mono (HA3.out.act_at HH3.out (Y38 W3 6 0 [] [] ⟨by decide, by decide⟩ ⟨by decide, by decide⟩ (by simp) (by simp)) (HF.out W3 C3)) ?_); rintro e v4 ⟨A4, c4, B4, d4, C4, T4, rfl, _, hA4, hc4, hC4, _⟩; obtain ⟨W4, e4, HB4, x4, y4, HS4⟩ := box5 v4 (.int .i64 0) (.int .i64 1) (.string ⟨r3.text.toArray⟩) (.slice A4 r3.ans.length c4) (.slice B4 r3.at'.length d4); have HA4 := hI9 (hA4.below HB4.out); have x2c := (HB4.out.ce 0 (nL HS3b.out hc4.size)).trans ((jJ (a := ⟨v2.heap.size, 0, none⟩) (hc4.block v2.heap.size HS3b.out HN3.out)).trans x2b); have x3b := (HB4.out.ce 0 (nL HS3.out hc4.size)).trans ((jJ (a := ⟨v3.heap.size, 0, none⟩) (hc4.block v3.heap.size HS3.out (fun h => jF _ (HW3.out _ h)))).trans x3); clear x2b x3; clear hA4 hc4 hC4))))
 have HST := hI9 (Y0j W4 HA4.out.sto)
 have HK5 := hI9 k5
 go_wp2_with (go_at_call 10; (with_reducible refine HST.out.mono ?_); rintro e w9 ⟨u9, rfl, ho9, hb9⟩; obtain ⟨A9, c9, e9⟩ := ho9.value; rw [HK5.out] at e9; subst e9; have HB9 := hI9 hb9; clear ho9 hb9)
 go_ret
 exact ⟨rfl, HA4.out.bl.trans (HB9.out.mono HA4.out.bl.size)⟩
def Z5k (l : List Acn) (n : Nat) : Sto := (l.take n).foldl (fun s a => (doS s a).2) sto0
def X1b (l : List Acn) : Sto := Z5k l 50
theorem Y4w {l : List Acn} {n : Nat} {a : Acn} (h : l[n]? = some a) : Z5k l (n + 1) = (doS (Z5k l n) a).2 := by
 unfold Z5k
 rw [Z0b h, List.foldl_append]
 rfl
theorem Y6v {l : List Acn} {n : Nat} (h : l.length <= n) (h50 : n <= 50) : Z5k l n = X1b l := by
 unfold X1b Z5k
 rw [jD h, jD (by omega)]
theorem Elems.acn {w : World} {S : Nat -> Prop} {A : Option Addr} {l : List Acn} (h : Elems rAcn w S A l) {i : Nat} (hi : i < l.length) : ∃ b off a I c, A = some ⟨b, off, none⟩ /\ S b /\ b < w.heap.size /\ l[i]? = some a /\ rAcn.rel w S [.int .i64 a.kind, .int .i64 a.n, .string ⟨a.name.toArray⟩, .string ⟨a.text.toArray⟩, .slice I a.inp.length c] a /\
  w.cell? ⟨b, off + i * 5, none⟩ = some (.int .i64 a.kind) /\ w.cell? ⟨b, off + i * 5 + 1, none⟩ = some (.int .i64 a.n) /\ w.cell? ⟨b, off + i * 5 + 2, none⟩ = some (.string ⟨a.name.toArray⟩) /\ w.cell? ⟨b, off + i * 5 + 3, none⟩ = some (.string ⟨a.text.toArray⟩) /\ w.cell? ⟨b, off + i * 5 + 4, none⟩ = some (.slice I a.inp.length c) := by
 obtain ⟨b, off, es, hA, hS, hb, hr, hc⟩ := h i l[i] (jA hi)
 have hr' := hr
 obtain ⟨u, rfl, _, _, _, _, hin⟩ := hr
 obtain ⟨I, c, rfl, _⟩ := rSl.elems hin
 exact ⟨b, off, l[i], I, c, hA, hS, hb, jA hi, hr', hc 0 _ rfl, hc 1 _ rfl, hc 2 _ rfl, hc 3 _ rfl, hc 4 _ rfl⟩
theorem X3v {w v W : World} {q o : Nat} {u0 u1 u2 u3 u4 : Value} (h : v.heap[q]? = w.heap[q]?) (hq : q < v.heap.size) (hb : Below v.heap.size v W) (g0 : w.cell? ⟨q, o, none⟩ = some u0) (g1 : w.cell? ⟨q, o + 1, none⟩ = some u1) (g2 : w.cell? ⟨q, o + 2, none⟩ = some u2) (g3 : w.cell? ⟨q, o + 3, none⟩ = some u3) (g4 : w.cell? ⟨q, o + 4, none⟩ = some u4) :
  W.cell? ⟨q, o, none⟩ = some u0 /\ W.cell? ⟨q, o + 1, none⟩ = some u1 /\ W.cell? ⟨q, o + 2, none⟩ = some u2 /\ W.cell? ⟨q, o + 3, none⟩ = some u3 /\ W.cell? ⟨q, o + 4, none⟩ = some u4 := by
 have k : ∀ j, W.cell? ⟨q, j, none⟩ = w.cell? ⟨q, j, none⟩ := fun j => (hb.ce j hq).trans (jJ (a := ⟨q, j, none⟩) h)
 exact ⟨(k _).trans g0, (k _).trans g1, (k _).trans g2, (k _).trans g3, (k _).trans g4⟩
theorem X4j (w : World) (v0 v1 v2 v3 v4 : Value) : ∃ W, w.alloc (.cells #[v0, v1, v2, v3, v4] 80) = W /\ Hid (Below w.heap.size w W) /\ W.cell? ⟨w.heap.size, 0, none⟩ = some v0 /\ W.cell? ⟨w.heap.size, 1, none⟩ = some v1 /\ W.cell? ⟨w.heap.size, 2, none⟩ = some v2 /\ W.cell? ⟨w.heap.size, 3, none⟩ = some v3 /\ W.cell? ⟨w.heap.size, 4, none⟩ = some v4 /\ Hid (W.heap.size = w.heap.size + 1) :=
 ⟨_, rfl, hI9 bA, cN _ _ _ _, cN _ _ _ _, cN _ _ _ _, cN _ _ _ _, cN _ _ _ _, hI9 (by simp)⟩
theorem Y6w {S : Nat -> Prop} {lv : Value} {l : List Acn} (w : World) (hl : (rSl rAcn).rel w S [lv] l) (hS : ∀ q, S q -> q < w.heap.size) (hw : LibW w) (hp : PolW w) :
  Calls Tryz.prog 8 #[lv, .func (.func 9) #[] #[]] w fun e w' => ∃ sb C T, e = .returned (.tuple #[.pointer (some ⟨sb, 0, none⟩), .bool true]) /\ At w w' sb C T (X1b l) := by
 obtain ⟨A, c, rfl, _, _, hby, hE⟩ := rSl.elems hl
 have hln : l.length <= 1954687338432 := by simp only [rAcn] at hby; omega
 have HE := hI9 hE
 have HS := hI9 hS
 have HAL := hI9 (Y7x w hw hp)
 have HNW := hI9 fun w1 (hb : Below w.heap.size w w1) => At.new w1 (hw.below hb) (hp.below hb)
 clear hl hE hS hby hw hp
 go_enter Tryz.func8, Tryz.ntmps8
 go_upto_region 5 with (first
  | (go_at_call 36; (with_reducible refine HAL.out.mono ?_); rintro e w1 ⟨rfl, hb1⟩; have HB1 := hI9 hb1; clear hb1)
  | (go_at_call 37; (with_reducible refine (HNW.out w1 HB1.out).mono ?_); rintro e w2 ⟨sb, C, T, rfl, hA⟩; have HA := hI9 (hA.lower HB1.out); clear hA))
 go_loopw [7] (fun i wr => ∃ (k : Nat) (C T : Nat -> Prop), i = .int .i64 k /\ k <= l.length /\ k <= 50 /\ Hid (At w wr sb C T (Z5k l k))) (fun i _ => l.length - (intOf i).toNat)
 case atStart => exact ⟨0, C, T, rfl, jH _, jH _, HA⟩
 case round =>
  clear HA
  obtain ⟨k, C, T, rfl, hk, hk50, HA⟩ := hrel
  by_cases hlt : k < l.length
  ·by_cases h50 : k < 50
   ·have hik : (k : Int) < (l.length : Int) := by omega
    have hik5 : (k : Int) < 50 := by omega
    obtain ⟨q, off, a, I, ic, rfl, hSq, hq, hx, hr, g0, g1, g2, g3, g4⟩ := (HE.out.keep (.of_below HA.out.bl)).acn hlt
    have HR := hI9 hr
    have HNC : Hid (∀ p, S p -> p < wr.heap.size /\ ¬ C p) := hI9 fun p hp => ⟨nL (HS.out p hp) HA.out.bl.size, fun hc => by have := HA.out.cn p hc; have := HS.out p hp; omega⟩
    obtain ⟨⟨r1, s1⟩, h1⟩ : ∃ z, doS (Z5k l k) a = z := ⟨_, rfl⟩
    have HH1 := hI9 h1
    have HNX : Hid (Z5k l (k + 1) = s1) := hI9 (by rw [Y4w hx, h1])
    have HSQ : Hid (q < wr.heap.size /\ ¬ C q) := hI9 (HNC.out q hSq)
    clear hx hr h1 hSq
    go_upto_region 8 with (first
     | (go_at_call 38; (with_reducible refine Calls.mono (HA.out.act_at HH1.out HR.out HNC.out) ?_); rintro e v2 ⟨A2, c2, B2, d2, C2, T2, rfl, _, hA2, hc2, hC2, _⟩; obtain ⟨W2, e2, HB2, x0, x1, x2, x3, x4, HS2⟩ := X4j v2 (.int .i64 r1.code) (.int .i64 r1.n) (.string ⟨r1.text.toArray⟩) (.slice A2 r1.ans.length c2) (.slice B2 r1.at'.length d2); have HA2 := hI9 (hA2.below HB2.out); obtain ⟨k0, k1, k2, k3, k4⟩ := X3v (q := q) (o := off + k * 5) (hc2.block q HSQ.out.1 HSQ.out.2) (nL HSQ.out.1 hc2.size) HB2.out g0 g1 g2 g3 g4; clear g0 g1 g2 g3 g4 hA2 hc2 hC2))
    have HQ := hI9 fun w' (hb : Below W2.heap.size W2 w') => Y89 (.pointer (some ⟨sb, 0, none⟩)) [.int .i64 a.kind, .int .i64 a.n, .string ⟨a.name.toArray⟩, .string ⟨a.text.toArray⟩, .slice I a.inp.length ic] [.int .i64 r1.code, .int .i64 r1.n, .string ⟨r1.text.toArray⟩, .slice A2 r1.ans.length c2, .slice B2 r1.at'.length d2] rfl rfl w'
    have hqW : q < W2.heap.size := jI _ _ k0
    have hvW : v2.heap.size < W2.heap.size := jI _ _ x0
    refine wp_region_quiet_below (by kernel_rfl) (by kernel_rfl) ?_
    repeat (go_big_quiet_step (with_reducible exact Calls.inBelow HQ.out _ _))
    refine wpQuiet_nil ?_
    intro _ hw'
    obtain ⟨⟨dq, osq⟩, hw''⟩ := hw'
    subst hw''
    go_wp2
    go_roundw
    case rel => exact ⟨k + 1, C2, T2, by go_num, hlt, h50, hI9 (by rw [HNX.out]; exact HA2.out.below (below_regrown _ _ _))⟩
    case measure => simp [intOf]; omega
   ·have hik5 : ¬ (k : Int) < 50 := by omega
    have hik : (k : Int) < (l.length : Int) := by omega
    obtain rfl : k = 50 := by omega
    go_wp2
    go_ret2
    exact ⟨sb, rfl, C, T, HA.out⟩
  ·have hik : ¬ (k : Int) < (l.length : Int) := by omega
   go_wp2
   go_ret2
   exact ⟨sb, rfl, C, T, by have := HA.out; rwa [Y6v (by omega) hk50] at this⟩
end Go.Proofs.YtlopccnehgolnabGreatDoor
namespace Go.Proofs.YtlopccnehgolnabGreatDoor
open Go.RowKit Rb
open List renaming getElem?_eq_none_iff -> jA, getElem?_eq_some_iff -> jB, getElem_map -> jC, length_append -> jD, take_of_length_le -> jE
open Nat renaming le_refl -> jF
def isTo (l : List Dm) (s : Txt) : Nat -> Bool
 | 0 => false
 | m + 1 => isTo l s m || (match l[m]? with | some d => d.name == s | none => false)
def Z6l (l : List Dm) (cs : List Int) (s : Txt) : Nat -> List Int
 | 0 => []
 | m + 1 => Z6l l cs s m ++ (match l[m]? with | some d => if d.name == s then [(cs[m]?).getD 0] else [] | none => [])
def Z9p (l : List Dm) (ins : List Txt) : Nat -> Bool
 | 0 => true
 | j + 1 => Z9p l ins j && (match ins[j]? with | some s => isTo l s l.length | none => true)
def Z27 (l : List Dm) (cs : List Int) (ins : List Txt) : Nat -> List Int
 | 0 => []
 | j + 1 => Z27 l cs ins j ++ (match ins[j]? with | some s => Z6l l cs s l.length | none => [])
theorem Y5q {l : List Dm} {s : Txt} : ∀ {m : Nat}, isTo l s m = true -> ∃ (i : Nat) (d : Dm), i < m /\ l[i]? = some d /\ d.name = s
 | m + 1, h => by
  rw [isTo, Bool.or_eq_true] at h
  rcases h with h | h
  ·obtain ⟨i, d, h1, h2⟩ := Y5q h
   exact ⟨i, d, by omega, h2⟩
  ·split at h
   ·rename_i d hd
    exact ⟨m, d, by omega, hd, by simpa using h⟩
   ·cases h
theorem X15 {l : List Dm} {cs : List Int} {s : Txt} : ∀ {m : Nat}, (∀ i d, i < m -> l[i]? = some d -> d.name ≠ s) -> Z6l l cs s m = []
 | 0, _ => rfl
 | m + 1, h => by
  rw [Z6l, X15 fun i d hi => h i d (by omega)]
  split
  ·rename_i d hd
   rw [if_neg (by simpa using h m d (by omega) hd)]
   rfl
  ·rfl
theorem Y8z {l : List Dm} (hn : (l.map (·.name)).Nodup) {i j : Nat} {d e : Dm} (hi : l[i]? = some d) (hj : l[j]? = some e) (he : d.name = e.name) : i = j := by
 have h : (l.map (·.name)).Pairwise (· ≠ ·) := hn
 rw [List.pairwise_iff_getElem] at h
 obtain ⟨h1, h2⟩ := jB.1 hi
 obtain ⟨h3, h4⟩ := jB.1 hj
 rcases Nat.lt_trichotomy i j with hl | hl | hl
 ·exact absurd (by rw [jC, jC, h2, h4, he]) (h i j (by simpa using h1) (by simpa using h3) hl)
 ·exact hl
 ·exact absurd (by rw [jC, jC, h2, h4, he]) (h j i (by simpa using h3) (by simpa using h1) hl)
theorem Y9v {l : List Dm} {cs : List Int} (hn : (l.map (·.name)).Nodup) {i : Nat} {d : Dm} (hd : l[i]? = some d) : ∀ {m : Nat}, i < m -> Z6l l cs d.name m = [(cs[i]?).getD 0]
 | m + 1, h => by
  rw [Z6l]
  by_cases him : i = m
  ·subst him
   rw [X15 fun j e hj he hne => by have := Y8z hn he hd hne; omega, hd]
   simp
  ·rw [Y9v hn hd (show i < m by omega)]
   split
   ·rename_i e he
    rw [if_neg (by
     intro hne
     exact him (Y8z hn hd he (by simpa using (beq_iff_eq.1 hne).symm)))]
    rfl
   ·rfl
theorem Y2f (l : List Dm) (cs : List Int) (s : Txt) : ∀ m, (Z6l l cs s m).length <= m
 | 0 => jF _
 | m + 1 => by
  have := Y2f l cs s m
  rw [Z6l, jD]
  split
  ·split <;> simp <;> omega
  ·simp; omega
theorem Y1b (l : List Dm) (cs : List Int) (ins : List Txt) : ∀ j, (Z27 l cs ins j).length <= j * l.length
 | 0 => by simp [Z27]
 | j + 1 => by
  have := Y1b l cs ins j
  rw [Z27, jD, Nat.succ_mul]
  split
  ·rename_i s _
   have := Y2f l cs s l.length
   omega
  ·simp; omega
section
variable {b : Bk} {cs : List Int} {o : List Txt} (h : CheckOk b) (hin : Z99 b.doms cs = true) (ho : Z2j b = some o)
include h hin ho
theorem Y51 {ins : List Txt} : ∀ {j : Nat}, Z9p b.doms ins j = true -> Z27 b.doms cs ins j = (ins.take j).map (fun s => (atM (Z2n b cs o) s).n) /\ (ins.take j).all (fun s => (atM (Z2n b cs o) s).found) = true
 | 0, _ => ⟨rfl, rfl⟩
 | j + 1, hj => by
  rw [Z9p, Bool.and_eq_true] at hj
  obtain ⟨h1, h2⟩ := Y51 hj.1
  rw [Z27, h1]
  cases hs : ins[j]? with
  | none =>
   have e1 : ins.take j = ins := jE (by have := jA.1 hs; omega)
   have e2 : ins.take (j + 1) = ins := jE (by have := jA.1 hs; omega)
   rw [e1] at h2 ⊢
   rw [e2]
   exact ⟨by simp, h2⟩
  | some s =>
   rw [hs] at hj
   obtain ⟨i, d, hi, hd, hn⟩ := Y5q hj.2
   obtain ⟨ha, _⟩ := Y2u h hin ho hd
   subst hn
   simp only
   rw [Y9v h.domNames hd hi, Z0b hs, List.map_append, List.all_append, h2]
   simp [ha]
theorem X25 {t : Tb} (ht : t ∈ b.tabs) (hout : Z9p b.doms t.ins t.ins.length = true) : (t.comp = true -> (Z2m (Z2n b cs o) t).found = true) /\ (t.pol = 1 -> (Z1p t.rules (Z27 b.doms cs t.ins t.ins.length)).length <= 1) := by
 obtain ⟨h1, h2⟩ := Y51 h hin ho hout
 rw [jE (jF _)] at h1 h2
 have hg : gotM (Z2n b cs o) t.ins = some (Z27 b.doms cs t.ins t.ins.length) := by rw [Y10, h2, if_pos rfl, h1]
 obtain ⟨h3, h4⟩ := Y75 h hin ho ht hg
 refine ⟨fun hc => ?_, fun hp => ?_⟩
 ·have hs := Y0k (cs := cs) h ho ht
  unfold Z2m
  rw [hs]
  unfold Z47
  rw [hg]
  exact h4 hc
 ·unfold Z03 at h3
  split at h3
  ·unfold sayL at h3
   rw [if_neg (by rw [hp]; decide)] at h3
   generalize Z1p t.rules (Z27 b.doms cs t.ins t.ins.length) = m at h3 ⊢
   match m, h3 with
   | [], _ => exact Nat.zero_le _
   | [_], _ => exact jF _
   | _ :: _ :: _, h3 =>
    exfalso
    simp only [List.map_cons] at h3
    rw [Z0e, if_pos hp] at h3
    cases h3
  ·cases h3
end
end Go.Proofs.YtlopccnehgolnabGreatDoor
namespace Go.Proofs.YtlopccnehgolnabGreatDoor
open Go.RowKit Rb
open Go.Lib renaming hid -> hI
open Go.RowKit.Below renaming refl -> jA
open List renaming append_nil -> jB, cons -> jC, getElem?_eq_getElem -> jD, mem_of_getElem? -> jE
open Nat renaming lt_of_lt_of_le -> jF, zero_le -> jG
open Rd renaming below -> jH
set_option maxRecDepth 100000
set_option maxHeartbeats 12800000
theorem Y4v (l : List Acn) (n : Nat) : SGood (Z5k l n) := by
 unfold Z5k
 generalize l.take n = m
 suffices h : ∀ (m : List Acn) (st : Sto), SGood st -> SGood (m.foldl (fun s a => (doS s a).2) st) from h m _ SGood.start
 intro m
 induction m with
 | nil => exact fun st h => h
 | cons a m ih => exact fun st h => ih _ (h.step a)
theorem Y4i {S T : Nat -> Prop} {bs : List Value} {b : Bk} {u : Value} {ns cs : List Int} (w : World) (hb : rBk.rel w S bs b) (hn : (rSl rInt).rel w T [u] ns) (h : Z18 ns b.doms = cs) :
  Calls Tryz.prog 11 #[.agg bs.toArray, u] w fun e w' => ∃ A c S', e = .returned (.slice A cs.length c) /\ (rSl rInt).rel w' S' [.slice A cs.length c] cs /\ Below w.heap.size w w' := by
 refine (Y25 w hb hn).mono ?_
 rintro e w' ⟨z, he, hz, hb'⟩
 rw [h] at hz
 obtain ⟨A, c, rfl⟩ := hz.value
 exact ⟨A, c, _, he, hz.rel (by decide), hb'⟩
theorem Elems.anP {w : World} {S : Nat -> Prop} {A : Option Addr} {l : List An} (h : Elems rAn w S A l) {i : Nat} (hi : i < l.length) : ∃ b off x, A = some ⟨b, off, none⟩ /\ S b /\ b < w.heap.size /\ l[i]? = some x /\ (x.name.length <= 140737488355328 /\ InI x.n) /\
  w.cell? ⟨b, off + i * 3, none⟩ = some (.string ⟨x.name.toArray⟩) /\ w.cell? ⟨b, off + i * 3 + 1, none⟩ = some (.bool x.found) /\ w.cell? ⟨b, off + i * 3 + 2, none⟩ = some (.int .i64 x.n) := by
 obtain ⟨b, off, es, hA, hS, hb, ⟨rfl, hr⟩, hc⟩ := h i l[i] (jD hi)
 exact ⟨b, off, l[i], hA, hS, hb, jD hi, hr, hc 0 _ rfl, hc 1 _ rfl, hc 2 _ rfl⟩
theorem askP {b : Bk} {cs : List Int} {o : List Txt} (h : (Z0g b).2.2 = 0) (hl : cs.length = b.doms.length) (hi : Z99 b.doms cs = true) (ho : Z2j b = some o) : askB b cs = (b.tabs.map (Z2m (Z2n b cs o)), 0) := by
 unfold askB
 rw [if_neg (by rw [h]; simp), if_neg (by rw [hl]; simp), if_neg (by rw [hi]; decide), ho]
 rfl
theorem Z8f {S T0 : Nat -> Prop} {lv iv : Value} {l : List Acn} {ns : List Int} (w : World) (hl : (rSl rAcn).rel w S [lv] l) (hS : ∀ q, S q -> q < w.heap.size) (hn : (rSl rInt).rel w T0 [iv] ns) (hw : LibW w) (hp : PolW w) :
  Calls Tryz.prog 3 #[lv, iv] w fun e w' => e = .returned (.bool true) /\ Below w.heap.size w w' := by
 obtain ⟨NA, nc, rfl, _, _, _, _⟩ := rSl.elems hn
 have HPL := hI (Y6w w hl hS hw hp)
 obtain ⟨st, hst⟩ : ∃ st, X1b l = st := ⟨_, rfl⟩
 rw [hst] at HPL
 have HG : Hid (SGood st) := hI (by rw [<- hst]; exact Y4v l 50)
 have HNS := hI hn
 clear hl hS hw hp hst hn
 go_enter Tryz.func3, Tryz.ntmps3
 go_upto_region 4 with (first
  | (go_at_call 8; (with_reducible refine HPL.out.mono ?_); rintro e w1 ⟨sb, C, T, rfl, hA⟩; have HA := hI hA; clear hA))
 go_upto_region 5 with (first
  | (go_at_call 10; (with_reducible refine (Y0j w1 HA.out.sto).mono ?_); rintro e w2 ⟨u1, rfl, ho1, hb1⟩; obtain ⟨A1, c1, e1, _, _, hby1, hE1⟩ := rSl.elems (ho1.rel (by decide)); subst e1; have HB1 := hI hb1; have hln : st.states.length <= 2932031007402 := (by simp only [rBk] at hby1; omega); clear ho1 hb1 hby1; have HE1 := hI hE1; clear hE1))
 have HBW := hI (HA.out.bl.trans (HB1.out.mono HA.out.bl.size))
 go_loopw [31] (fun i wr => ∃ k : Nat, k <= st.states.length /\ i = .int .i64 k /\ Hid (Below w2.heap.size w2 wr)) (fun i _ => st.states.length - (intOf i).toNat)
 case atStart => exact ⟨0, jG _, rfl, hI (jA _ _)⟩
 case round =>
  obtain ⟨k, hk, rfl, HB⟩ := hrel
  by_cases hlt : k < st.states.length
  ·obtain ⟨b1, o1, b, D1, d1, F1, f1, rfl, hb1, hx, hr, g0, g1⟩ := HE1.out.bk hlt
   rw [<- HB.out.ce _ hb1] at g0 g1
   have hik : (k : Int) < (st.states.length : Int) := by omega
   have HC0 : Hid ((Z0g b).2.2 = 0) := hI (HG.out.chk b (jE hx))
   have HOK := hI (Y8c HC0.out)
   obtain ⟨cs, hcs⟩ : ∃ x, Z18 ns b.doms = x := ⟨_, rfl⟩
   have HCS := hI hcs
   have HCL : Hid (cs.length = b.doms.length) := hI (by rw [<- hcs, Y6e])
   have HIN : Hid (Z99 b.doms cs = true) := hI (by rw [<- hcs]; exact X2v HOK.out ns)
   obtain ⟨o, ho⟩ := Option.isSome_iff_exists.1 HOK.out.ord
   have HO := hI ho
   obtain ⟨al, hal⟩ : ∃ x, b.tabs.map (Z2m (Z2n b cs o)) = x := ⟨_, rfl⟩
   have HL := hI hal
   have HLL : Hid (al.length = b.tabs.length) := hI (by rw [<- hal, List.length_map])
   have HAS : Hid (askB b cs = (al, 0)) := hI (by rw [askP HC0.out HCL.out HIN.out ho, hal])
   have hq3 : ((al.length : Int) != (b.tabs.length : Int)) = false := by rw [HLL.out]; simp
   have hd4 : b.doms.length <= 4 := HOK.out.dl
   have ht4 : b.tabs.length <= 4 := HOK.out.tl
   obtain ⟨W3, e3, HB3, HR3, HZ3⟩ : ∃ W3, wr.alloc (.cells #[.slice D1 b.doms.length d1, .slice F1 b.tabs.length f1] 33) = W3 /\ Hid (Below wr.heap.size wr W3) /\ Hid (rBk.rel W3 (Up (fun _ => False) w1.heap.size) [.slice D1 b.doms.length d1, .slice F1 b.tabs.length f1] b) /\ Hid (wr.heap.size < W3.heap.size) := ⟨_, rfl, hI bA, hI (Rd.alloc (jH hr HB.out) _), hI (by simp)⟩; have j0 := ac0 e3; have j1 := ac1 e3
   have HBr := hI (HB.out.trans (HB3.out.mono HB.out.size))
   have HNS3 := hI (jH HNS.out (HBW.out.trans (HBr.out.mono HBW.out.size)))
   clear hx hr hcs ho hal
   go_upto_region 11 with (first
    | (go_at_call 11; (with_reducible refine (Y4i W3 HR3.out HNS3.out HCS.out).mono ?_); rintro e w4 ⟨Ac, cc, Sc, rfl, hcl, hb4⟩; have HB4 := hI hb4; have HCV := hI hcl; have k0 := (hb4.ce 0 HZ3.out).trans j0; have k1 := (hb4.ce 1 HZ3.out).trans j1; have HR4 := hI (jH HR3.out hb4); clear hb4 hcl)
    | (go_at_call 12; (with_reducible refine (X1v w4 HR4.out HCV.out HAS.out).mono ?_); rintro e w5 ⟨Aa, ca, Sa, rfl, hal5, hb5⟩; have HB5 := hI (HB4.out.trans (hb5.mono HB4.out.size)); have HAV := hI hal5; have HCV5 := hI (jH HCV.out hb5); have HR5 := hI (jH HR4.out hb5); have m0 := (HB5.out.ce 0 HZ3.out).trans j0; have m1 := (HB5.out.ce 1 HZ3.out).trans j1; clear hb5 hal5))
   clear j0 j1 hq3 g0 g1
   have HB35 := hI (HBr.out.trans (HB5.out.mono HBr.out.size))
   have HZ5 : Hid (wr.heap.size < w5.heap.size) := hI (jF HZ3.out HB5.out.size)
   obtain ⟨DE, TE⟩ : Hid (Elems rDm w5 (Up (fun _ => False) w1.heap.size) D1 b.doms) /\ Hid (Elems rTb w5 (Up (fun _ => False) w1.heap.size) F1 b.tabs) := by
    obtain ⟨v, u, e, h1, h2⟩ := HR5.out
    simp only [jC.injEq, and_true] at e
    obtain ⟨rfl, rfl⟩ := e
    obtain ⟨_, _, q1, _, _, _, hE⟩ := rSl.elems h1
    obtain ⟨_, _, q2, _, _, _, hF⟩ := rSl.elems h2
    injection q1 with q1
    injection q2 with q2
    subst q1 q2
    exact ⟨hE, hF⟩
   obtain ⟨_, _, qc, _, _, _, hCE⟩ := rSl.elems HCV5.out
   injection qc with qc1 _ qc3
   subst qc1 qc3
   have CE := hI hCE
   obtain ⟨_, _, qa, _, _, _, hAE⟩ := rSl.elems HAV.out
   injection qa with qa1 _ qa3
   subst qa1 qa3
   have AE := hI hAE
   have HOLD : Hid (∀ w', Below w5.heap.size w5 w' -> w'.cell? ⟨wr.heap.size, 0, none⟩ = some (.slice D1 b.doms.length d1) /\ w'.cell? ⟨wr.heap.size, 1, none⟩ = some (.slice F1 b.tabs.length f1)) := hI fun w' hb => ⟨(hb.ce 0 HZ5.out).trans m0, (hb.ce 1 HZ5.out).trans m1⟩
   clear hCE hAE
   go_upto_region 12 with fail
   clear m0 m1 e3
   generalize wr.heap.size = nb at *
   go_loopw [57] (fun i wt => ∃ m : Nat, m <= b.tabs.length /\ i = .int .i64 m /\ Hid (Below w5.heap.size w5 wt)) (fun i _ => b.tabs.length - (intOf i).toNat)
   case atStart => exact ⟨0, jG _, rfl, hI (jA _ _)⟩
   case round =>
    obtain ⟨m, hm, rfl, HBt⟩ := hrel
    by_cases hltm : m < b.tabs.length
    ·obtain ⟨b2, o2, t, I1, i1, R1, r1, rfl, hb2, hxt, hrt, g0, g1, g2, g3, g4⟩ := TE.out.tb hltm
     obtain ⟨q3, o3, an, rfl, hSq, hq3, hy, ⟨hyl, hyi⟩, h0, h1, h2⟩ := AE.out.anP (show m < al.length by rw [HLL.out]; exact hltm)
     rw [<- HBt.out.ce _ hb2] at g0 g1 g2 g3 g4
     have him : (m : Int) < (b.tabs.length : Int) := by omega
     have hia : (m : Int) < (al.length : Int) := by rw [HLL.out]; exact him
     obtain ⟨cm, hcm⟩ : ∃ r, t.comp = r := ⟨_, rfl⟩
     obtain ⟨fd, hfd⟩ : ∃ r, an.found = r := ⟨_, rfl⟩
     have HAX : Hid ((Z2m (Z2n b cs o) t).found = fd) := hI (by
      have := hy
      rw [<- HL.out, List.getElem?_map, hxt] at this
      injection this with this
      rw [this]; exact hfd)
     have HXM := hI (jE hxt)
     have HPR : Hid (Z9p b.doms t.ins t.ins.length = true -> (cm = true -> fd = true) /\ (t.pol = 1 -> (Z1p t.rules (Z27 b.doms cs t.ins t.ins.length)).length <= 1)) := hI fun ho => by
      have := X25 HOK.out HIN.out HO.out HXM.out ho
      rw [HAX.out, hcm] at this
      exact this
     have hti : t.ins.length <= 3 := (Z0z (HOK.out.good HXM.out)).2.2.2.1
     rw [hcm] at g2 hrt
     rw [hfd] at h1
     obtain ⟨W6, e6, HB6, HR6, HZ6, HFD⟩ : ∃ W6, wr.alloc (.cells #[.string ⟨t.name.toArray⟩, .int .i64 t.pol, .bool cm, .slice I1 t.ins.length i1, .slice R1 t.rules.length r1] 42) = W6 /\ Hid (Below w5.heap.size w5 W6) /\ Hid (rTb.rel W6 (Up (fun _ => False) w1.heap.size) [.string ⟨t.name.toArray⟩, .int .i64 t.pol, .bool cm, .slice I1 t.ins.length i1, .slice R1 t.rules.length r1] t) /\ Hid (wr.heap.size < W6.heap.size) /\ Hid (∀ w', Below w5.heap.size w5 w' -> w'.cell? ⟨q3, o3 + m * 3 + 1, none⟩ = some (.bool fd)) := ⟨_, rfl, hI (HBt.out.alloc HBt.out.size _), hI (jH hrt (HBt.out.alloc HBt.out.size _)), hI (by simp), hI fun w' hb => (hb.ce _ hq3).trans h1⟩; have p0 := ac0 e6; have p1 := ac1 e6; have p2 := ac2 e6; have p3 := ac3 e6; have p4 := ac4 e6
     have HRI : Hid ((rSl rStr).rel W6 (Up (fun _ => False) w1.heap.size) [.slice I1 t.ins.length i1] t.ins) := hI (by
      obtain ⟨v, u, hv, _, _, h, _⟩ := HR6.out
      simp only [jC.injEq, and_true] at hv
      obtain ⟨_, _, _, rfl, _⟩ := hv
      exact h)
     clear hxt hrt hy hyl hyi hSq hcm hfd h0 h1 h2
     go_upto_region 17 with fail
     clear g0 g1 g2 g3 g4 e6
     generalize wr.heap.size = nt at *
     go_loopw [14, 15, 65] (fun ov tv i wi => ∃ (j : Nat) (u : Value), j <= t.ins.length /\ i = .int .i64 j /\ ov = .bool (Z9p b.doms t.ins j) /\ tv = u /\ Hid (Own rInt 3 wi W6.heap.size (fun _ => False) u (Z27 b.doms cs t.ins j)) /\ Hid (Below W6.heap.size W6 wi)) (fun _ _ i _ => t.ins.length - (intOf i).toNat)
     case atStart => exact ⟨0, _, jG _, rfl, rfl, rfl, hI (Own.nil _ _ _ _ _), hI (jA _ _)⟩
     case round =>
      obtain ⟨j, u, hj, rfl, rfl, hu, HOW, HBi⟩ := hrel
      obtain rfl := hu.symm
      obtain ⟨UA, uc, rfl⟩ := HOW.out.value
      have HB6i := hI (HB6.out.trans (HBi.out.mono HB6.out.size))
      by_cases hltj : j < t.ins.length
      ·obtain ⟨_, _, hA0, _, _, _, hE⟩ := rSl.elems (jH HRI.out HBi.out)
       obtain ⟨rfl, rfl⟩ : I1 = _ /\ i1 = _ := by injection hA0 with h1 h2 h3; exact ⟨h1, h3⟩
       obtain ⟨p, offp, s, rfl, _, _, hs, hsl, f0⟩ := hE.str hltj
       have hij : (j : Int) < (t.ins.length : Int) := by omega
       have HOS : Hid (Z9p b.doms t.ins (j + 1) = (Z9p b.doms t.ins j && isTo b.doms s b.doms.length) /\ Z27 b.doms cs t.ins (j + 1) = Z27 b.doms cs t.ins j ++ Z6l b.doms cs s b.doms.length) := hI (by rw [Z9p, Z27, hs]; exact ⟨rfl, rfl⟩)
       obtain ⟨m0, m1⟩ := HOLD.out wr HB6i.out
       clear hs hE hA0
       go_upto_region 21 with fail
       clear f0 m0 m1
       obtain ⟨wv, hwv⟩ : ∃ x, x = wr := ⟨_, rfl⟩
       subst hwv
       go_loopw [18, 15, 72] (fun sv tv i wi => ∃ (q : Nat) (u : Value), q <= b.doms.length /\ i = .int .i64 q /\ sv = .bool (isTo b.doms s q) /\ tv = u /\ Hid (Own rInt 3 wi W6.heap.size (fun _ => False) u (Z27 b.doms cs t.ins j ++ Z6l b.doms cs s q)) /\ Hid (Below W6.heap.size W6 wi)) (fun _ _ i _ => b.doms.length - (intOf i).toNat)
       case atStart => exact ⟨0, _, jG _, rfl, rfl, rfl, hI (by rw [Z6l, jB]; exact HOW.out), HBi⟩
       case round =>
        clear HOW HBi HB6i
        obtain ⟨q, u, hq, rfl, rfl, hu, HOW, HBi⟩ := hrel
        obtain rfl := hu.symm
        obtain ⟨xs, hxs⟩ : ∃ xs, Z27 b.doms cs t.ins j ++ Z6l b.doms cs s q = xs := ⟨_, rfl⟩
        have HXS := hI hxs
        rw [hxs] at HOW
        clear hxs
        obtain ⟨VA, vc, rfl⟩ := HOW.out.value
        have HB6i := hI (HB6.out.trans (HBi.out.mono HB6.out.size))
        by_cases hltq : q < b.doms.length
        ·obtain ⟨b4, o4, d, rfl, hb4, hxd, hrd, g0, g1, g2⟩ := DE.out.dm hltq
         obtain ⟨b5, o5, v, rfl, hSq5, hq5, hyv, hyvi, h5⟩ := CE.out.intAt (show q < cs.length by rw [HCL.out]; exact hltq)
         rw [<- HB6i.out.ce _ hb4] at g0 g1 g2
         rw [<- HB6i.out.ce _ hq5] at h5
         have hiq : (q : Int) < (b.doms.length : Int) := by omega
         have hic : (q : Int) < (cs.length : Int) := by rw [HCL.out]; exact hiq
         have HIS : Hid (isTo b.doms s (q + 1) = (isTo b.doms s q || d.name == s) /\ Z6l b.doms cs s (q + 1) = Z6l b.doms cs s q ++ (if d.name == s then [v] else [])) := hI (by rw [isTo, Z6l, hxd, hyv]; exact ⟨rfl, rfl⟩)
         obtain ⟨W8, e8, HB8, HO8, n5⟩ : ∃ W8, wr.alloc (.cells #[.string ⟨d.name.toArray⟩, .int .i64 d.lo, .int .i64 d.hi] 44) = W8 /\ Hid (Below W6.heap.size W6 W8) /\ Hid (Own rInt 3 W8 W6.heap.size (fun _ => False) (.slice VA xs.length vc) xs) /\ W8.cell? ⟨b5, o5 + q, none⟩ = some (.int .i64 v) := ⟨_, rfl, hI (HBi.out.alloc HBi.out.size _), hI (HOW.out.alloc _), (World.cell?_alloc_lt _ _ _ (jF hq5 HB6i.out.size)).trans h5⟩; have n0 := ac0 e8
         have HVI := hI hyvi
         have HBY : Hid ((xs.length + 1) * rInt.bytes <= 140737488355328) := hI (by
          have h1 := Y1b b.doms cs t.ins j
          have h2 := Y2f b.doms cs s q
          have h3 : j * b.doms.length <= 3 * 4 := Nat.mul_le_mul (by omega) hd4
          rw [<- HXS.out, List.length_append]
          show (_ + 1) * 8 <= _
          omega)
         clear hxd hrd hyv hyvi
         by_cases hns : d.name = s
         ·have hn1 : (d.name == s) = true := by simp [hns]
          rw [hn1] at HIS
          clear hns
          go_wp2_with (at_builtin; refine Z0a (R := rInt) (x := v) el_I rfl (.tmp 81) (.tmp 86) rfl rfl HO8.out [.int .i64 v] rfl rfl (fun _ => False) ⟨rfl, HVI.out⟩ (fun _ h => h.elim) HBY.out HB8.out.size ?_; intro v9 w9 ho9 hb9 _ _; have HO9 := hI ho9; have HB9 := hI (HB8.out.trans hb9); clear ho9 hb9)
          go_roundw
          case rel => exact ⟨q + 1, _, hltq, by go_num, by rw [HIS.out.1, Bool.or_true], rfl, hI (by rw [HIS.out.2, if_pos rfl, <- List.append_assoc, HXS.out]; exact HO9.out), HB9⟩
          case measure => simp [intOf]; omega
         ·have hn1 : (d.name == s) = false := by simp [hns]
          rw [hn1] at HIS
          clear hns
          go_wp2
          go_roundw
          case rel => exact ⟨q + 1, _, hltq, by go_num, by rw [HIS.out.1, Bool.or_false], rfl, hI (by rw [HIS.out.2, if_neg (by decide), jB, HXS.out]; exact HO8.out), HB8⟩
          case measure => simp [intOf]; omega
        ·have hiq : ¬ (q : Int) < (b.doms.length : Int) := by omega
         obtain rfl : q = b.doms.length := by omega
         obtain ⟨ob, hob⟩ : ∃ z, Z9p b.doms t.ins j = z := ⟨_, rfl⟩
         obtain ⟨ib, hib⟩ : ∃ z, isTo b.doms s b.doms.length = z := ⟨_, rfl⟩
         rw [hob, hib] at HOS
         rw [hob, hib]
         clear hob hib
         cases ob
         all_goals
          go_wp2
          go_roundw
          case rel => exact ⟨j + 1, _, hltj, by go_num, by simp [HOS.out.1], rfl, hI (by rw [HOS.out.2, HXS.out]; exact HOW.out), HBi⟩
          case measure => simp [intOf]; omega
      ·have hij : ¬ (j : Int) < (t.ins.length : Int) := by omega
       obtain rfl : j = t.ins.length := by omega
       have p0' := (HBi.out.ce 0 HZ6.out).trans p0
       have p1' := (HBi.out.ce 1 HZ6.out).trans p1
       have p2' := (HBi.out.ce 2 HZ6.out).trans p2
       have p3' := (HBi.out.ce 3 HZ6.out).trans p3
       have p4' := (HBi.out.ce 4 HZ6.out).trans p4
       have f1' := HFD.out wr HB6i.out
       have HRR : Hid ((rSl rRl).rel wr (Up (fun _ => False) w1.heap.size) [.slice R1 t.rules.length r1] t.rules) := hI (by
        obtain ⟨v, u, hv, _, _, _, h⟩ := jH HR6.out HBi.out
        simp only [jC.injEq, and_true] at hv
        obtain ⟨_, _, _, _, rfl⟩ := hv
        exact h)
       have HTR := hI (HOW.out.rel (by decide))
       obtain ⟨ml, hml⟩ : ∃ z, Z1p t.rules (Z27 b.doms cs t.ins t.ins.length) = z := ⟨_, rfl⟩
       have HML := hI hml
       obtain ⟨ob, hob⟩ : ∃ z, Z9p b.doms t.ins t.ins.length = z := ⟨_, rfl⟩
       rw [hob, hml] at HPR
       rw [hob]
       clear hob hml
       cases ob
       ·go_wp2
        go_roundw
        case rel => exact ⟨m + 1, hltm, by go_num, hI (HB6i.out)⟩
        case measure => simp [intOf]; omega
       ·obtain ⟨hpc, hpu⟩ := HPR.out rfl
        by_cases hp1 : t.pol = 1
        ·have hp2 : (t.pol == 1) = true := by simp [hp1]
         have hm1 : ¬ (1 : Int) < (ml.length : Int) := by have := hpu hp1; omega
         clear hp1 hpu
         cases cm
         ·clear hpc
          go_wp2_with (go_at_call 13; (with_reducible refine (Z55 wr HRR.out HTR.out).mono ?_); rintro e w8 ⟨z, rfl, ho8, hb8⟩; rw [HML.out] at ho8; obtain ⟨Az, cz, rfl⟩ := ho8.value; have HB8 := hI (HB6i.out.trans (hb8.mono HB6i.out.size)); clear ho8 hb8)
          go_roundw
          case rel => exact ⟨m + 1, hltm, by go_num, hI (HB8.out)⟩
          case measure => simp [intOf]; omega
         ·obtain rfl := hpc rfl
          clear hpc
          go_wp2_with (go_at_call 13; (with_reducible refine (Z55 wr HRR.out HTR.out).mono ?_); rintro e w8 ⟨z, rfl, ho8, hb8⟩; rw [HML.out] at ho8; obtain ⟨Az, cz, rfl⟩ := ho8.value; have HB8 := hI (HB6i.out.trans (hb8.mono HB6i.out.size)); clear ho8 hb8)
          go_roundw
          case rel => exact ⟨m + 1, hltm, by go_num, hI (HB8.out)⟩
          case measure => simp [intOf]; omega
        ·have hp2 : (t.pol == 1) = false := by simp [hp1]
         clear hp1 hpu
         cases cm
         ·clear hpc
          go_wp2
          go_roundw
          case rel => exact ⟨m + 1, hltm, by go_num, hI (HB6i.out)⟩
          case measure => simp [intOf]; omega
         ·obtain rfl := hpc rfl
          clear hpc
          go_wp2
          go_roundw
          case rel => exact ⟨m + 1, hltm, by go_num, hI (HB6i.out)⟩
          case measure => simp [intOf]; omega
    ·have him : ¬ (m : Int) < (b.tabs.length : Int) := by omega
     go_wp2
     go_roundw
     case rel => exact ⟨k + 1, hlt, by go_num, hI (HB35.out.trans (HBt.out.mono HB35.out.size))⟩
     case measure => simp [intOf]; omega
  ·have hik : ¬ (k : Int) < (st.states.length : Int) := by omega
   go_wp2
   go_ret
   exact ⟨rfl, HBW.out.trans (HB.out.mono HBW.out.size)⟩
