import Derived.Test.YtlopccnehgolnacGreatDoorGJ48
import Derived.Test.YtlopccnehgolnacGreatDoorGJ33
import Derived.Test.YtlopccnehgolnacGreatDoorSess
import Derived.Test.YtlopccnehgolnacGreatDoorGJ43
namespace Go.Proofs.YtlopccnehgolnacGreatDoor
open Go.RowKit Rb
open Go.Lib renaming hid -> hI9
open Go.World renaming cell?_alloc_new -> cN, block_lt_of_cell? -> jJ, cell?_of_block -> jK
open Nat renaming lt_of_lt_of_le -> nL, le_trans -> nT, le_refl -> nR, le_succ -> jF, lt_irrefl -> jG, succ_le_succ -> jH, zero_le -> jI
open Go.RowKit.Below renaming refl -> jA
open List renaming getElem?_eq_getElem -> jB, length_append -> jC, nodup_nil -> jD, take_of_length_le -> jE
set_option maxRecDepth 100000
set_option maxHeartbeats 3200000
structure SOk (st : Sto) : Prop where
 ne : 0 < st.states.length
 le : st.states.length <= 40
 bk : ∀ b ∈ st.states, Neat b 4 4
 ses : ∀ k, k < 4 -> (st.ses k).opn = true -> (∃ f : Nat, (st.ses k).frm = f /\ f < st.states.length)
 mn : ∀ k, k < 4 -> Neat (st.ses k).mine 1000 1000
 gl : ∀ k, k < 4 -> (st.ses k).gone.length <= 1000
 rl : ∀ k, k < 4 -> (st.ses k).read.length <= 1000000
theorem SOk.inv {st : Sto} {k : Nat} (h : SOk st) (hk : k < 4) (ho : (st.ses k).opn = true) : ∃ f, SesInv st k f := by
 obtain ⟨f, h1, h2⟩ := h.ses k hk ho
 exact ⟨f, h.mn k hk, h.gl k hk, h.rl k hk, h1, h2, h.bk, h.le⟩
theorem X0v {C T I : Nat -> Prop} {sb : Nat} {st : Sto} {a : Acn} {as' : List Value} (w : World) (h : StoAt w sb C T st) (ha : rAcn.rel w I as' a) (hI : ∀ q, I q -> q < w.heap.size /\ ¬ C q) (hok : SOk st) (hlib : LibC C w) :
  Calls Tryz.prog 11 #[.pointer (some ⟨sb, 0, none⟩), .agg as'.toArray] w fun e w' => Z1c w sb C T (doS st a).1 (doS st a).2 e w' := by
 by_cases h200 : 200 <= st.acts
 ·exact Y9r w h ha hI h200
 by_cases hkd : a.kind < 1 \/ 7 < a.kind
 ·exact Y9s w h ha hI h200 hkd
 by_cases hk1 : a.kind = 1
 ·exact Y9t w h ha hI h200 hk1 hok.ne
 have hk : 2 <= a.kind /\ a.kind <= 7 := by omega
 by_cases hn0 : a.n < 0
 ·exact X0z w h ha hI h200 hk hn0
 by_cases hn4 : 4 <= a.n
 ·exact X0x w h ha hI h200 hk hn4
 obtain ⟨kd, n, nm, tx, ip⟩ := a
 simp only at hk hn0 hn4 hk1 hkd
 obtain ⟨k, rfl⟩ : ∃ k : Nat, n = k := ⟨n.toNat, by omega⟩
 have hk4 : k < 4 := by omega
 obtain ⟨u, rfl, _, _, hnm, htx, hin⟩ := ha
 obtain ⟨A, c, rfl, _⟩ := rSl.elems hin
 cases ho : (st.ses k).opn
 ·exact Y9u w h hin hI hnm htx h200 hk4 hk ho
 obtain ⟨f, hv⟩ := hok.inv hk4 ho
 have hcs : kd = 2 \/ kd = 3 \/ kd = 4 \/ kd = 5 \/ kd = 6 \/ kd = 7 := by omega
 rcases hcs with rfl | rfl | rfl | rfl | rfl | rfl
 ·exact X00 w h hin hI hnm htx h200 hk4 ho hv hlib
 ·cases hnd : Z14 nm
  ·exact Y7u w h hin hI hnm htx h200 hk4 ho hnd
  ·exact Y9q w h hin hI hnm htx h200 hk4 ho hnd hv
 ·cases hnd : Z14 nm
  ·exact Y7v w h hin hI hnm htx h200 hk4 ho hnd
  ·exact X0y w h hin hI hnm htx h200 hk4 ho hnd hv hlib
 ·exact X0w w h hin hI hnm htx h200 hk4 ho hv
 ·exact Y5o w h hin hI hnm htx h200 hk4 ho hv hlib
 ·exact Y7t w h hin hI hnm htx h200 hk4 ho
structure XGood (n m : Nat) (x : Ses) : Prop where
 fr : x.opn = true -> ∃ f : Nat, x.frm = f /\ f < n
 mn : Neat x.mine m m
 gl : x.gone.length <= m
 rl : x.read.length <= 1000 * m
structure SGood (st : Sto) : Prop where
 ne : 0 < st.states.length
 le : st.states.length <= 40
 chk : ∀ b ∈ st.states, (Z0g b).2.2 = 0
 ac : st.acts <= 200
 ses : ∀ k, XGood st.states.length st.acts (st.ses k)
theorem Neat.bk0 (nd nt : Nat) : Neat bk0 nd nt := ⟨jD, jD, jI _, jI _⟩
theorem XGood.ses0 (n m : Nat) : XGood n m ses0 := ⟨fun h => Bool.noConfusion h, Neat.bk0 _ _, jI _, jI _⟩
theorem XGood.mono {n m n' m' : Nat} {x : Ses} (h : XGood n m x) (hn : n <= n') (hm : m <= m') : XGood n' m' x :=
 ⟨fun ho => by obtain ⟨f, h1, h2⟩ := h.fr ho; exact ⟨f, h1, by omega⟩, h.mn.mono hm hm, nT h.gl hm, nT h.rl (Nat.mul_le_mul_left _ hm)⟩
theorem Z9t {b : Bk} (h : (Z0g b).2.2 = 0) : Neat b 4 4 := by
 have hc := Y97 h
 exact ⟨hc.domNames, hc.tabNames, hc.dl, hc.tl⟩
theorem SGood.ok {st : Sto} (h : SGood st) : SOk st := by
 have := h.ac
 exact ⟨h.ne, h.le, fun b hb => Z9t (h.chk b hb), fun k _ => (h.ses k).fr, fun k _ => (h.ses k).mn.mono (by omega) (by omega), fun k _ => by have := (h.ses k).gl; omega, fun k _ => by have := (h.ses k).rl; omega⟩
theorem SGood.start : SGood sto0 := by
 refine ⟨by decide, by decide, fun b hb => ?_, by decide, fun k => XGood.ses0 _ _⟩
 obtain rfl : b = bk0 := by simpa [sto0] using hb
 rfl
theorem SGood.put {st : Sto} (h : SGood st) {k : Nat} {x : Ses} (hx : XGood st.states.length st.acts x) : SGood (st.put k x) :=
 ⟨h.ne, h.le, h.chk, h.ac, fun j => by
  show XGood _ _ (if j = k then x else st.ses j)
  split
  ·exact hx
  ·exact h.ses j⟩
theorem SGood.up {st : Sto} (h : SGood st) (ha : ¬ 200 <= st.acts) : SGood st.up :=
 ⟨h.ne, h.le, h.chk, by show st.acts + 1 <= 200; omega, fun k => (h.ses k).mono (nR _) (jF _)⟩
theorem Z90 (b : Bk) (l : List Txt) : (Z13 b l).length <= l.length + b.doms.length + b.tabs.length := by
 have := Z56 Z07 (Z0q b) l
 simp only [Z0q, jC, List.length_map] at this
 unfold Z13
 simp only [Z0q]
 omega
theorem SGood.step {st : Sto} (h : SGood st) (a : Acn) : SGood (doS st a).2 := by
 unfold doS
 split
 ·exact h
 rename_i h200
 have hu := h.up h200
 have hua : st.up.acts = st.acts + 1 := rfl
 split
 ·exact hu
 split
 ·unfold Z4z
  split
  ·exact hu
  ·split
   ·refine hu.put ⟨fun _ => ⟨st.up.states.length - 1, ?_, ?_⟩, Neat.bk0 _ _, jI _, jI _⟩
    ·have := hu.ne
     show (st.up.states.length : Int) - 1 = _
     omega
    ·have := hu.ne
     omega
   ·exact hu
 split
 ·exact hu
 split
 ·exact hu
 generalize hk : a.n.toNat = k
 have hx := h.ses k
 have hxu := hu.ses k
 have hxe : st.up.ses k = st.ses k := rfl
 have hse : st.up.states = st.states := rfl
 unfold Z87
 rw [hxe]
 rw [hxe] at hxu
 split
 ·refine hu.put ?_
  unfold putB
  split
  ·exact hxu
  ·split
   ·exact ⟨hx.fr, (Z6z hx.mn _).mono (jF _) (nR _), nT (Z07 _ _) (jH hx.gl), by have := hxu.rl; exact this⟩
   ·exact ⟨hx.fr, (Z6y hx.mn _).mono (nR _) (jF _), nT (Z07 _ _) (jH hx.gl), by have := hxu.rl; exact this⟩
 split
 ·exact hu.put ⟨hx.fr, (hx.mn.without _).mono (jF _) (jF _), nT (Z07 _ _) (jH hx.gl), by have := hxu.rl; exact this⟩
 split
 ·refine hu.put ⟨hx.fr, hxu.mn, hxu.gl, ?_⟩
  have h1 := Z07 (st.ses k).read a.name
  have h2 := hx.rl
  show (addN (st.ses k).read a.name).length <= 1000 * (st.acts + 1)
  omega
 split
 ·refine hu.put ⟨hx.fr, hxu.mn, hxu.gl, ?_⟩
  have hb4 : Neat (st.up.at (st.ses k).frm) 4 4 := by
   unfold Sto.at
   rw [hse]
   rcases hg : st.states[(st.ses k).frm.toNat]? with _ | b
   ·exact Neat.bk0 _ _
   ·exact Z9t (h.chk b (List.mem_of_getElem? hg))
  have hv := hb4.view (st.ses k)
  have h1 := Z90 (st.up.at (st.ses k).frm) (st.ses k).read
  have h2 := Z90 (Z3e (st.up.at (st.ses k).frm) (st.ses k)) (Z13 (st.up.at (st.ses k).frm) (st.ses k).read)
  have h3 := Z07 (Z13 (Z3e (st.up.at (st.ses k).frm) (st.ses k)) (Z13 (st.up.at (st.ses k).frm) (st.ses k).read)) []
  have h4 := hx.rl
  have h5 := hb4.ld
  have h6 := hb4.lt
  have h7 := hv.ld
  have h8 := hv.lt
  have h9 := hx.mn.ld
  have h10 := hx.mn.lt
  have h11 := h.ac
  show (if (st.ses k).strict then _ else _ : List Txt).length <= 1000 * (st.acts + 1)
  split <;> omega
 split
 ·have hc : SGood (st.up.put k ses0) := hu.put (XGood.ses0 _ _)
  unfold Z1t
  split
  ·exact hc
  ·split
   ·exact hc
   ·split
    ·exact hc
    ·split
     ·exact hc
     ·rename_i h40 hck
      refine ⟨by simp, by rw [jC]; simp only [List.length_singleton]; omega, fun b hb => ?_, hc.ac, fun j => (hc.ses j).mono (by show _ <= (st.up.states ++ [_]).length; rw [jC]; exact Nat.le_add_right _ _) (nR _)⟩
      rcases List.mem_append.1 hb with hb | hb
      ·exact h.chk b hb
      ·obtain rfl := List.mem_singleton.1 hb
       simpa using hck
 ·exact hu.put (XGood.ses0 _ _)
theorem Z6q {C T : Nat -> Prop} {sb : Nat} {st : Sto} (w : World) (h : StoAt w sb C T st) :
  Calls Tryz.prog 12 #[.pointer (some ⟨sb, 0, none⟩)] w fun e w' => ∃ u, e = .returned u /\ Own rBk 38 w' w.heap.size (fun _ => False) u st.states /\ Below w.heap.size w w' := by
 obtain ⟨v, h0, h1, _⟩ := h.row
 exact Y4i (S := fun q => q < w.heap.size) w h0 ((rSl rBk).mono (h1.self.rel (by decide)) fun q _ hl => hl) fun q hq => hq
theorem Y64 (x : Value) (as' rs : List Value) (ha : as'.length = 5) (hr : rs.length = 5) (w : World) : Calls Tryz.prog 24 #[x, .agg as'.toArray, .agg rs.toArray] w fun e w' => e = .returned (.bool true) /\ Below w.heap.size w w' := by
 obtain ⟨a0, a1, a2, a3, a4, rfl⟩ : ∃ a0 a1 a2 a3 a4, as' = [a0, a1, a2, a3, a4] := by
  match as', ha with
  | [a0, a1, a2, a3, a4], _ => exact ⟨a0, a1, a2, a3, a4, rfl⟩
 obtain ⟨r0, r1, r2, r3, r4, rfl⟩ : ∃ a0 a1 a2 a3 a4, rs = [a0, a1, a2, a3, a4] := by
  match rs, hr with
  | [a0, a1, a2, a3, a4], _ => exact ⟨a0, a1, a2, a3, a4, rfl⟩
 obtain ⟨W1, e1, HB⟩ : ∃ W1, (w.alloc (.cells #[a0, a1, a2, a3, a4] 24)).alloc (.cells #[r0, r1, r2, r3, r4] 30) = W1 /\ Hid (Below w.heap.size w W1) := ⟨_, rfl, hI9 (((jA _ _).alloc (nR _) _).alloc (by simp) _)⟩
 clear ha hr
 go_enter Tryz.func24, Tryz.ntmps24
 go_wp2
 go_ret
 exact ⟨rfl, HB.out⟩
def Z6r : Acn := ⟨1, 0, [], [], []⟩
def Y1i : Acn := ⟨2, 0, [], [100, 111, 109, 97, 105, 110, 32, 97, 32, 49, 46, 46, 57], []⟩
def Z5z : Acn := ⟨6, 0, [], [], []⟩
theorem Y4j : (doS sto0 Z6r).1 = ⟨0, 0, [], [], []⟩ := by rfl
theorem Y54 : (doS (doS sto0 Z6r).2 Y1i).1.code = 0 := by kernel_rfl
theorem Y1j : (doS (doS (doS sto0 Z6r).2 Y1i).2 Z5z).1.code = 0 /\ (doS (doS (doS sto0 Z6r).2 Y1i).2 Z5z).1.n = 1 /\ (doS (doS (doS sto0 Z6r).2 Y1i).2 Z5z).2.states.length = 2 := by
 refine ⟨by kernel_rfl, by kernel_rfl, by kernel_rfl⟩
structure At (w0 w : World) (sb : Nat) (C T : Nat -> Prop) (st : Sto) : Prop where
 sto : StoAt w sb C T st
 bl : Below w0.heap.size w0 w
 cn : ∀ q, C q -> w0.heap.size <= q
 tn : ∀ q, T q -> w0.heap.size <= q
 lib : LibC C w
 ok : SGood st
theorem At.below {w0 w w' : World} {sb : Nat} {C T : Nat -> Prop} {st : Sto} (h : At w0 w sb C T st) (hb : Below w.heap.size w w') : At w0 w' sb C T st :=
 ⟨h.sto.below hb, h.bl.trans (hb.mono h.bl.size), h.cn, h.tn, h.lib.below hb, h.ok⟩
theorem At.act {w0 w : World} {sb : Nat} {C T I : Nat -> Prop} {st : Sto} {a : Acn} {as' : List Value} (h : At w0 w sb C T st) (ha : rAcn.rel w I as' a) (hI : ∀ q, I q -> q < w.heap.size /\ ¬ C q) :
  Calls Tryz.prog 11 #[.pointer (some ⟨sb, 0, none⟩), .agg as'.toArray] w fun e w' => ∃ A c B d C' T', e = .returned (.agg #[.int .i64 (doS st a).1.code, .int .i64 (doS st a).1.n, .string ⟨(doS st a).1.text.toArray⟩, .slice A (doS st a).1.ans.length c, .slice B (doS st a).1.at'.length d]) /\
   rRep.rel w' (fun q => w.heap.size <= q /\ ¬ C' q /\ q < w'.heap.size) [.int .i64 (doS st a).1.code, .int .i64 (doS st a).1.n, .string ⟨(doS st a).1.text.toArray⟩, .slice A (doS st a).1.ans.length c, .slice B (doS st a).1.at'.length d] (doS st a).1 /\ At w0 w' sb C' T' (doS st a).2 /\ Chg C w w' /\ (∀ q, C' q -> C q \/ w.heap.size <= q) /\ ∀ q, T' q -> T q \/ w.heap.size <= q := by
 refine (X0v w h.sto ha hI h.ok.ok h.lib).mono ?_
 rintro e w' ⟨rs, C', T', rfl, hr, hs, hc, hC, hT⟩
 obtain ⟨A, c, B, d, rfl⟩ := Z6h hr
 have hz := h.bl.size
 exact ⟨A, c, B, d, C', T', rfl, hr, ⟨hs, h.bl.trans (hc.toBelow hz h.cn), fun q hq => (hC q hq).elim (h.cn q) fun h => by omega, fun q hq => (hT q hq).elim (h.tn q) fun h => by omega, h.lib.chg hc hC, h.ok.step a⟩, hc, hC, hT⟩
theorem At.new (w : World) (hl : LibW w) (hp : PolW w) : Calls Tryz.prog 26 #[] w fun e w' => ∃ sb C T, e = .returned (.pointer (some ⟨sb, 0, none⟩)) /\ At w w' sb C T sto0 := by
 refine (Y9x w).mono ?_
 rintro e w' ⟨rfl, hs, hb⟩
 refine ⟨_, _, _, rfl, hs, hb, fun q hq => by rcases hq with rfl | rfl <;> omega, fun q hq => hq.elim, fun w2 hc => ?_, SGood.start⟩
 have h2 : Below w.heap.size w w2 := hb.trans (hc.toBelow hb.size fun q hq => by rcases hq with rfl | rfl <;> omega)
 exact ⟨hl.below h2, hp.below h2⟩
theorem At.other {w0 w w' : World} {sb : Nat} {C T D : Nat -> Prop} {st : Sto} (h : At w0 w sb C T st) (hl : LibW w0) (hp : PolW w0) (hc : Chg D w w') (hb : Below w0.heap.size w0 w') (hd : ∀ q, D q -> ¬ C q /\ ¬ T q) : At w0 w' sb C T st :=
 ⟨h.sto.keep (hc.keeps fun b hb hD => hb.elim (hd b hD).2 (hd b hD).1) hc.size, hb, h.cn, h.tn, fun w'' h2 => by
  have h3 := hb.trans (h2.toBelow hb.size h.cn)
  exact ⟨hl.below h3, hp.below h3⟩, h.ok⟩
theorem At.lower {w w1 w2 : World} {sb : Nat} {C T : Nat -> Prop} {st : Sto} (h : At w1 w2 sb C T st) (hb : Below w.heap.size w w1) : At w w2 sb C T st :=
 ⟨h.sto, hb.trans (h.bl.mono hb.size), fun q hq => nT hb.size (h.cn q hq), fun q hq => nT hb.size (h.tn q hq), h.lib, h.ok⟩
theorem At.act_at {w0 w : World} {sb : Nat} {C T I : Nat -> Prop} {st st' : Sto} {a : Acn} {as' : List Value} {r : Rep} (hd : doS st a = (r, st')) (h : At w0 w sb C T st) (ha : rAcn.rel w I as' a) (hI : ∀ q, I q -> q < w.heap.size /\ ¬ C q) :
  Calls Tryz.prog 11 #[.pointer (some ⟨sb, 0, none⟩), .agg as'.toArray] w fun e w' => ∃ A c B d C' T', e = .returned (.agg #[.int .i64 r.code, .int .i64 r.n, .string ⟨r.text.toArray⟩, .slice A r.ans.length c, .slice B r.at'.length d]) /\
   rRep.rel w' (fun q => w.heap.size <= q /\ ¬ C' q /\ q < w'.heap.size) [.int .i64 r.code, .int .i64 r.n, .string ⟨r.text.toArray⟩, .slice A r.ans.length c, .slice B r.at'.length d] r /\ At w0 w' sb C' T' st' /\ Chg C w w' /\ (∀ q, C' q -> C q \/ w.heap.size <= q) /\ ∀ q, T' q -> T q \/ w.heap.size <= q := by
 have := h.act ha hI
 rw [hd] at this
 exact this
theorem Z6s (w : World) (kd n : Int) (nm tx : Txt) (h1 : InI kd) (h2 : InI n) (h3 : nm.length <= 140737488355328) (h4 : tx.length <= 140737488355328) : rAcn.rel w (fun _ => False) [.int .i64 kd, .int .i64 n, .string ⟨nm.toArray⟩, .string ⟨tx.toArray⟩, .slice none 0 0] ⟨kd, n, nm, tx, []⟩ :=
 ⟨_, rfl, h1, h2, h3, h4, Z1e _ _⟩
theorem box5 (w : World) (v0 v1 v2 v3 v4 : Value) : ∃ W, w.alloc (.cells #[v0, v1, v2, v3, v4] 30) = W /\ Hid (Below w.heap.size w W) /\ W.cell? ⟨w.heap.size, 0, none⟩ = some v0 /\ W.cell? ⟨w.heap.size, 1, none⟩ = some v1 /\ Hid (w.heap.size < W.heap.size) :=
 ⟨_, rfl, hI9 ((jA _ _).alloc (nR _) _), cN _ _ _ _, cN _ _ _ _, hI9 (by simp)⟩
theorem Y53 (w : World) (hl : LibW w) (hp : PolW w) : Calls Tryz.prog 52 #[] w fun e w' => e = .returned (.bool true) /\ Below w.heap.size w w' := by
 obtain ⟨⟨r1, s1⟩, h1⟩ : ∃ z, doS sto0 Z6r = z := ⟨_, rfl⟩
 obtain ⟨⟨r2, s2⟩, h2⟩ : ∃ z, doS s1 Y1i = z := ⟨_, rfl⟩
 obtain ⟨⟨r3, s3⟩, h3⟩ : ∃ z, doS s2 Z5z = z := ⟨_, rfl⟩
 have k1 : r1.code = 0 := by have := Y4j; rw [h1] at this; rw [show r1 = _ from this]
 have k2 : r2.code = 0 := by have := Y54; rw [h1, h2] at this; exact this
 have k3 : r3.code = 0 /\ r3.n = 1 /\ s3.states.length = 2 := by have := Y1j; rw [h1, h2, h3] at this; exact this
 obtain ⟨k3, k4, k5⟩ := k3
 have HH1 := hI9 h1
 have HH2 := hI9 h2
 have HH3 := hI9 h3
 have HNEW := hI9 (At.new w hl hp)
 clear h1 h2 h3 hl hp
 have HF : Hid (∀ (w : World) (C : Nat -> Prop) (q : Nat), False -> q < w.heap.size /\ ¬ C q) := hI9 fun _ _ _ h => h.elim
 go_enter Tryz.func52, Tryz.ntmps52
 go_upto_region 4 with (first
  | (go_at_call 26; (with_reducible refine HNEW.out.mono ?_); rintro e w1 ⟨sb, C1, T1, rfl, hA1⟩; have HA1 := hI9 hA1; clear hA1))
 go_upto_region 7 with (first
  | (go_at_call 11; first | (((refine Calls.mono (HA1.out.act_at HH1.out (Z6s w1 1 0 [] [] ⟨by decide, by decide⟩ ⟨by decide, by decide⟩ (by simp) (by simp)) (HF.out w1 C1)) ?_); rintro e v2 ⟨A2, c2, B2, d2, C2, T2, rfl, _, hA2, hc2, hC2, _⟩; obtain ⟨W2, e2, HB2, x2, y2, HS2⟩ := box5 v2 (.int .i64 0) (.int .i64 r1.n) (.string ⟨r1.text.toArray⟩) (.slice A2 r1.ans.length c2) (.slice B2 r1.at'.length d2); have HA2 := hI9 (hA2.below HB2.out); have HW2 := hI9 hA2.sto.cw; clear hA2 hc2 hC2)) | (((refine Calls.mono (HA2.out.act_at HH2.out (Z6s W2 2 0 [] [100, 111, 109, 97, 105, 110, 32, 97, 32, 49, 46, 46, 57] ⟨by decide, by decide⟩ ⟨by decide, by decide⟩ (by simp) (by simp)) (HF.out W2 C2)) ?_); rintro e v3 ⟨A3, c3, B3, d3, C3, T3, rfl, _, hA3, hc3, hC3, _⟩; obtain ⟨W3, e3, HB3, x3, y3, HS3⟩ := box5 v3 (.int .i64 0) (.int .i64 r2.n) (.string ⟨r2.text.toArray⟩) (.slice A3 r2.ans.length c3) (.slice B3 r2.at'.length d3); have HA3 := hI9 (hA3.below HB3.out); have HW3 := hI9 hA3.sto.cw; have x2b := (HB3.out.cell (p := ⟨v2.heap.size, 0, none⟩) (nL HS2.out hc3.size)).trans ((jK (a := ⟨v2.heap.size, 0, none⟩) (hc3.block v2.heap.size HS2.out (fun h => jG _ (HW2.out _ h)))).trans x2); have HN3 : Hid (¬ C3 v2.heap.size) := hI9 (fun h => by (rcases hC3 _ h with h | h; exact jG _ (HW2.out _ h); (have := HS2.out; omega))); have HS3b : Hid (v2.heap.size < W3.heap.size) := hI9 (jJ _ _ x2b); clear x2; clear hA3 hc3 hC3)) | (((refine Calls.mono (HA3.out.act_at HH3.out (Z6s W3 6 0 [] [] ⟨by decide, by decide⟩ ⟨by decide, by decide⟩ (by simp) (by simp)) (HF.out W3 C3)) ?_); rintro e v4 ⟨A4, c4, B4, d4, C4, T4, rfl, _, hA4, hc4, hC4, _⟩; obtain ⟨W4, e4, HB4, x4, y4, HS4⟩ := box5 v4 (.int .i64 0) (.int .i64 1) (.string ⟨r3.text.toArray⟩) (.slice A4 r3.ans.length c4) (.slice B4 r3.at'.length d4); have HA4 := hI9 (hA4.below HB4.out); have x2c := (HB4.out.cell (p := ⟨v2.heap.size, 0, none⟩) (nL HS3b.out hc4.size)).trans ((jK (a := ⟨v2.heap.size, 0, none⟩) (hc4.block v2.heap.size HS3b.out HN3.out)).trans x2b); have x3b := (HB4.out.cell (p := ⟨v3.heap.size, 0, none⟩) (nL HS3.out hc4.size)).trans ((jK (a := ⟨v3.heap.size, 0, none⟩) (hc4.block v3.heap.size HS3.out (fun h => jG _ (HW3.out _ h)))).trans x3); clear x2b x3; clear hA4 hc4 hC4))))
 have HST := hI9 (Z6q W4 HA4.out.sto)
 have HK5 := hI9 k5
 go_wp2_with (go_at_call 12; (with_reducible refine HST.out.mono ?_); rintro e w9 ⟨u9, rfl, ho9, hb9⟩; obtain ⟨A9, c9, e9⟩ := ho9.value; rw [HK5.out] at e9; subst e9; have HB9 := hI9 hb9; clear ho9 hb9)
 go_ret
 exact ⟨rfl, HA4.out.bl.trans (HB9.out.mono HA4.out.bl.size)⟩
def Z40 (l : List Acn) (n : Nat) : Sto := (l.take n).foldl (fun s a => (doS s a).2) sto0
def Y3g (l : List Acn) : Sto := Z40 l 50
theorem Z8s {l : List Acn} {n : Nat} {a : Acn} (h : l[n]? = some a) : Z40 l (n + 1) = (doS (Z40 l n) a).2 := by
 unfold Z40
 rw [Z0b h, List.foldl_append]
 rfl
theorem Z9y {l : List Acn} {n : Nat} (h : l.length <= n) (h50 : n <= 50) : Z40 l n = Y3g l := by
 unfold Y3g Z40
 rw [jE h, jE (by omega)]
theorem Elems.acn {w : World} {S : Nat -> Prop} {A : Option Addr} {l : List Acn} (h : Elems rAcn w S A l) {i : Nat} (hi : i < l.length) : ∃ b off a I c, A = some ⟨b, off, none⟩ /\ S b /\ b < w.heap.size /\ l[i]? = some a /\ rAcn.rel w S [.int .i64 a.kind, .int .i64 a.n, .string ⟨a.name.toArray⟩, .string ⟨a.text.toArray⟩, .slice I a.inp.length c] a /\
  w.cell? ⟨b, off + i * 5, none⟩ = some (.int .i64 a.kind) /\ w.cell? ⟨b, off + i * 5 + 1, none⟩ = some (.int .i64 a.n) /\ w.cell? ⟨b, off + i * 5 + 2, none⟩ = some (.string ⟨a.name.toArray⟩) /\ w.cell? ⟨b, off + i * 5 + 3, none⟩ = some (.string ⟨a.text.toArray⟩) /\ w.cell? ⟨b, off + i * 5 + 4, none⟩ = some (.slice I a.inp.length c) := by
 obtain ⟨b, off, es, hA, hS, hb, hr, hc⟩ := h i l[i] (jB hi)
 have hr' := hr
 obtain ⟨u, rfl, _, _, _, _, hin⟩ := hr
 obtain ⟨I, c, rfl, _⟩ := rSl.elems hin
 exact ⟨b, off, l[i], I, c, hA, hS, hb, jB hi, hr', hc 0 _ rfl, hc 1 _ rfl, hc 2 _ rfl, hc 3 _ rfl, hc 4 _ rfl⟩
theorem X08 {w v W : World} {q o : Nat} {u0 u1 u2 u3 u4 : Value} (h : v.heap[q]? = w.heap[q]?) (hq : q < v.heap.size) (hb : Below v.heap.size v W) (g0 : w.cell? ⟨q, o, none⟩ = some u0) (g1 : w.cell? ⟨q, o + 1, none⟩ = some u1) (g2 : w.cell? ⟨q, o + 2, none⟩ = some u2) (g3 : w.cell? ⟨q, o + 3, none⟩ = some u3) (g4 : w.cell? ⟨q, o + 4, none⟩ = some u4) :
  W.cell? ⟨q, o, none⟩ = some u0 /\ W.cell? ⟨q, o + 1, none⟩ = some u1 /\ W.cell? ⟨q, o + 2, none⟩ = some u2 /\ W.cell? ⟨q, o + 3, none⟩ = some u3 /\ W.cell? ⟨q, o + 4, none⟩ = some u4 := by
 have k : ∀ j, W.cell? ⟨q, j, none⟩ = w.cell? ⟨q, j, none⟩ := fun j => (hb.cell (p := ⟨q, j, none⟩) hq).trans (jK (a := ⟨q, j, none⟩) h)
 exact ⟨(k _).trans g0, (k _).trans g1, (k _).trans g2, (k _).trans g3, (k _).trans g4⟩
theorem X07 (w : World) (v0 v1 v2 v3 v4 : Value) : ∃ W, w.alloc (.cells #[v0, v1, v2, v3, v4] 30) = W /\ Hid (Below w.heap.size w W) /\ W.cell? ⟨w.heap.size, 0, none⟩ = some v0 /\ W.cell? ⟨w.heap.size, 1, none⟩ = some v1 /\ W.cell? ⟨w.heap.size, 2, none⟩ = some v2 /\ W.cell? ⟨w.heap.size, 3, none⟩ = some v3 /\ W.cell? ⟨w.heap.size, 4, none⟩ = some v4 /\ Hid (W.heap.size = w.heap.size + 1) :=
 ⟨_, rfl, hI9 ((jA _ _).alloc (nR _) _), cN _ _ _ _, cN _ _ _ _, cN _ _ _ _, cN _ _ _ _, cN _ _ _ _, hI9 (by simp)⟩
theorem Z9z {S : Nat -> Prop} {lv : Value} {l : List Acn} (w : World) (hl : (rSl rAcn).rel w S [lv] l) (hS : ∀ q, S q -> q < w.heap.size) (hw : LibW w) (hp : PolW w) :
  Calls Tryz.prog 20 #[lv, .func (.func 24) #[] #[]] w fun e w' => ∃ sb C T, e = .returned (.tuple #[.pointer (some ⟨sb, 0, none⟩), .bool true]) /\ At w w' sb C T (Y3g l) := by
 obtain ⟨A, c, rfl, _, _, hby, hE⟩ := rSl.elems hl
 have hln : l.length <= 1954687338432 := by simp only [rAcn] at hby; omega
 have HE := hI9 hE
 have HS := hI9 hS
 have HAL := hI9 (Y53 w hw hp)
 have HNW := hI9 fun w1 (hb : Below w.heap.size w w1) => At.new w1 (hw.below hb) (hp.below hb)
 clear hl hE hS hby hw hp
 go_enter Tryz.func20, Tryz.ntmps20
 go_upto_region 5 with (first
  | (go_at_call 52; (with_reducible refine HAL.out.mono ?_); rintro e w1 ⟨rfl, hb1⟩; have HB1 := hI9 hb1; clear hb1)
  | (go_at_call 26; (with_reducible refine (HNW.out w1 HB1.out).mono ?_); rintro e w2 ⟨sb, C, T, rfl, hA⟩; have HA := hI9 (hA.lower HB1.out); clear hA))
 go_loopw [7] (fun i wr => ∃ (k : Nat) (C T : Nat -> Prop), i = .int .i64 k /\ k <= l.length /\ k <= 50 /\ Hid (At w wr sb C T (Z40 l k))) (fun i _ => l.length - (intOf i).toNat)
 case atStart => exact ⟨0, C, T, rfl, jI _, jI _, HA⟩
 case round =>
  clear HA
  obtain ⟨k, C, T, rfl, hk, hk50, HA⟩ := hrel
  by_cases hlt : k < l.length
  ·by_cases h50 : k < 50
   ·have hik : (k : Int) < (l.length : Int) := by omega
    have hik5 : (k : Int) < 50 := by omega
    obtain ⟨q, off, a, I, ic, rfl, hSq, hq, hx, hr, g0, g1, g2, g3, g4⟩ := (HE.out.keep (.of_below HA.out.bl)).acn hlt
    have HR := hI9 hr
    have HNC : Hid (∀ p, S p -> p < wr.heap.size /\ ¬ C p) := hI9 fun p hp => ⟨nL (HS.out p hp) HA.out.bl.size, fun hc => by have := HA.out.cn p hc; have := HS.out p hp; omega⟩
    obtain ⟨⟨r1, s1⟩, h1⟩ : ∃ z, doS (Z40 l k) a = z := ⟨_, rfl⟩
    have HH1 := hI9 h1
    have HNX : Hid (Z40 l (k + 1) = s1) := hI9 (by rw [Z8s hx, h1])
    have HSQ : Hid (q < wr.heap.size /\ ¬ C q) := hI9 (HNC.out q hSq)
    clear hx hr h1 hSq
    go_upto_region 8 with (first
     | (go_at_call 11; (with_reducible refine Calls.mono (HA.out.act_at HH1.out HR.out HNC.out) ?_); rintro e v2 ⟨A2, c2, B2, d2, C2, T2, rfl, _, hA2, hc2, hC2, _⟩; obtain ⟨W2, e2, HB2, x0, x1, x2, x3, x4, HS2⟩ := X07 v2 (.int .i64 r1.code) (.int .i64 r1.n) (.string ⟨r1.text.toArray⟩) (.slice A2 r1.ans.length c2) (.slice B2 r1.at'.length d2); have HA2 := hI9 (hA2.below HB2.out); obtain ⟨k0, k1, k2, k3, k4⟩ := X08 (q := q) (o := off + k * 5) (hc2.block q HSQ.out.1 HSQ.out.2) (nL HSQ.out.1 hc2.size) HB2.out g0 g1 g2 g3 g4; clear g0 g1 g2 g3 g4 hA2 hc2 hC2))
    have HQ := hI9 fun w' (hb : Below W2.heap.size W2 w') => Y64 (.pointer (some ⟨sb, 0, none⟩)) [.int .i64 a.kind, .int .i64 a.n, .string ⟨a.name.toArray⟩, .string ⟨a.text.toArray⟩, .slice I a.inp.length ic] [.int .i64 r1.code, .int .i64 r1.n, .string ⟨r1.text.toArray⟩, .slice A2 r1.ans.length c2, .slice B2 r1.at'.length d2] rfl rfl w'
    have hqW : q < W2.heap.size := jJ _ _ k0
    have hvW : v2.heap.size < W2.heap.size := jJ _ _ x0
    refine wp_region_quiet_below (by kernel_rfl) (by kernel_rfl) ?_
    repeat (go_big_quiet_step (with_reducible exact Calls.inBelow HQ.out _ _))
    refine wpQuiet_nil ?_
    intro _ hw'
    obtain ⟨⟨dq, osq⟩, hw''⟩ := hw'
    subst hw''
    go_wp2
    go_roundw
    case rel => exact ⟨k + 1, C2, T2, by go_num, hlt, h50, hI9 (by rw [HNX.out]; exact HA2.out.below (below_regrown _ _ _))⟩
    case measure => simp [intOf]; omega
   ·have hik5 : ¬ (k : Int) < 50 := by omega
    have hik : (k : Int) < (l.length : Int) := by omega
    obtain rfl : k = 50 := by omega
    go_wp2
    go_ret2
    exact ⟨sb, rfl, C, T, HA.out⟩
  ·have hik : ¬ (k : Int) < (l.length : Int) := by omega
   go_wp2
   go_ret2
   exact ⟨sb, rfl, C, T, by have := HA.out; rwa [Z9y (by omega) hk50] at this⟩
end Go.Proofs.YtlopccnehgolnacGreatDoor
namespace Go.Proofs.YtlopccnehgolnacGreatDoor
open Go.RowKit Rb
structure At2 (w0 w : World) (sb : Nat) (C T : Nat -> Prop) (st : Sto) (gb : Nat) (D U : Nat -> Prop) (sg : Sto) : Prop where
 s : At w0 w sb C T st
 g : At w0 w gb D U sg
 dj : ∀ q, C q \/ T q -> ¬ (D q \/ U q)
section
variable {w0 w w' w1 w2 : World} {sb gb : Nat} {C T D U I : Nat -> Prop} {st sg : Sto} {a : Acn} {as' : List Value}
theorem At2.below (h : At2 w0 w sb C T st gb D U sg) (hb : Below w.heap.size w w') : At2 w0 w' sb C T st gb D U sg := ⟨h.s.below hb, h.g.below hb, h.dj⟩
theorem At2.swap (h : At2 w0 w sb C T st gb D U sg) : At2 w0 w gb D U sg sb C T st := ⟨h.g, h.s, fun q hq hn => h.dj q hn hq⟩
theorem At2.start (h1 : At w w1 sb C T st) (h2 : At w1 w2 gb D U sg) : At2 w w2 sb C T st gb D U sg :=
 ⟨h1.below h2.bl, h2.lower h1.bl, fun q hq hn => by
  have h3 : q < w1.heap.size := hq.elim (h1.sto.cw q) (h1.sto.tw q)
  have h4 : w1.heap.size <= q := hn.elim (h2.cn q) (h2.tn q)
  omega⟩
theorem At2.act {st' : Sto} {r : Rep} (hd : doS st a = (r, st')) (h : At2 w0 w sb C T st gb D U sg) (hl : LibW w0) (hp : PolW w0) (ha : rAcn.rel w I as' a) (hI : ∀ q, I q -> q < w.heap.size /\ ¬ C q) :
  Calls Tryz.prog 11 #[.pointer (some ⟨sb, 0, none⟩), .agg as'.toArray] w fun e w' => ∃ A c B d C' T', e = .returned (.agg #[.int .i64 r.code, .int .i64 r.n, .string ⟨r.text.toArray⟩, .slice A r.ans.length c, .slice B r.at'.length d]) /\
   rRep.rel w' (fun q => w.heap.size <= q /\ ¬ C' q /\ q < w'.heap.size) [.int .i64 r.code, .int .i64 r.n, .string ⟨r.text.toArray⟩, .slice A r.ans.length c, .slice B r.at'.length d] r /\ At2 w0 w' sb C' T' st' gb D U sg /\ Chg C w w' /\ (∀ q, C' q -> C q \/ w.heap.size <= q) := by
 refine (h.s.act_at hd ha hI).mono ?_
 rintro e w' ⟨A, c, B, d, C', T', rfl, hr, hs, hc, hC, hT⟩
 refine ⟨A, c, B, d, C', T', rfl, hr, ⟨hs, h.g.other hl hp hc hs.bl fun q hq => ⟨fun hD => h.dj q (.inl hq) (.inl hD), fun hU => h.dj q (.inl hq) (.inr hU)⟩, fun q hq hn => ?_⟩, hc, hC⟩
 have h1 : q < w.heap.size := hn.elim (h.g.sto.cw q) (h.g.sto.tw q)
 rcases hq with hq | hq
 ·rcases hC q hq with h2 | h2
  ·exact h.dj q (.inl h2) hn
  ·omega
 ·rcases hT q hq with h2 | h2
  ·exact h.dj q (.inr h2) hn
  ·omega
theorem At2.act_no {st' : Sto} {cd : Int} (hd : doS st a = (noR cd, st')) (h : At2 w0 w sb C T st gb D U sg) (hl : LibW w0) (hp : PolW w0) (ha : rAcn.rel w I as' a) (hI : ∀ q, I q -> q < w.heap.size /\ ¬ C q) :
  Calls Tryz.prog 11 #[.pointer (some ⟨sb, 0, none⟩), .agg as'.toArray] w fun e w' => ∃ A c B d C' T', e = .returned (.agg #[.int .i64 cd, .int .i64 0, .string ⟨#[]⟩, .slice A 0 c, .slice B 0 d]) /\
   rRep.rel w' (fun q => w.heap.size <= q /\ ¬ C' q /\ q < w'.heap.size) [.int .i64 cd, .int .i64 0, .string ⟨#[]⟩, .slice A 0 c, .slice B 0 d] (noR cd) /\ At2 w0 w' sb C' T' st' gb D U sg := by
 refine (h.act hd hl hp ha hI).mono ?_
 rintro e w' ⟨A, c, B, d, C', T', rfl, hr, hs, _⟩
 exact ⟨A, c, B, d, C', T', rfl, hr, hs⟩
end
theorem X0k (w : World) (cd : Int) (h : InI cd) : rRep.rel w (fun _ => False) [.int .i64 cd, .int .i64 0, .string ⟨#[]⟩, .slice none 0 0, .slice none 0 0] (noR cd) :=
 ⟨_, _, rfl, h, (⟨by decide, by decide⟩ : InI 0), by simp [noR], Z1e _ _, Z1e _ _⟩
theorem Y28 (v0 v1 v2 v3 v4 : Value) (w : World) : (Instr.field 30 (.agg #[v0, v1, v2, v3, v4]) 0).run Tryz.prog w = .ok v0 w := by kernel_rfl
theorem Y6k (v0 v1 v2 v3 v4 v5 v6 : Value) (w : World) : (Instr.field 41 (.agg #[v0, v1, v2, v3, v4, v5, v6]) 0).run Tryz.prog w = .ok v0 w := by kernel_rfl
theorem Y78 {st : Sto} (a : Acn) (h : ¬ 200 <= st.acts) : (doS st a).2.acts = st.acts + 1 := by
 have hp : ∀ (k : Nat) (x : Ses), (st.up.put k x).acts = st.acts + 1 := fun _ _ => rfl
 unfold doS
 rw [if_neg h]
 split
 ·rfl
 split
 ·unfold Z4z
  split
  ·rfl
  ·split
   ·exact hp _ _
   ·rfl
 split
 ·rfl
 split
 ·rfl
 unfold Z87
 split
 ·exact hp _ _
 split
 ·exact hp _ _
 split
 ·exact hp _ _
 split
 ·exact hp _ _
 split
 ·unfold Z1t
  split
  ·exact hp _ _
  ·split
   ·exact hp _ _
   ·split
    ·exact hp _ _
    ·split
     ·exact hp _ _
     ·rfl
 ·exact hp _ _
theorem Z5t (l : List Acn) : ∀ (n : Nat), n <= l.length -> n <= 200 -> (Z40 l n).acts = n
 | 0, _, _ => by simp [Z40, sto0]
 | n + 1, h, h2 => by
  have ih := Z5t l n (by omega) (by omega)
  rw [Z8s (List.getElem?_eq_getElem (show n < l.length by omega)), Y78 _ (by omega), ih]
theorem Z9x (l : List Acn) : (Y3g l).acts = min l.length 50 := by
 by_cases h : l.length <= 50
 ·rw [<- Z9y (Nat.le_refl _) h, Z5t l _ (Nat.le_refl _) (by omega)]
  omega
 ·unfold Y3g
  rw [Z5t l 50 (by omega) (by omega)]
  omega
def Sto.done (st : Sto) (k : Nat) : Sto := { st with acts := k }
theorem Y11 (st : Sto) {k : Nat} (h : k < 200) : doS (st.done k) ⟨0, 0, [], [], []⟩ = (noR 10, st.done (k + 1)) := by
 unfold doS
 rw [if_neg (by show ¬ 200 <= k; omega), if_pos (.inl (by decide))]
 rfl
theorem Y6h (st : Sto) (a : Acn) : doS (st.done 200) a = (noR 11, st.done 200) := by
 unfold doS
 rw [if_pos (by show 200 <= 200; decide)]
end Go.Proofs.YtlopccnehgolnacGreatDoor
namespace Go.Proofs.YtlopccnehgolnacGreatDoor
open Go.RowKit Rb
open Go.Lib renaming hid -> hI
open Go.World renaming block_lt_of_cell? -> bC, cell?_alloc_new -> jC
open Nat renaming lt_of_lt_of_le -> jA
open Rd renaming below -> jB
set_option maxRecDepth 100000
set_option maxHeartbeats 6400000
theorem Z6k {w : World} {S : Nat -> Prop} {ys : List Value} {x : Ses} (h : rSes.rel w S ys x) : ∃ D dc B bc G gc R rc, ys = [.bool x.opn, .bool x.strict, .int .i64 x.frm, .slice D x.mine.doms.length dc, .slice B x.mine.tabs.length bc, .slice G x.gone.length gc, .slice R x.read.length rc] /\ InI x.frm /\
  rBk.rel w S [.slice D x.mine.doms.length dc, .slice B x.mine.tabs.length bc] x.mine /\ (rSl rStr).rel w S [.slice G x.gone.length gc] x.gone /\ (rSl rStr).rel w S [.slice R x.read.length rc] x.read := by
 obtain ⟨v, u, g, r, rfl, h0, h1, h2, h3, h4⟩ := h
 obtain ⟨D, dc, rfl, _⟩ := rSl.elems h1
 obtain ⟨B, bc, rfl, _⟩ := rSl.elems h2
 obtain ⟨G, gc, rfl, _⟩ := rSl.elems h3
 obtain ⟨R, rc, rfl, _⟩ := rSl.elems h4
 exact ⟨D, dc, B, bc, G, gc, R, rc, rfl, h0, ⟨_, _, rfl, h1, h2⟩, h3, h4⟩
theorem box7 (w : World) (v0 v1 v2 v3 v4 v5 v6 u0 u1 u2 u3 u4 u5 u6 : Value) : ∃ W, (w.alloc (.cells #[v0, v1, v2, v3, v4, v5, v6] 41)).alloc (.cells #[u0, u1, u2, u3, u4, u5, u6] 41) = W /\ Hid (Below w.heap.size w W) /\
  W.cell? ⟨w.heap.size, 0, none⟩ = some v0 /\ W.cell? ⟨w.heap.size, 1, none⟩ = some v1 /\ W.cell? ⟨w.heap.size, 2, none⟩ = some v2 /\ W.cell? ⟨w.heap.size, 3, none⟩ = some v3 /\ W.cell? ⟨w.heap.size, 4, none⟩ = some v4 /\ W.cell? ⟨w.heap.size, 5, none⟩ = some v5 /\ W.cell? ⟨w.heap.size, 6, none⟩ = some v6 /\
  W.cell? ⟨w.heap.size + 1, 0, none⟩ = some u0 /\ W.cell? ⟨w.heap.size + 1, 1, none⟩ = some u1 /\ W.cell? ⟨w.heap.size + 1, 2, none⟩ = some u2 /\ W.cell? ⟨w.heap.size + 1, 3, none⟩ = some u3 /\ W.cell? ⟨w.heap.size + 1, 4, none⟩ = some u4 /\ W.cell? ⟨w.heap.size + 1, 5, none⟩ = some u5 /\ W.cell? ⟨w.heap.size + 1, 6, none⟩ = some u6 := by
 have z1 : (w.alloc (.cells #[v0, v1, v2, v3, v4, v5, v6] 41)).heap.size = w.heap.size + 1 := by simp
 refine ⟨_, rfl, hI (((Below.refl _ _).alloc (Nat.le_refl _) _).alloc (by simp) _), ?_, ?_, ?_, ?_, ?_, ?_, ?_, ?_, ?_, ?_, ?_, ?_, ?_, ?_⟩
 all_goals first
  | exact (World.cell?_alloc_lt _ _ _ (by simp)).trans (jC _ _ _ _)
  | (rw [<- z1]; exact jC _ _ _ _)
theorem Z64 {C T D U : Nat -> Prop} {sb gb : Nat} {st st2 : Sto} (w : World) (h : StoAt w sb C T st) (h2 : StoAt w gb D U st2) (hs : st2.states = st.states) (hx : ∀ k, k < 4 -> st2.ses k = st.ses k) (hw : LibW w) (hp : PolW w) :
  Calls Tryz.prog 25 #[.pointer (some ⟨sb, 0, none⟩), .pointer (some ⟨gb, 0, none⟩)] w fun e w' => e = .returned (.bool true) /\ Below w.heap.size w w' := by
 have HH := hI h
 have HH2 := hI h2
 have HX := hI hx
 have HS1 := hI (Z6q w h)
 have HS2 : Hid (∀ w1, Below w.heap.size w w1 -> _) := hI fun w1 (hb : Below w.heap.size w w1) => Z6q w1 (h2.below hb)
 rw [hs] at HS2
 have HW := hI fun w' (hb : Below w.heap.size w w') => hw.below hb
 have HP := hI fun w' (hb : Below w.heap.size w w') => hp.below hb
 have hn : ((st.states.length : Int) != (st.states.length : Int)) = false := by simp
 clear h h2 hs hx hw hp
 go_enter Tryz.func25, Tryz.ntmps25
 go_upto_region 5 with (first
  | (go_at_call 12; ((with_reducible refine HS1.out.mono ?_); rintro e w1 ⟨u1, rfl, ho1, hb1⟩; obtain ⟨A1, c1, e1, _, _, hby1, hE1⟩ := rSl.elems (ho1.rel (by decide)); subst e1; have HB1 := hI hb1; have hln : st.states.length <= 2932031007402 := (by simp only [rBk] at hby1; omega); clear ho1 hb1 hby1; have HE1 := hI hE1; clear hE1))
  | (go_at_call 12; ((with_reducible refine (HS2.out w1 HB1.out).mono ?_); rintro e w2 ⟨u2, rfl, ho2, hb2⟩; obtain ⟨A2, c2, e2, _, _, _, hE2⟩ := rSl.elems (ho2.rel (by decide)); subst e2; have HB2 := hI (HB1.out.trans (hb2.mono HB1.out.size)); have HE2 := hI hE2; have HE1b := hI (HE1.out.keep (.of_below hb2)); clear ho2 hb2 hE2)))
 go_loopw [22] (fun i wr => ∃ k : Nat, k <= st.states.length /\ i = .int .i64 k /\ Hid (Below w2.heap.size w2 wr)) (fun i _ => st.states.length - (intOf i).toNat)
 case atStart => exact ⟨0, Nat.zero_le _, rfl, hI (Below.refl _ _)⟩
 case round =>
  obtain ⟨k, hk, rfl, HB⟩ := hrel
  have HBW := hI (HB2.out.trans (HB.out.mono HB2.out.size))
  by_cases hlt : k < st.states.length
  ·obtain ⟨b1, o1, y, D1, d1, F1, f1, rfl, hb1, hx, hr, g0, g1⟩ := HE1b.out.bk hlt
   obtain ⟨b2, o2, y', D2, d2, F2, f2, rfl, hb2, hx', hr', h0, h1⟩ := HE2.out.bk hlt
   obtain rfl : y = y' := by rw [hx] at hx'; exact Option.some.inj hx'
   rw [<- HB.out.cell (p := ⟨b1, _, none⟩) hb1] at g0 g1
   rw [<- HB.out.cell (p := ⟨b2, _, none⟩) hb2] at h0 h1
   have hb1' : b1 < wr.heap.size := jA hb1 HB.out.size
   have hb2' : b2 < wr.heap.size := jA hb2 HB.out.size
   have hik : (k : Int) < (st.states.length : Int) := by omega
   have HC := hI fun w' (hb : Below wr.heap.size wr w') => Z8y y w' (jB hr (HB.out.trans (hb.mono HB.out.size))) (jB hr' (HB.out.trans (hb.mono HB.out.size))) (HW.out _ (HBW.out.trans (hb.mono HBW.out.size))) (HP.out _ (HBW.out.trans (hb.mono HBW.out.size)))
   clear hx hx' hr hr' hb1 hb2
   go_wp2
   refine wp_region_quiet_below (by kernel_rfl) (by kernel_rfl) ?_
   repeat (go_big_quiet_step (with_reducible exact Calls.inBelow HC.out _ _))
   refine wpQuiet_nil ?_
   intro _ hw'
   obtain ⟨⟨dq, osq⟩, hw''⟩ := hw'
   subst hw''
   go_wp2
   go_roundw
   case rel => exact ⟨k + 1, by omega, by go_num, hI (HB.out.trans ((below_regrown _ _ _).mono HB.out.size))⟩
   case measure => simp [intOf]; omega
  ·have hik : ¬ (k : Int) < (st.states.length : Int) := by omega
   go_wp2
   go_loopw [36] (fun i wr => ∃ k : Nat, k <= 4 /\ i = .int .i64 k /\ Hid (Below w.heap.size w wr)) (fun i _ => 4 - (intOf i).toNat)
   case atStart => exact ⟨0, Nat.zero_le _, rfl, HBW⟩
   case round =>
    clear HB HBW
    obtain ⟨m, hm, rfl, HB⟩ := hrel
    by_cases hlt2 : m < 4
    ·have hik2 : (m : Int) < 4 := by omega
     have hm0 : ¬ ((m : Int) < 0) := by omega
     obtain ⟨x, hxe⟩ : ∃ x, st.ses m = x := ⟨_, rfl⟩
     have HSA : Hid (SesAt wr sb (1 + m * 7) T x) := hI (by rw [<- hxe]; exact (HH.out.below HB.out).ses m hlt2)
     have HSB : Hid (SesAt wr gb (1 + m * 7) U x) := hI (by rw [<- hxe, <- HX.out m hlt2]; exact (HH2.out.below HB.out).ses m hlt2)
     have HC1 : Hid (Calls Tryz.prog 14 #[.pointer (some ⟨sb, 0, none⟩), .int .i64 m] wr fun e w' => ∃ ys, e = .returned (.agg ys.toArray) /\ rSes.rel w' (fun q => wr.heap.size <= q) ys x /\ Below wr.heap.size wr w') := hI (by
      obtain ⟨xs, hr, hc⟩ := HSA.out
      exact Z33 wr hlt2 hr hc (HH.out.below HB.out).tw)
     have HC2 : Hid (∀ w4, Below wr.heap.size wr w4 -> Calls Tryz.prog 14 #[.pointer (some ⟨gb, 0, none⟩), .int .i64 m] w4 fun e w' => ∃ ys, e = .returned (.agg ys.toArray) /\ rSes.rel w' (fun q => w4.heap.size <= q) ys x /\ Below w4.heap.size w4 w') := hI (fun w4 hb => by
      obtain ⟨xs, hr, hc⟩ := HSB.out.below hb
      exact Z33 w4 hlt2 hr hc ((HH2.out.below HB.out).below hb).tw)
     have t0 : (x.opn != x.opn) = false := by simp
     have t1 : (x.strict != x.strict) = false := by simp
     have t2 : (x.frm != x.frm) = false := by simp
     clear hxe
     go_upto_region 14 with (first
      | (go_at_call 14; ((with_reducible refine HC1.out.mono ?_); rintro e w4 ⟨ys, rfl, hr4, hb4⟩; obtain ⟨D1, d1, F1, f1, G1, g1, R1, r1, rfl, _, q1, q2, q3⟩ := Z6k hr4; have HB4 := hI hb4; have HM1 := hI q1; have HG1 := hI q2; have HR1 := hI q3; clear hr4 hb4 q1 q2 q3))
      | (go_at_call 14; ((with_reducible refine (HC2.out w4 HB4.out).mono ?_); rintro e w5 ⟨zs, rfl, hr5, hb5⟩; obtain ⟨D2, d2, F2, f2, G2, g2, R2, r2, rfl, _, q1, q2, q3⟩ := Z6k hr5; have HB5 := hI hb5; have HM2 := hI q1; have HG2 := hI q2; have HR2 := hI q3; clear hr5 hb5 q1 q2 q3; obtain ⟨X, eX, HBX, a0, a1, a2, a3, a4, a5, a6, b0, b1, b2, b3, b4, b5, b6⟩ := box7 w5 (.bool x.opn) (.bool x.strict) (.int .i64 x.frm) (.slice D1 x.mine.doms.length d1) (.slice F1 x.mine.tabs.length f1) (.slice G1 x.gone.length g1) (.slice R1 x.read.length r1) (.bool x.opn) (.bool x.strict) (.int .i64 x.frm) (.slice D2 x.mine.doms.length d2) (.slice F2 x.mine.tabs.length f2) (.slice G2 x.gone.length g2) (.slice R2 x.read.length r2))))
     have HB45 := hI (HB5.out.trans (HBX.out.mono HB5.out.size))
     have HBr := hI (HB4.out.trans (HB45.out.mono HB4.out.size))
     have HBw := hI (HB.out.trans (HBr.out.mono HB.out.size))
     have HCM := hI (Z8y x.mine X (jB HM1.out HB45.out) (jB HM2.out HBX.out) (HW.out X HBw.out) (HP.out X HBw.out))
     have HCG := hI fun w' (hb : Below X.heap.size X w') => Z7g x.gone w' (jB HG1.out (HB45.out.trans (hb.mono HB45.out.size))) (jB HG2.out (HBX.out.trans (hb.mono HBX.out.size)))
     have HCR := hI fun w' (hb : Below X.heap.size X w') => Z7g x.read w' (jB HR1.out (HB45.out.trans (hb.mono HB45.out.size))) (jB HR2.out (HBX.out.trans (hb.mono HBX.out.size)))
     have HOLD : Hid (∀ w', Below X.heap.size X w' -> w'.cell? ⟨w5.heap.size, 5, none⟩ = some (.slice G1 x.gone.length g1) /\ w'.cell? ⟨w5.heap.size + 1, 5, none⟩ = some (.slice G2 x.gone.length g2) /\ w'.cell? ⟨w5.heap.size, 6, none⟩ = some (.slice R1 x.read.length r1) /\ w'.cell? ⟨w5.heap.size + 1, 6, none⟩ = some (.slice R2 x.read.length r2)) := hI fun w' hb =>
      ⟨(hb.cell (p := ⟨w5.heap.size, 5, none⟩) (bC _ _ a5)).trans a5, (hb.cell (p := ⟨w5.heap.size + 1, 5, none⟩) (bC _ _ b5)).trans b5, (hb.cell (p := ⟨w5.heap.size, 6, none⟩) (bC _ _ a6)).trans a6, (hb.cell (p := ⟨w5.heap.size + 1, 6, none⟩) (bC _ _ b6)).trans b6⟩
     go_wp2_with (first
      | (go_at_call 22; (with_reducible refine HCM.out.mono ?_); rintro e w6 ⟨rfl, hb6⟩; have HB6 := hI hb6; obtain ⟨k5, l5, k6, l6⟩ := HOLD.out w6 hb6; clear hb6)
      | (go_at_call 53; ((with_reducible refine (HCG.out w6 HB6.out).mono ?_); rintro e w7 ⟨rfl, hb7⟩; have HB7 := hI (HB6.out.trans (hb7.mono HB6.out.size)); obtain ⟨m5, n5, m6, n6⟩ := HOLD.out w7 HB7.out; clear hb7))
      | (go_at_call 53; ((with_reducible refine (HCR.out w7 HB7.out).mono ?_); rintro e w8 ⟨rfl, hb8⟩; have HB8 := hI (HB7.out.trans (hb8.mono HB7.out.size)); clear hb8)))
     go_roundw
     case rel => exact ⟨m + 1, by omega, by go_num, hI (HBw.out.trans (HB8.out.mono HBw.out.size))⟩
     case measure => simp [intOf]; omega
    ·have hik2 : ¬ (m : Int) < 4 := by omega
     go_wp2
     go_ret
     exact ⟨rfl, HB.out⟩
