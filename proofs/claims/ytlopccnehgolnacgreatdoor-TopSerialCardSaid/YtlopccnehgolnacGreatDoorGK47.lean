import Derived.Test.YtlopccnehgolnacGreatDoorGK45
import Derived.Test.YtlopccnehgolnacGreatDoorGK38
import Derived.Test.YtlopccnehgolnacGreatDoorGK30
namespace Go.Proofs.YtlopccnehgolnacGreatDoor
open Go.RowKit Rb
open List renaming filter_congr -> jA, find?_append -> jB, find?_some -> jC, getElem?_eq_getElem -> jD
open Go.Op renaming bytesLess -> jE
set_option maxRecDepth 100000
set_option maxHeartbeats 3200000
def Z0x (l : List Acn) (n : Nat) : Sto := (l.take n).foldl (fun s a => (doS s a).2) sto0
def X1m (l : List Acn) : Sto := Z0x l 50
theorem Z3r {l : List Acn} {n : Nat} {a : Acn} (h : l[n]? = some a) : Z0x l (n + 1) = (doS (Z0x l n) a).2 := by
 unfold Z0x
 rw [Z0c h, L1e]
 rfl
theorem Y08 {l : List Acn} {n : Nat} (h : l.length <= n) (h50 : n <= 50) : Z0x l n = X1m l := by
 unfold X1m Z0x
 rw [L0l h, L0l (by omega)]
theorem Elems.acn {w : World} {S : Nat -> Prop} {A : Option Addr} {l : List Acn} (h : Elems rAcn w S A l) {i : Nat} (hi : i < l.length) : ∃ b off a I c, A = some (zn b off) /\ S b /\ b < w.heap.size /\ l[i]? = some a /\ rAcn.rel w S [.int .i64 a.kind, .int .i64 a.n, sq a.name, sq a.text, .slice I a.inp.length c] a /\
  w.cell? (zn b (off + i * 5)) = some (.int .i64 a.kind) /\ w.cell? (zn b (off + i * 5 + 1)) = some (.int .i64 a.n) /\ w.cell? (zn b (off + i * 5 + 2)) = some (sq a.name) /\ w.cell? (zn b (off + i * 5 + 3)) = some (sq a.text) /\ w.cell? (zn b (off + i * 5 + 4)) = some (.slice I a.inp.length c) := by
 obtain ⟨b, off, es, hA, hS, hb, hr, hc⟩ := h i l[i] (L0f hi)
 have hr' := hr
 obtain ⟨u, rfl, _, _, _, _, hin⟩ := hr
 obtain ⟨I, c, rfl, _⟩ := rSl.elems hin
 exact ⟨b, off, l[i], I, c, hA, hS, hb, L0f hi, hr', hc 0 _ rfl, hc 1 _ rfl, hc 2 _ rfl, hc 3 _ rfl, hc 4 _ rfl⟩
theorem X2c {w v W : World} {q o : Nat} {u0 u1 u2 u3 u4 : Value} (h : v.heap[q]? = w.heap[q]?) (hq : q < v.heap.size) (hb : Bw v W) (g0 : w.cell? (zn q o) = some u0) (g1 : w.cell? (zn q (o + 1)) = some u1) (g2 : w.cell? (zn q (o + 2)) = some u2) (g3 : w.cell? (zn q (o + 3)) = some u3) (g4 : w.cell? (zn q (o + 4)) = some u4) :
  W.cell? (zn q o) = some u0 /\ W.cell? (zn q (o + 1)) = some u1 /\ W.cell? (zn q (o + 2)) = some u2 /\ W.cell? (zn q (o + 3)) = some u3 /\ W.cell? (zn q (o + 4)) = some u4 := by
 have k : ∀ j, W.cell? (zn q j) = w.cell? (zn q j) := fun j => (hb.ce j hq).trans (L1d (a := (zn q j)) h)
 exact ⟨(k _).trans g0, (k _).trans g1, (k _).trans g2, (k _).trans g3, (k _).trans g4⟩
theorem X0v (w : World) (v0 v1 v2 v3 v4 : Value) : ∃ W, w.alloc (.cells #[v0, v1, v2, v3, v4] 30) = W /\ Hid (Bw w W) /\ W.cell? (zn w.heap.size 0) = some v0 /\ W.cell? (zn w.heap.size 1) = some v1 /\ W.cell? (zn w.heap.size 2) = some v2 /\ W.cell? (zn w.heap.size 3) = some v3 /\ W.cell? (zn w.heap.size 4) = some v4 /\ Hid (W.heap.size = w.heap.size + 1) :=
 ⟨_, rfl, L0 bA, L0b _ _ _ _, L0b _ _ _ _, L0b _ _ _ _, L0b _ _ _ _, L0b _ _ _ _, L0 (by simp)⟩
theorem Y7i (x : Value) (as' rs : List Value) (ha : as'.length = 5) (hr : rs.length = 5) (w : World) : Calls Tryz.prog 43 #[x, .agg as'.toArray, .agg rs.toArray] w fun e w' => e = .returned (.bool true) /\ Bw w w' := by
 obtain ⟨a0, a1, a2, a3, a4, rfl⟩ : ∃ a0 a1 a2 a3 a4, as' = [a0, a1, a2, a3, a4] := by
  match as', ha with
  | [a0, a1, a2, a3, a4], _ => exact ⟨a0, a1, a2, a3, a4, rfl⟩
 obtain ⟨r0, r1, r2, r3, r4, rfl⟩ : ∃ r0 r1 r2 r3 r4, rs = [r0, r1, r2, r3, r4] := by
  match rs, hr with
  | [a0, a1, a2, a3, a4], _ => exact ⟨a0, a1, a2, a3, a4, rfl⟩
 obtain ⟨W1, e1, HB⟩ : ∃ W1, (w.alloc (.cells #[a0, a1, a2, a3, a4] 24)).alloc (.cells #[r0, r1, r2, r3, r4] 30) = W1 /\ Hid (Bw w W1) := ⟨_, rfl, L0 (bA.alloc (by simp) _)⟩
 clear ha hr
 go_enter Tryz.func43, Tryz.ntmps43
 go_wp2
 go_ret
 exact ⟨rfl, HB.o⟩
theorem X31 {S : Nat -> Prop} {lv : Value} {l : List Acn} (w : World) (hl : (rSl rAcn).rel w S [lv] l) (hS : ∀ q, S q -> q < w.heap.size) (hw : LibW w) (hp : PolW w) :
  Calls Tryz.prog 20 #[lv, .func (.func 24) #[] #[]] w fun e w' => ∃ sb C T, e = .returned (.tuple #[.pointer (some (zn sb 0)), .bool true]) /\ At w w' sb C T (X1m l) := by
 obtain ⟨A, c, rfl, _, _, hby, hE⟩ := rSl.elems hl
 have hln : l.length <= 1954687338432 := by simp only [rAcn] at hby; omega
 have HE := L0 hE
 have HS := L0 hS
 have HAL := L0 (Y2y w hw hp)
 have HNW := L0 fun w1 (hb : Bw w w1) => At.new w1 (hw.below hb) (hp.below hb)
 clear hl hE hS hby hw hp
 go_enter Tryz.func20, Tryz.ntmps20
 go_upto_region 5 with (first
  | (go_at_call 52; (with_reducible refine HAL.o.mono ?_); rintro e w1 ⟨rfl, hb1⟩; have HB1 := L0 hb1; clear hb1)
  | (go_at_call 26; (with_reducible refine (HNW.o w1 HB1.o).mono ?_); rintro e w2 ⟨sb, C, T, rfl, hA⟩; have HA := L0 (hA.lower HB1.o); clear hA))
 go_loopw [7] (fun i wr => ∃ (k : Nat) (C T : Nat -> Prop), i = .int .i64 k /\ k <= l.length /\ k <= 50 /\ Hid (At w wr sb C T (Z0x l k))) (fun i _ => l.length - (intOf i).toNat)
 exact ⟨0, C, T, rfl, L0o _, L0o _, HA⟩
 clear HA
 obtain ⟨k, C, T, rfl, hk, hk50, HA⟩ := hrel
 by_cases hlt : k < l.length
 ·by_cases h50 : k < 50
  ·have hik : (k : Int) < l.length := by omega
   have hik5 : (k : Int) < 50 := by omega
   obtain ⟨q, off, a, I, ic, rfl, hSq, hq, hx, hr, g0, g1, g2, g3, g4⟩ := (HE.o.keep (.of_below HA.o.bl)).acn hlt
   have HR := L0 hr
   have HNC : Hid (∀ p, S p -> p < wr.heap.size /\ ¬ C p) := L0 fun p hp => ⟨L0c (HS.o p hp) HA.o.bl.size, fun hc => by have := HA.o.cn p hc; have := HS.o p hp; omega⟩
   obtain ⟨⟨r1, s1⟩, h1⟩ : ∃ z, doS (Z0x l k) a = z := ⟨_, rfl⟩
   have HH1 := L0 h1
   have HNX : Hid (Z0x l (k + 1) = s1) := L0 (by rw [Z3r hx, h1])
   have HSQ : Hid (q < wr.heap.size /\ ¬ C q) := L0 (HNC.o q hSq)
   clear hx hr h1 hSq
   go_upto_region 8 with (first
    | (go_at_call 11; (with_reducible refine L4y (HA.o.act_at HH1.o HR.o HNC.o) ?_); rintro e v2 ⟨A2, c2, B2, d2, C2, T2, rfl, _, hA2, hc2, hC2, _⟩; obtain ⟨W2, e2, HB2, x0, x1, x2, x3, x4, HS2⟩ := X0v v2 (.int .i64 r1.code) (.int .i64 r1.n) (sq r1.text) (.slice A2 r1.ans.length c2) (.slice B2 r1.at'.length d2); have HA2 := L0 (hA2.below HB2.o); obtain ⟨k0, k1, k2, k3, k4⟩ := X2c (q := q) (o := off + k * 5) (hc2.block q HSQ.o.1 HSQ.o.2) (L0c HSQ.o.1 hc2.size) HB2.o g0 g1 g2 g3 g4; clear g0 g1 g2 g3 g4 hA2 hc2 hC2))
   have HQ := L0 fun w' (hb : Bw W2 w') => Y9j (.pointer (some (zn sb 0))) [.int .i64 a.kind, .int .i64 a.n, sq a.name, sq a.text, .slice I a.inp.length ic] [.int .i64 r1.code, .int .i64 r1.n, sq r1.text, .slice A2 r1.ans.length c2, .slice B2 r1.at'.length d2] rfl rfl w'
   have hqW : q < W2.heap.size := L0d _ _ k0
   have hvW : v2.heap.size < W2.heap.size := L0d _ _ x0
   refine wp_region_quiet_below (by kernel_rfl) (by kernel_rfl) ?_
   repeat (go_big_quiet_step (with_reducible exact Calls.inBelow HQ.o _ _))
   refine wpQuiet_nil ?_
   intro _ hw'
   obtain ⟨⟨dq, osq⟩, hw''⟩ := hw'
   subst hw''
   go_wp2
   go_roundw
   exact ⟨k + 1, C2, T2, by go_num, hlt, h50, L0 (by rw [HNX.o]; exact HA2.o.below (below_regrown _ _ _))⟩
   simp [intOf]; omega
  have hik5 : ¬ (k : Int) < 50 := by omega
  have hik : (k : Int) < l.length := by omega
  obtain rfl : k = 50 := by omega
  go_wp2
  go_ret2
  exact ⟨sb, rfl, C, T, HA.o⟩
 have hik : ¬ (k : Int) < l.length := by omega
 go_wp2
 go_ret2
 exact ⟨sb, rfl, C, T, by have := HA.o; rwa [Y08 (by omega) hk50] at this⟩
theorem Y9e {S : Nat -> Prop} {lv : Value} {l : List Acn} (w : World) (hl : (rSl rAcn).rel w S [lv] l) (hS : ∀ q, S q -> q < w.heap.size) (hw : LibW w) (hp : PolW w) :
  Calls Tryz.prog 20 #[lv, .func (.func 43) #[] #[]] w fun e w' => ∃ sb C T, e = .returned (.tuple #[.pointer (some (zn sb 0)), .bool true]) /\ At w w' sb C T (X1m l) := by
 obtain ⟨A, c, rfl, _, _, hby, hE⟩ := rSl.elems hl
 have hln : l.length <= 1954687338432 := by simp only [rAcn] at hby; omega
 have HE := L0 hE
 have HS := L0 hS
 have HAL := L0 (Y2y w hw hp)
 have HNW := L0 fun w1 (hb : Bw w w1) => At.new w1 (hw.below hb) (hp.below hb)
 clear hl hE hS hby hw hp
 go_enter Tryz.func20, Tryz.ntmps20
 go_upto_region 5 with (first
  | (go_at_call 52; (with_reducible refine HAL.o.mono ?_); rintro e w1 ⟨rfl, hb1⟩; have HB1 := L0 hb1; clear hb1)
  | (go_at_call 26; (with_reducible refine (HNW.o w1 HB1.o).mono ?_); rintro e w2 ⟨sb, C, T, rfl, hA⟩; have HA := L0 (hA.lower HB1.o); clear hA))
 go_loopw [7] (fun i wr => ∃ (k : Nat) (C T : Nat -> Prop), i = .int .i64 k /\ k <= l.length /\ k <= 50 /\ Hid (At w wr sb C T (Z0x l k))) (fun i _ => l.length - (intOf i).toNat)
 exact ⟨0, C, T, rfl, L0o _, L0o _, HA⟩
 clear HA
 obtain ⟨k, C, T, rfl, hk, hk50, HA⟩ := hrel
 by_cases hlt : k < l.length
 ·by_cases h50 : k < 50
  ·have hik : (k : Int) < l.length := by omega
   have hik5 : (k : Int) < 50 := by omega
   obtain ⟨q, off, a, I, ic, rfl, hSq, hq, hx, hr, g0, g1, g2, g3, g4⟩ := (HE.o.keep (.of_below HA.o.bl)).acn hlt
   have HR := L0 hr
   have HNC : Hid (∀ p, S p -> p < wr.heap.size /\ ¬ C p) := L0 fun p hp => ⟨L0c (HS.o p hp) HA.o.bl.size, fun hc => by have := HA.o.cn p hc; have := HS.o p hp; omega⟩
   obtain ⟨⟨r1, s1⟩, h1⟩ : ∃ z, doS (Z0x l k) a = z := ⟨_, rfl⟩
   have HH1 := L0 h1
   have HNX : Hid (Z0x l (k + 1) = s1) := L0 (by rw [Z3r hx, h1])
   have HSQ : Hid (q < wr.heap.size /\ ¬ C q) := L0 (HNC.o q hSq)
   clear hx hr h1 hSq
   go_upto_region 8 with (first
    | (go_at_call 11; (with_reducible refine L4y (HA.o.act_at HH1.o HR.o HNC.o) ?_); rintro e v2 ⟨A2, c2, B2, d2, C2, T2, rfl, _, hA2, hc2, hC2, _⟩; obtain ⟨W2, e2, HB2, x0, x1, x2, x3, x4, HS2⟩ := X0v v2 (.int .i64 r1.code) (.int .i64 r1.n) (sq r1.text) (.slice A2 r1.ans.length c2) (.slice B2 r1.at'.length d2); have HA2 := L0 (hA2.below HB2.o); obtain ⟨k0, k1, k2, k3, k4⟩ := X2c (q := q) (o := off + k * 5) (hc2.block q HSQ.o.1 HSQ.o.2) (L0c HSQ.o.1 hc2.size) HB2.o g0 g1 g2 g3 g4; clear g0 g1 g2 g3 g4 hA2 hc2 hC2))
   have HQ := L0 fun w' (hb : Bw W2 w') => Y7i (.pointer (some (zn sb 0))) [.int .i64 a.kind, .int .i64 a.n, sq a.name, sq a.text, .slice I a.inp.length ic] [.int .i64 r1.code, .int .i64 r1.n, sq r1.text, .slice A2 r1.ans.length c2, .slice B2 r1.at'.length d2] rfl rfl w'
   have hqW : q < W2.heap.size := L0d _ _ k0
   have hvW : v2.heap.size < W2.heap.size := L0d _ _ x0
   refine wp_region_quiet_below (by kernel_rfl) (by kernel_rfl) ?_
   repeat (go_big_quiet_step (with_reducible exact Calls.inBelow HQ.o _ _))
   refine wpQuiet_nil ?_
   intro _ hw'
   obtain ⟨⟨dq, osq⟩, hw''⟩ := hw'
   subst hw''
   go_wp2
   go_roundw
   exact ⟨k + 1, C2, T2, by go_num, hlt, h50, L0 (by rw [HNX.o]; exact HA2.o.below (below_regrown _ _ _))⟩
   simp [intOf]; omega
  have hik5 : ¬ (k : Int) < 50 := by omega
  have hik : (k : Int) < l.length := by omega
  obtain rfl : k = 50 := by omega
  go_wp2
  go_ret2
  exact ⟨sb, rfl, C, T, HA.o⟩
 have hik : ¬ (k : Int) < l.length := by omega
 go_wp2
 go_ret2
 exact ⟨sb, rfl, C, T, by have := HA.o; rwa [Y08 (by omega) hk50] at this⟩
theorem At.grown {w0 w w' : World} {sb : Nat} {C T : Nat -> Prop} {st : Sto} {row : Option Nat} (h : At w0 w sb C T st) (hl : LibW w0) (hp : PolW w0) (hg : w.grownBy w' row) (hr : ∀ g, row = some g -> w0.heap.size <= g /\ ¬ C g /\ ¬ T g) : At w0 w' sb C T st :=
 h.other hl hp (D := fun q => row = some q) (.grown hg fun _ hg => .inl hg) (h.bl.grown hg h.bl.size fun k hk => (hr k hk).1) fun q hq => (hr q hq).2
section
variable {w0 w w' w1 w2 : World} {sb gb : Nat} {C T D U I : Nat -> Prop} {st sg : Sto} {a : Acn} {as' : List Value}
end
theorem X0z {st : Sto} (a : Acn) (h : ¬ 200 <= st.acts) : (doS st a).2.acts = st.acts + 1 := by
 have hp : ∀ (k : Nat) (x : Ses), (st.up.put k x).acts = st.acts + 1 := fun _ _ => rfl
 unfold doS
 rw [if_neg h]
 split
 ·rfl
 split
 ·unfold Z4q
  split
  ·rfl
  split
  ·exact hp _ _
  rfl
 split
 ·rfl
 split
 ·rfl
 unfold Z8m
 split
 ·exact hp _ _
 split
 ·exact hp _ _
 split
 ·exact hp _ _
 split
 ·exact hp _ _
 split
 ·unfold Z1a
  split
  ·exact hp _ _
  split
  ·exact hp _ _
  split
  ·exact hp _ _
  split
  ·exact hp _ _
  rfl
 exact hp _ _
theorem Z6s (l : List Acn) : ∀ (n : Nat), n <= l.length -> n <= 200 -> (Z0x l n).acts = n
 | 0, _, _ => by simp [Z0x, sto0]
 | n + 1, h, h2 => by
  have ih := Z6s l n (by omega) (by omega)
  rw [Z3r (L0f (show n < l.length by omega)), X0z _ (by omega), ih]
theorem X3d : ElemOf Tryz.prog rRep 46 30 := .mk' Tryz.underlying46 (z := .agg #[.int .i64 0, .int .i64 0, .string ⟨#[]⟩, nl, nl]) (k := 5) (b := 80) (by kernel_rfl) rfl rfl rfl (by decide) (by decide)
theorem X3c : ElemOf Tryz.prog rAcn 44 24 := .mk' Tryz.underlying44 (z := .agg #[.int .i64 0, .int .i64 0, .string ⟨#[]⟩, .string ⟨#[]⟩, nl]) (k := 5) (b := 72) (by kernel_rfl) rfl rfl rfl (by decide) (by decide)
theorem OwnS.keeps {α : Type} {R : Rd α} {e : TypeId} {w w' : World} {base : Nat} {S : Nat -> Prop} {v : Value} {xs : List α} (h : OwnS R e w base S v xs) (hk : Keeps (fun b => S b \/ v.ownBlock = some b) w w') : OwnS R e w' base S v xs := by
 obtain ⟨cells, k1, k2, k3, k4⟩ := h
 refine ⟨cells, ⟨k1.1, ?_⟩, k2, k3, fun i y hy => R.keep (k4 i y hy) fun b hb hl => hk b (.inl hb) hl⟩
 rcases k1.2 with h0 | ⟨g, cap, cur, hv, hb, hh, hrest⟩
 ·exact .inl h0
 exact .inr ⟨g, cap, cur, hv, hb, (hk g (.inr (by rw [hv]; rfl)) (L1v.1 hh).1).trans hh, hrest⟩
section
variable {w0 w w' : World} {C T C' T' : Nat -> Prop} {u u' : Value} {xs : List Rep} {x : Rep}
end
theorem Elems.rep {w : World} {S : Nat -> Prop} {A : Option Addr} {l : List Rep} (h : Elems rRep w S A l) {i : Nat} (hi : i < l.length) : ∃ b off r I c J d, A = some (zn b off) /\ b < w.heap.size /\ l[i]? = some r /\ rRep.rel w S [.int .i64 r.code, .int .i64 r.n, sq r.text, .slice I r.ans.length c, .slice J r.at'.length d] r /\
  w.cell? (zn b (off + i * 5)) = some (.int .i64 r.code) /\ w.cell? (zn b (off + i * 5 + 1)) = some (.int .i64 r.n) /\ w.cell? (zn b (off + i * 5 + 2)) = some (sq r.text) /\ w.cell? (zn b (off + i * 5 + 3)) = some (.slice I r.ans.length c) /\ w.cell? (zn b (off + i * 5 + 4)) = some (.slice J r.at'.length d) := by
 obtain ⟨b, off, es, hA, hS, hb, hr, hc⟩ := h i l[i] (L0f hi)
 obtain ⟨I, c, J, d, rfl⟩ := Z5v hr
 exact ⟨b, off, l[i], I, c, J, d, hA, hb, L0f hi, hr, hc 0 _ rfl, hc 1 _ rfl, hc 2 _ rfl, hc 3 _ rfl, hc 4 _ rfl⟩
theorem Z1d {α : Type} {f : α -> Txt} (s t : Txt) : ∀ (l : List α), (l.filter fun d => !(f d == t)).find? (fun d => f d == s) = if s = t then none else l.find? (fun d => f d == s)
 | [] => by simp
 | a :: l => by
  have ih := Z1d (f := f) s t l
  by_cases h1 : f a = t
  ·rw [List.filter_cons_of_neg (by simp [h1]), ih]
   by_cases h2 : s = t
   ·rw [if_pos h2, if_pos h2]
   rw [if_neg h2, if_neg h2, L3k (by simp only [beq_iff_eq]; rw [h1]; exact fun e => h2 e.symm)]
  rw [List.filter_cons_of_pos (by simp [h1])]
  by_cases h3 : f a = s
  ·rw [L4i (by simp [h3]), L4i (by simp [h3]), if_neg (fun e => h1 (h3.trans e))]
  rw [L3k (by simp [h3]), L3k (by simp [h3]), ih]
theorem Y3k {α : Type} {f : α -> Txt} {l l' : List α} (hp : l.Perm l') (hn : (l'.map f).Nodup) (s : Txt) : l.find? (fun d => f d == s) = l'.find? (fun d => f d == s) := by
 have hn' : (l.map f).Nodup := (hp.map f).nodup_iff.2 hn
 cases h : l'.find? (fun d => f d == s) with
 | none =>
  rw [L3m] at h ⊢
  exact fun x hx => h x (hp.mem_iff.1 hx)
 | some x =>
  have h1 := L1s h
  have h2 : f x = s := by simpa using jC h
  subst h2
  exact Z64 hn' (hp.mem_iff.2 h1)
def Z2e (b : Bk) (s : Txt) : Option Dm × Option Tb := (findD b.doms s, findT b.tabs s)
theorem Y0b {a b : Bk} {s : Txt} (h : Z2e a s = Z2e b s) : Z0y a s = Z0y b s := by
 unfold Z2e at h
 injection h with h1 h2
 unfold Z0y
 rw [h1, h2]
theorem Y3z (b : Bk) (s t : Txt) : Z2e (Z0r b t) s = if s = t then (none, none) else Z2e b s := by
 unfold Z2e Z0r delD delT findD findT
 simp only [Z1d (f := Dm.name), Z1d (f := Tb.name)]
 split <;> rfl
theorem Z70 {b : Bk} {nd nt : Nat} (h : Neat b nd nt) (d : Dm) (s : Txt) : Z2e (Z3y b d) s = if s = d.name then (some d, none) else Z2e b s := by
 have h1 : findD (Z3y b d).doms s = if s = d.name then some d else findD b.doms s := by
  show (Y9v (delD b.doms d.name ++ [d])).find? _ = _
  rw [Y3k (l := Y9v (delD b.doms d.name ++ [d])) (l' := delD b.doms d.name ++ [d]) (L2j _ _) (Z4n h.hd d), jB]
  unfold delD
  rw [Z1d (f := Dm.name)]
  by_cases hs : s = d.name
  ·rw [if_pos hs, if_pos hs, L4i (by simp [hs])]
   rfl
  rw [if_neg hs, if_neg hs, L3k (by simp only [beq_iff_eq]; exact fun e => hs e.symm)]
  simp [findD]
 have h2 : findT (Z3y b d).tabs s = if s = d.name then none else findT b.tabs s := Z1d (f := Tb.name) _ _ _
 unfold Z2e
 rw [h1, h2]
 split <;> rfl
theorem Z71 {b : Bk} {nd nt : Nat} (h : Neat b nd nt) (d : Tb) (s : Txt) : Z2e (Z47 b d) s = if s = d.name then (none, some d) else Z2e b s := by
 have h1 : findT (Z47 b d).tabs s = if s = d.name then some d else findT b.tabs s := by
  show (Y9w (delT b.tabs d.name ++ [d])).find? _ = _
  rw [Y3k (l := Y9w (delT b.tabs d.name ++ [d])) (l' := delT b.tabs d.name ++ [d]) (L2j _ _) (Z4n h.ht d), jB]
  unfold delT
  rw [Z1d (f := Tb.name)]
  by_cases hs : s = d.name
  ·rw [if_pos hs, if_pos hs, L4i (by simp [hs])]
   rfl
  rw [if_neg hs, if_neg hs, L3k (by simp only [beq_iff_eq]; exact fun e => hs e.symm)]
  simp [findT]
 have h2 : findD (Z47 b d).doms s = if s = d.name then none else findD b.doms s := Z1d (f := Dm.name) _ _ _
 unfold Z2e
 rw [h1, h2]
 split <;> rfl
theorem Z7c (s : Txt) : ∀ (l : List Txt) (b : Bk), Z2e (l.foldl Z0r b) s = if s ∈ l then (none, none) else Z2e b s
 | [], b => by simp
 | t :: l, b => by
  rw [L3w, Z7c s l, Y3z]
  by_cases h1 : s ∈ l
  ·rw [if_pos h1, if_pos (L1w _ h1)]
  rw [if_neg h1]
  by_cases h2 : s = t
  ·rw [if_pos h2, if_pos (by rw [h2]; exact L2d)]
  rw [if_neg h2, if_neg (by simp [h1, h2])]
theorem Z3p {nd nt : Nat} : ∀ (l : List Txt) {b : Bk}, Neat b nd nt -> Neat (l.foldl Z0r b) nd nt
 | [], _, h => h
 | t :: l, _, h => Z3p l (h.without t)
theorem Z57 {nt : Nat} : ∀ (l : List Dm) {nd : Nat} {b : Bk}, Neat b nd nt -> Neat (l.foldl Z3y b) (nd + l.length) nt
 | [], _, _, h => h
 | d :: l, nd, _, h => by
  have := Z57 l (Z2d h d)
  rw [L0r, show nd + (l.length + 1) = nd + 1 + l.length by omega]
  exact this
theorem Y02 {s : Txt} : ∀ (l : List Dm) {nd nt nd' nt' : Nat} {b b' : Bk}, Neat b nd nt -> Neat b' nd' nt' -> Z2e b s = Z2e b' s -> Z2e (l.foldl Z3y b) s = Z2e (l.foldl Z3y b') s
 | [], _, _, _, _, _, _, _, _, h => h
 | d :: l, _, _, _, _, _, _, h1, h2, h => Y02 l (Z2d h1 d) (Z2d h2 d) (by rw [Z70 h1, Z70 h2, h])
theorem Y03 {s : Txt} : ∀ (l : List Tb) {nd nt nd' nt' : Nat} {b b' : Bk}, Neat b nd nt -> Neat b' nd' nt' -> Z2e b s = Z2e b' s -> Z2e (l.foldl Z47 b) s = Z2e (l.foldl Z47 b') s
 | [], _, _, _, _, _, _, _, _, h => h
 | d :: l, _, _, _, _, _, _, h1, h2, h => Y03 l (Z2z h1 d) (Z2z h2 d) (by rw [Z71 h1, Z71 h2, h])
theorem Z7a {s : Txt} : ∀ (l : List Dm) {nd nt : Nat} {b : Bk}, Neat b nd nt -> (∀ d ∈ l, s ≠ d.name) -> Z2e (l.foldl Z3y b) s = Z2e b s
 | [], _, _, _, _, _ => rfl
 | d :: l, _, _, b, h, hs => by
  rw [L3w, Z7a l (Z2d h d) fun x hx => hs x (L1w _ hx), Z70 h, if_neg (hs d L2d)]
theorem Z7b {s : Txt} : ∀ (l : List Tb) {nd nt : Nat} {b : Bk}, Neat b nd nt -> (∀ d ∈ l, s ≠ d.name) -> Z2e (l.foldl Z47 b) s = Z2e b s
 | [], _, _, _, _, _ => rfl
 | d :: l, _, _, b, h, hs => by
  rw [L3w, Z7b l (Z2z h d) fun x hx => hs x (L1w _ hx), Z71 h, if_neg (hs d L2d)]
theorem X3j {b b' : Bk} {nd nt nd' nt' : Nat} {x : Ses} {s : Txt} (h : Neat b nd nt) (h' : Neat b' nd' nt') (hs : s ∈ x.gone) : Z2e (Z1o b x) s = Z2e (Z1o b' x) s :=
 Y03 _ (Z57 _ (Z3p _ h)) (Z57 _ (Z3p _ h')) (Y02 _ (Z3p _ h) (Z3p _ h') (by rw [Z7c, Z7c, if_pos hs, if_pos hs]))
theorem Y6c {b : Bk} {nd nt : Nat} {x : Ses} {s : Txt} (h : Neat b nd nt) (hm : ∀ n ∈ Z0n x.mine, n ∈ x.gone) (hs : s ∉ x.gone) : Z2e (Z1o b x) s = Z2e b s := by
 unfold Z1o
 rw [Z7b _ (Z57 _ (Z3p _ h)) fun d hd e => hs (hm s (by rw [e]; exact L2f _ (L1n.2 ⟨d, hd, rfl⟩))),
  Z7a _ (Z3p _ h) fun d hd e => hs (hm s (by rw [e]; exact L1x _ (L1n.2 ⟨d, hd, rfl⟩))), Z7c, if_neg hs]
theorem Z5s : ∀ (l : List Txt) (b : Bk), l.foldl Z0r b = ⟨b.doms.filter fun d => !l.contains d.name, b.tabs.filter fun d => !l.contains d.name⟩
 | [], b => by
  have e : ∀ {α : Type} (l : List α), l.filter (fun _ => true) = l := fun l => L4b.2 fun _ _ => rfl
  obtain ⟨d, t⟩ := b
  simp [e]
 | t :: l, b => by
  rw [L3w, Z5s l]
  unfold Z0r delD delT
  simp only [List.filter_filter, List.contains_cons, Bool.not_or]
  congr 1
  ·exact jA fun d _ => by rw [Bool.and_comm]
  exact jA fun d _ => by rw [Bool.and_comm]
theorem X0b (b : Bk) {x y : Ses} (hm : x.mine = y.mine) (hg : ∀ s, s ∈ x.gone ↔ s ∈ y.gone) : Z1o b x = Z1o b y := by
 have hc : ∀ s, x.gone.contains s = y.gone.contains s := fun s => by
  rw [L3t]
  simp [hg s]
 unfold Z1o
 rw [Z5s, Z5s, hm]
 simp only [hc]
theorem mem_addN {l : List Txt} {s t : Txt} : t ∈ addN l s ↔ t ∈ l \/ t = s := by
 unfold addN
 split
 ·rename_i h
  unfold hasN at h
  simp only [decide_eq_true_eq] at h
  refine ⟨.inl, fun h1 => h1.elim id fun e => ?_⟩
  rw [e, <- h.2, L4, L0f h.1]
  exact L2c h.1
 constructor
 ·intro h
  rcases L2a.1 h with h | h
  ·rcases L2a.1 h with h | h
   ·exact .inl (L4n h)
   exact .inr (by simpa using h)
  exact .inl (List.mem_of_mem_drop h)
 rintro (h | rfl)
 ·rw [<- List.take_append_drop (posN l s) l] at h
  rcases L2a.1 h with h | h
  ·exact L1x _ (L1x _ h)
  exact L2f _ h
 exact L1x _ (L2f _ (by simp))
theorem Z7e {t : Txt} : ∀ (l o : List Txt), t ∈ l.foldl addN o ↔ t ∈ o \/ t ∈ l
 | [], o => by simp
 | s :: l, o => by
  rw [L3w, Z7e l, mem_addN, L2o, or_assoc]
theorem Y87 {a b : Bk} {t : Txt} : ∀ (l o : List Txt), t ∈ o \/ (t ∈ l /\ Z0y a t ≠ Z0y b t) -> t ∈ l.foldl (Z2v a b) o
 | [], o, h => by simpa using h
 | s :: l, o, h => by
  rw [L3w]
  refine Y87 l _ ?_
  unfold Z2v
  rcases h with h | ⟨h, hn⟩
  ·split
   ·exact .inl h
   exact .inl (mem_addN.2 (.inl h))
  rcases L2o.1 h with rfl | h
  ·rw [if_neg (by simpa using hn)]
   exact .inl (mem_addN.2 (.inr rfl))
  exact .inr ⟨h, hn⟩
theorem Y4e {b : Bk} {s : Txt} (h : s ∉ Z0n b) : Z0y b s = [] := by
 have h1 : findD b.doms s = none := by
  unfold findD
  rw [L3m]
  intro d hd e
  exact h (L1x _ (L1n.2 ⟨d, hd, by simpa using e⟩))
 have h2 : findT b.tabs s = none := by
  unfold findT
  rw [L3m]
  intro d hd e
  exact h (L2f _ (L1n.2 ⟨d, hd, by simpa using e⟩))
 unfold Z0y
 rw [h1, h2]
theorem Y5d {a b : Bk} {s : Txt} (h : Z0y a s ≠ Z0y b s) : s ∈ Z3f a b := by
 refine Y87 _ _ (.inr ⟨?_, h⟩)
 by_cases h1 : s ∈ Z0n a
 ·exact L1x _ h1
 by_cases h2 : s ∈ Z0n b
 ·exact L2f _ h2
 exact absurd (by rw [Y4e h1, Y4e h2]) h
theorem Y2m {l : List Bk} {f : Nat} {s : Txt} : ∀ {n : Nat}, s ∉ Z9z l f n -> ∀ i, i <= n -> Z0y ((l[f + i]?).getD bk0) s = Z0y ((l[f]?).getD bk0) s
 | 0, _, i, hi => by
  obtain rfl : i = 0 := by omega
  rfl
 | n + 1, h, i, hi => by
  rw [Z77, Z7e, not_or] at h
  by_cases hi' : i <= n
  ·exact Y2m h.1 i hi'
  obtain rfl : i = n + 1 := by omega
  rw [<- Y2m h.1 n (L0g _)]
  by_cases he : Z0y ((l[f + n]?).getD bk0) s = Z0y ((l[f + n + 1]?).getD bk0) s
  ·exact he.symm
  exact absurd (Y5d he) h.2
theorem Y61 {st : Sto} {k : Nat} (h : (Z1a st k).1.code = 0) : ∀ s ∈ Z91 st.states (st.ses k).frm.toNat, Z7x (st.ses k) s = false := by
 unfold Z1a at h
 split at h
 ·cases h
 rename_i hf
 rw [L3m] at hf
 intro s hs
 simpa using hf s hs
theorem Y8s {d : Dm} {s : Txt} (h : Z4d d = true) (hs : Z49 d = s) : Z0d s = ⟨d, tb0, false, 0⟩ := hs ▸ Y34 h
theorem Y99 {t : Tb} {s : Txt} (h : Z0s t = true) (hs : Z2t t = s) : Z0d s = ⟨dm0, t, true, 0⟩ := hs ▸ Y5g h
theorem Y3y {b : Bk} (h : CheckOk b) (s : Txt) : (∃ d ∈ b.doms, d.name = s /\ Z0d (Z0y b s) = ⟨d, tb0, false, 0⟩) \/ (∃ t ∈ b.tabs, t.name = s /\ Z0d (Z0y b s) = ⟨dm0, t, true, 0⟩) \/ (Z0y b s = [] /\ s ∉ Z0n b) := by
 unfold Z0y
 cases h1 : findD b.doms s with
 | some d =>
  have hm := L1s h1
  obtain ⟨i, hi, hd⟩ := L1u hm
  have hg : Z4d d = true := h.domAt (i := i) (by rw [L0f hi, hd])
  exact .inl ⟨d, hm, by simpa using jC h1, Y8s hg (by simp only [Z4x]; rw [if_pos hg])⟩
 | none =>
  simp only
  cases h2 : findT b.tabs s with
  | some t =>
   have hm := L1s h2
   have hg := h.good hm
   exact .inr (.inl ⟨t, hm, by simpa using jC h2, Y99 hg (by simp only [Z8k]; rw [if_pos hg])⟩)
  | none =>
   refine .inr (.inr ⟨rfl, fun hn => ?_⟩)
   rcases L2a.1 hn with hn | hn
   ·obtain ⟨d, hd, rfl⟩ := L1n.1 hn
    rw [h.findD hd] at h1; cases h1
   obtain ⟨d, hd, rfl⟩ := L1n.1 hn
   rw [h.findT hd] at h2; cases h2
theorem Y35 : (Z0d []).e ≠ 0 := of_decide_eq_true (by kernel_rfl)
theorem Y39 {α : Type} {f : α -> Txt} {l : List α} (h : ∀ k (hk : k + 1 < l.length), jE (f l[k]) (f l[k + 1]) = true) : l.Pairwise fun x y => jE (f y) (f x) = false := by
 have key : ∀ (j i : Nat) (hij : i < j) (hj : j < l.length), jE (f (l[i]'(by omega))) (f l[j]) = true := by
  intro j
  induction j with
  | zero => intro i hi; omega
  | succ j ih =>
   intro i hij hj
   rcases L4t.1 hij with h1 | rfl
   ·exact Z2j (ih i h1 (by omega)) (h j hj)
   exact h i hj
 rw [L3l]
 intro i j hi hj hij
 cases hb : jE (f l[j]) (f l[i])
 ·rfl
 have := Z2j (key j i hij hj) hb
 rw [Z29] at this
 cases this
theorem CheckOk.domRise {b : Bk} (h : CheckOk b) : b.doms.Pairwise fun x y => jE y.name x.name = false := Y39 fun k hk => by
 have := L1t.1 h.doms (k + 1) (L2k.2 hk)
 unfold Y11 at this
 rw [L0f hk] at this
 simp only [L0t, L4u, decide_eq_true_iff] at this
 rcases this.2 with h1 | h1
 ·omega
 rw [show k + 1 - 1 = k by omega] at h1
 simpa [Y9a, jD (show k < b.doms.length by omega)] using h1
theorem CheckOk.tabRise {b : Bk} (h : CheckOk b) : b.tabs.Pairwise fun x y => jE y.name x.name = false := Y39 fun k hk => by
 have := L1t.1 h.tabs (k + 1) (L2k.2 hk)
 unfold Y0m at this
 rw [L0f hk] at this
 simp only [L0t, L4u, decide_eq_true_iff] at this
 rcases this.2 with h1 | h1
 ·omega
 rw [show k + 1 - 1 = k by omega] at h1
 simpa [Y9b, jD (show k < b.tabs.length by omega)] using h1
theorem Z8h {α : Type} {f : α -> Txt} {l : List α} (h : (l.map f).Nodup) : l.Nodup := by
 unfold List.Nodup at h ⊢
 rw [List.pairwise_map] at h
 exact h.imp fun h e => h (by rw [e])
theorem Y4b {α : Type} (f : α -> Txt) {l m : List α} (h1 : (l.map f).Nodup) (h2 : (m.map f).Nodup) (r1 : l.Pairwise fun x y => jE (f y) (f x) = false) (r2 : m.Pairwise fun x y => jE (f y) (f x) = false) (he : ∀ x, x ∈ l ↔ x ∈ m) : l = m := by
 have hp : l.Perm m := (List.perm_ext_iff_of_nodup (Z8h h1) (Z8h h2)).2 he
 rw [Z7k f hp r1 h2]
 exact (Z7k f (.refl m) r2 h2).symm
theorem Y9t {a b : Bk} (ha : CheckOk a) (hb : CheckOk b) (h : ∀ s, Z0y a s = Z0y b s) : a = b := by
 have key : ∀ {a b : Bk}, CheckOk a -> CheckOk b -> (∀ s, Z0y a s = Z0y b s) -> (∀ d ∈ a.doms, d ∈ b.doms) /\ ∀ t ∈ a.tabs, t ∈ b.tabs := by
  intro a b ha hb h
  constructor
  ·intro d hd
   have e1 : Z0d (Z0y a d.name) = ⟨d, tb0, false, 0⟩ := by
    obtain ⟨i, hi, hdi⟩ := L1u hd
    have hg : Z4d d = true := ha.domAt (i := i) (by rw [L0f hi, hdi])
    unfold Z0y
    rw [ha.findD hd]
    exact Y8s hg (by simp only [Z4x]; rw [if_pos hg])
   rw [h] at e1
   rcases Y3y hb d.name with ⟨d', hm, _, e2⟩ | ⟨t, _, _, e2⟩ | ⟨e2, _⟩
   ·rw [e1] at e2
    injection e2 with e3
    rw [e3]; exact hm
   ·rw [e1] at e2
    injection e2 with _ _ e3
    cases e3
   rw [e2] at e1
   exact absurd (by rw [e1]) Y35
  intro t ht
  have e1 : Z0d (Z0y a t.name) = ⟨dm0, t, true, 0⟩ := by
   have hg := ha.good ht
   unfold Z0y
   rw [ha.apart ht, ha.findT ht]
   exact Y99 hg (by simp only [Z8k]; rw [if_pos hg])
  rw [h] at e1
  rcases Y3y hb t.name with ⟨d', _, _, e2⟩ | ⟨t', hm, _, e2⟩ | ⟨e2, _⟩
  ·rw [e1] at e2
   injection e2 with _ _ e3
   cases e3
  ·rw [e1] at e2
   injection e2 with _ e3
   rw [e3]; exact hm
  rw [e2] at e1
  exact absurd (by rw [e1]) Y35
 obtain ⟨k1, k2⟩ := key ha hb h
 obtain ⟨k3, k4⟩ := key hb ha fun s => (h s).symm
 obtain ⟨da, ta⟩ := a
 obtain ⟨db, tb⟩ := b
 rw [show da = db from Y4b Dm.name ha.domNames hb.domNames ha.domRise hb.domRise fun x => ⟨k1 x, k3 x⟩, show ta = tb from Y4b Tb.name ha.tabNames hb.tabNames ha.tabRise hb.tabRise fun x => ⟨k2 x, k4 x⟩]
structure Did where
 acts : List Acn
 reps : List Rep
structure Rp where
 mine : Bk
 gone : List Txt
def Rp.ses (x : Rp) : Ses := ⟨true, false, 0, x.mine, x.gone, []⟩
def Z11 (x : Rp) (a : Acn) (r : Rep) : Rp :=
 if a.kind = 2 then
  if r.code ≠ 0 then x
  else if (Z0d a.text).is then ⟨Z47 x.mine (Z0d a.text).t, x.gone ++ [(Z0d a.text).t.name]⟩
  else ⟨Z3y x.mine (Z0d a.text).d, x.gone ++ [(Z0d a.text).d.name]⟩
 else if a.kind = 3 then
  if r.code = 0 then ⟨Z0r x.mine a.name, x.gone ++ [a.name]⟩ else x
 else x
def rpTo (d : Did) : Nat -> Rp
 | 0 => ⟨bk0, []⟩
 | n + 1 => match d.acts[n]?, d.reps[n]? with
  | some a, some r => Z11 (rpTo d n) a r
  | _, _ => rpTo d n
theorem Y9m {d : Did} {n : Nat} {a : Acn} {r : Rep} (ha : d.acts[n]? = some a) (hr : d.reps[n]? = some r) : rpTo d (n + 1) = Z11 (rpTo d n) a r := by
 rw [rpTo, ha, hr]
structure StepOk (b : Bk) (x : Rp) (a : Acn) (r : Rep) : Prop where
 put : a.kind = 2 -> r.code = 0 -> (Z0d a.text).e = 0
 get : a.kind = 4 -> r.code ≠ 1 -> Z0y (Z1o b x.ses) a.name = r.text
 ask : a.kind = 5 -> askB (Z1o b x.ses) a.inp = (r.ans, r.code)
structure AgainOk (b : Bk) (d : Did) : Prop where
 len : d.reps.length = d.acts.length
 le : d.acts.length <= 200
 st : ∀ (i : Nat) (a : Acn) (r : Rep), d.acts[i]? = some a -> d.reps[i]? = some r -> StepOk b (rpTo d i) a r
theorem X3l {x : Rp} {n : Nat} (h : Neat x.mine n n) (a : Acn) (r : Rep) : Neat (Z11 x a r).mine (n + 1) (n + 1) := by
 unfold Z11
 split
 ·split
  ·exact h.mono (L1m _) (L1m _)
  split
  ·exact (Z2z h _).mono (L1m _) (L0g _)
  exact (Z2d h _).mono (L0g _) (L1m _)
 split
 ·split
  ·exact (h.without _).mono (L1m _) (L1m _)
  exact h.mono (L1m _) (L1m _)
 exact h.mono (L1m _) (L1m _)
theorem Z96 (d : Did) : ∀ n, Neat (rpTo d n).mine n n
 | 0 => Neat.bk0 _ _
 | n + 1 => by
  rw [rpTo]
  split
  ·exact X3l (Z96 d n) _ _
  exact (Z96 d n).mono (L1m _) (L1m _)
theorem X3t {x : Rp} (a : Acn) (r : Rep) : (Z11 x a r).gone.length <= x.gone.length + 1 := by
 unfold Z11
 split
 ·split
  ·exact L1m _
  split <;> simp
 split
 ·split
  ·simp
  exact L1m _
 exact L1m _
theorem Z95 (d : Did) : ∀ n, (rpTo d n).gone.length <= n
 | 0 => L0g _
 | n + 1 => by
  rw [rpTo]
  split
  ·exact L0h (X3t _ _) (L4q (Z95 d n))
  exact L4m (Z95 d n)
theorem Y5e {b : Bk} {d : Dm} {n : Txt} (h : n ∈ Z0n (Z3y b d)) : n ∈ Z0n b \/ n = d.name := by
 rcases L2a.1 h with h | h
 ·obtain ⟨x, hx, rfl⟩ := L1n.1 h
  rcases L2a.1 ((L2j _ _).mem_iff.1 hx) with hx | hx
  ·exact .inl (L1x _ (L1n.2 ⟨x, (L3u.1 hx).1, rfl⟩))
  exact .inr (by rw [L3c.1 hx])
 obtain ⟨x, hx, rfl⟩ := L1n.1 h
 exact .inl (L2f _ (L1n.2 ⟨x, (L3u.1 hx).1, rfl⟩))
theorem Y5f {b : Bk} {d : Tb} {n : Txt} (h : n ∈ Z0n (Z47 b d)) : n ∈ Z0n b \/ n = d.name := by
 rcases L2a.1 h with h | h
 ·obtain ⟨x, hx, rfl⟩ := L1n.1 h
  exact .inl (L1x _ (L1n.2 ⟨x, (L3u.1 hx).1, rfl⟩))
 obtain ⟨x, hx, rfl⟩ := L1n.1 h
 rcases L2a.1 ((L2j _ _).mem_iff.1 hx) with hx | hx
 ·exact .inl (L2f _ (L1n.2 ⟨x, (L3u.1 hx).1, rfl⟩))
 exact .inr (by rw [L3c.1 hx])
theorem Y2a {b : Bk} {s n : Txt} (h : n ∈ Z0n (Z0r b s)) : n ∈ Z0n b := by
 rcases L2a.1 h with h | h
 ·obtain ⟨x, hx, rfl⟩ := L1n.1 h
  exact L1x _ (L1n.2 ⟨x, (L3u.1 hx).1, rfl⟩)
 obtain ⟨x, hx, rfl⟩ := L1n.1 h
 exact L2f _ (L1n.2 ⟨x, (L3u.1 hx).1, rfl⟩)
theorem X1s {x : Rp} (h : ∀ n ∈ Z0n x.mine, n ∈ x.gone) (a : Acn) (r : Rep) : ∀ n ∈ Z0n (Z11 x a r).mine, n ∈ (Z11 x a r).gone := by
 unfold Z11
 split
 ·split
  ·exact h
  split
  ·intro n hn
   rcases Y5f hn with hn | hn
   ·exact L1x _ (h n hn)
   exact L2f _ (by simp [hn])
  intro n hn
  rcases Y5e hn with hn | hn
  ·exact L1x _ (h n hn)
  exact L2f _ (by simp [hn])
 split
 ·split
  ·exact fun n hn => L1x _ (h n (Y2a hn))
  exact h
 exact h
theorem Z6d (d : Did) : ∀ n, ∀ s ∈ Z0n (rpTo d n).mine, s ∈ (rpTo d n).gone
 | 0 => fun s hs => by simp [rpTo, Z0n, bk0] at hs
 | n + 1 => by
  rw [rpTo]
  split
  ·exact X1s (Z6d d n) _ _
  exact Z6d d n
structure HSes (b : Bk) (m : Nat) (x : Ses) (d : Did) : Prop where
 len : d.reps.length = d.acts.length
 le : d.acts.length <= m
 mine : (rpTo d d.acts.length).mine = x.mine
 gone : ∀ s, s ∈ (rpTo d d.acts.length).gone ↔ s ∈ x.gone
 ok : ∀ (i : Nat) (a : Acn) (r : Rep), d.acts[i]? = some a -> d.reps[i]? = some r -> StepOk b (rpTo d i) a r
 read : ∀ (i : Nat) (a : Acn) (r : Rep), d.acts[i]? = some a -> d.reps[i]? = some r -> (a.kind = 4 -> r.code ≠ 1 -> a.name ∈ x.read) /\ (a.kind = 5 -> x.strict = true -> [] ∈ x.read)
def Did.add (d : Did) (a : Acn) (r : Rep) : Did := ⟨d.acts ++ [a], d.reps ++ [r]⟩
theorem Z81 {d : Did} (hl : d.reps.length = d.acts.length) (a : Acn) (r : Rep) : ∀ n, n <= d.acts.length -> rpTo (d.add a r) n = rpTo d n
 | 0, _ => rfl
 | n + 1, h => by
  rw [rpTo, rpTo, Z81 hl a r n (by omega)]
  have h1 : (d.add a r).acts[n]? = d.acts[n]? := L1l (by omega)
  have h2 : (d.add a r).reps[n]? = d.reps[n]? := L1l (by omega)
  rw [h1, h2]
theorem Y0s {α : Type} {l : List α} {x y : α} {i : Nat} (h : (l ++ [x])[i]? = some y) : (i < l.length /\ l[i]? = some y) \/ (i = l.length /\ x = y) := by
 rcases L1r i l.length with h1 | h1
 ·exact .inl ⟨h1, by rwa [L1l h1] at h⟩
 rw [L3g h1] at h
 have h2 : i - l.length < 1 := by
  have := (L0n.1 h).1
  simpa using this
 have h3 : i = l.length := by omega
 subst h3
 exact .inr ⟨rfl, by simpa using h⟩
theorem Y4a {d : Did} (hl : d.reps.length = d.acts.length) (a : Acn) (r : Rep) : rpTo (d.add a r) (d.acts.length + 1) = Z11 (rpTo d d.acts.length) a r := by
 rw [Y9m (a := a) (r := r), Z81 hl a r _ (L0g _)]
 ·simp [Did.add]
 simp [Did.add, <- hl]
theorem HSes.add {b : Bk} {m : Nat} {x x' : Ses} {d : Did} {a : Acn} {r : Rep} (h : HSes b m x d) (hm : (Z11 (rpTo d d.acts.length) a r).mine = x'.mine) (hg : ∀ s, s ∈ (Z11 (rpTo d d.acts.length) a r).gone ↔ s ∈ x'.gone)
  (ho : StepOk b (rpTo d d.acts.length) a r) (hs : x'.strict = x.strict) (hr : ∀ s ∈ x.read, s ∈ x'.read) (h4 : a.kind = 4 -> r.code ≠ 1 -> a.name ∈ x'.read) (h5 : a.kind = 5 -> x'.strict = true -> [] ∈ x'.read) : HSes b (m + 1) x' (d.add a r) := by
 have hl : (d.add a r).acts.length = d.acts.length + 1 := by simp [Did.add]
 refine ⟨by simp [Did.add, h.len], by rw [hl]; exact L4q h.le, by rw [hl, Y4a h.len]; exact hm, by rw [hl, Y4a h.len]; exact hg, fun i a' r' ha hr' => ?_, fun i a' r' ha hr' => ?_⟩
 ·rcases Y0s ha with ⟨h1, h2⟩ | ⟨h1, rfl⟩
  ·rcases Y0s hr' with ⟨_, h3⟩ | ⟨h3, _⟩
   ·rw [Z81 h.len _ _ _ (by omega)]
    exact h.ok i a' r' h2 h3
   have := h.len; omega
  rcases Y0s hr' with ⟨h3, _⟩ | ⟨_, rfl⟩
  ·have := h.len; omega
  rw [h1, Z81 h.len _ _ _ (L0g _)]
  exact ho
 rcases Y0s ha with ⟨h1, h2⟩ | ⟨h1, rfl⟩
 ·rcases Y0s hr' with ⟨_, h3⟩ | ⟨h3, _⟩
  ·have := h.read i a' r' h2 h3
   exact ⟨fun k1 k2 => hr _ (this.1 k1 k2), fun k1 k2 => hr _ (this.2 k1 (by rw [<- hs]; exact k2))⟩
  have := h.len; omega
 rcases Y0s hr' with ⟨h3, _⟩ | ⟨_, rfl⟩
 ·have := h.len; omega
 exact ⟨h4, h5⟩
theorem HSes.mono {b : Bk} {m m' : Nat} {x : Ses} {d : Did} (h : HSes b m x d) (hm : m <= m') : HSes b m' x d := ⟨h.len, L0h h.le hm, h.mine, h.gone, h.ok, h.read⟩
theorem HSes.view {b : Bk} {m : Nat} {x : Ses} {d : Did} (h : HSes b m x d) (b' : Bk) : Z1o b' (rpTo d d.acts.length).ses = Z1o b' x := X0b b' h.mine h.gone
theorem HSes.new (b : Bk) (m : Nat) (s : Bool) (f : Int) : HSes b m ⟨true, s, f, bk0, [], []⟩ ⟨[], []⟩ :=
 ⟨rfl, L0o _, rfl, fun s => by simp [rpTo], fun i a r h => by simp at h, fun i a r h => by simp at h⟩
def Y3q (st : Sto) (n : Int) : Bool := decide (0 <= n) && decide (n < 4) && (st.ses n.toNat).opn
def Z1h (st : Sto) (now : Nat -> Did) (a : Acn) : Nat -> Did :=
 if a.kind = 1 /\ (doS st a).1.code = 0 /\ 0 <= (doS st a).1.n /\ (doS st a).1.n < 4 then fun j => if j = (doS st a).1.n.toNat then ⟨[], []⟩ else now j
 else if 1 < a.kind /\ a.kind < 6 /\ Y3q st a.n = true then fun j => if j = a.n.toNat then (now j).add a (doS st a).1 else now j
 else now
def Z3k (l : List Acn) : Nat -> Nat -> Did
 | 0 => fun _ => ⟨[], []⟩
 | n + 1 => match l[n]? with
  | some a => Z1h (Z0x l n) (Z3k l n) a
  | none => Z3k l n
theorem Z74 {l : List Acn} {n : Nat} {a : Acn} (h : l[n]? = some a) : Z3k l (n + 1) = Z1h (Z0x l n) (Z3k l n) a := by
 rw [Z3k, h]
def HInv (st : Sto) (now : Nat -> Did) : Prop := ∀ k, (st.ses k).opn = true -> HSes (st.at (st.ses k).frm) st.acts (st.ses k) (now k)
theorem X26 {b : Bk} {ns : List Int} (h : (askB b ns).2 ≠ 0) : (askB b ns).1 = [] := by
 unfold askB at h ⊢
 split
 ·rfl
 rename_i h1
 rw [if_neg h1] at h
 split
 ·rfl
 rename_i h2
 rw [if_neg h2] at h
 split
 ·rfl
 rename_i h3
 first | rw [if_neg h3] at h | skip
 exact absurd rfl h
theorem HInv.start : HInv sto0 (fun _ => ⟨[], []⟩) := fun k h => by cases h
theorem isOpen_at {st : Sto} {n : Int} : Y3q st n = true ↔ ∃ k : Nat, n = k /\ k < 4 /\ (st.ses k).opn = true := by
 unfold Y3q
 simp only [L0t, decide_eq_true_eq]
 constructor
 ·rintro ⟨⟨h1, h2⟩, h3⟩
  exact ⟨n.toNat, by omega, by omega, h3⟩
 rintro ⟨k, rfl, h1, h2⟩
 exact ⟨⟨by omega, by omega⟩, h2⟩
theorem HInv.put {st : Sto} {now : Nat -> Did} {k : Nat} {x' : Ses} {a : Acn} {r : Rep} (h : HInv st now) (hf : x'.frm = (st.ses k).frm) (hx : HSes (st.at (st.ses k).frm) (st.acts + 1) x' ((now k).add a r)) :
  HInv (st.up.put k x') (fun j => if j = k then (now j).add a r else now j) := by
 intro j hj
 have e : (st.up.put k x').ses j = if j = k then x' else st.ses j := rfl
 have ha : ∀ f, (st.up.put k x').at f = st.at f := fun _ => rfl
 rw [e] at hj ⊢
 rw [ha]
 dsimp only
 by_cases hjk : j = k
 ·subst hjk
  rw [if_pos rfl, if_pos rfl, hf]
  exact hx
 rw [if_neg hjk] at hj ⊢
 rw [if_neg hjk]
 exact (h j hj).mono (L1m _)
theorem HInv.same {st st' : Sto} {now : Nat -> Did} (h : HInv st now) (hg : SGood st) (hs : ∀ j, (st'.ses j).opn = true -> st'.ses j = st.ses j) (ha : st.acts <= st'.acts) (hb : ∀ i, i < st.states.length -> st'.states[i]? = st.states[i]?) : HInv st' now := by
 intro j hj
 have e := hs j hj
 rw [e] at hj ⊢
 obtain ⟨f, h1, h2⟩ := (hg.ses j).fr hj
 have hat : st'.at (st.ses j).frm = st.at (st.ses j).frm := by
  unfold Sto.at
  rw [h1, L1q, hb f h2]
 rw [hat]
 exact (h j hj).mono ha
theorem HInv.step {st : Sto} {now : Nat -> Did} (h : HInv st now) (hg : SGood st) (h200 : ¬ 200 <= st.acts) (a : Acn) : HInv (doS st a).2 (Z1h st now a) := by
 have hup : HInv st.up now := h.same hg (fun _ _ => rfl) (L1m _) fun _ _ => rfl
 by_cases hk : a.kind < 1 \/ 7 < a.kind
 ·have e : doS st a = (noR 10, st.up) := by unfold doS; rw [if_neg h200, if_pos hk]
  unfold Z1h
  rw [e, if_neg (by omega), if_neg (by omega)]
  exact hup
 by_cases h1 : a.kind = 1
 ·have e : doS st a = Z4q st.up a.n := by unfold doS; rw [if_neg h200, if_neg hk, if_pos h1]
  unfold Z1h
  rw [e]
  unfold Z4q
  by_cases hn : a.n ≠ 0 /\ a.n ≠ 1
  ·rw [if_pos hn, if_neg (by intro h; exact absurd h.2.1 (by simp [noR])), if_neg (by omega)]
   exact hup
  rw [if_neg hn]
  cases hf : Y47 st.up with
  | none =>
   simp only
   rw [if_neg (by intro h; exact absurd h.2.1 (by simp [noR])), if_neg (by omega)]
   exact hup
  | some k =>
   simp only
   have hk4 : k < 4 := L2k.1 (L1s hf)
   rw [if_pos (by refine ⟨h1, ?_, ?_, ?_⟩ <;> first | trivial | omega)]
   intro j hj
   have ej : (st.up.put k (sesN a.n st.up.states.length)).ses j = if j = k then sesN a.n st.up.states.length else st.ses j := rfl
   have ha : ∀ f, (st.up.put k (sesN a.n st.up.states.length)).at f = st.at f := fun _ => rfl
   rw [ej] at hj ⊢
   rw [ha]
   dsimp only
   by_cases hjk : j = k
   ·rw [if_pos hjk, if_pos (by simp [hjk])]
    exact HSes.new _ _ _ _
   rw [if_neg hjk] at hj ⊢
   rw [if_neg (by simpa using hjk)]
   exact (h j hj).mono (L1m _)
 by_cases ho : Y3q st a.n = true
 ·obtain ⟨k, hnk, hk4, hop⟩ := isOpen_at.1 ho
  have hx := h k hop
  have hno : ¬ (a.n < 0 \/ 4 <= a.n \/ (st.ses a.n.toNat).opn = false) := by
   rw [hnk]
   rintro (h | h | h)
   ·omega
   ·omega
   rw [L1q, hop] at h; cases h
  have e0 : doS st a = if (a.kind = 3 \/ a.kind = 4) /\ Z1e a.name = false then (noR 1, st.up) else Z8m st.up k a := by
   unfold doS
   rw [if_neg h200, if_neg hk, if_neg h1, if_neg hno, hnk, L1q]
  have hnow : ∀ z, doS st a = z -> 1 < a.kind -> a.kind < 6 -> Z1h st now a = fun j => if j = k then (now j).add a z.1 else now j := by
   intro z hz k1 k2
   unfold Z1h
   rw [if_neg (by omega), if_pos ⟨k1, k2, ho⟩, hz, hnk, L1q]
  by_cases hf : (a.kind = 3 \/ a.kind = 4) /\ Z1e a.name = false
  ·rw [if_pos hf] at e0
   rw [hnow _ e0 (by omega) (by omega), e0]
   have := h.put (a := a) (r := noR 1) (x' := st.ses k) (k := k) rfl (hx.add (by unfold Z11; rw [if_neg (by omega)]; split <;> exact hx.mine) (by unfold Z11; rw [if_neg (by omega)]; split <;> exact hx.gone)
    ⟨fun h => by omega, fun _ h => absurd rfl h, fun h => by omega⟩ rfl (fun _ h => h) (fun _ h => absurd rfl h) (fun h => by omega))
   refine HInv.same (st := st.up.put k (st.ses k)) this ?_ (fun j _ => ?_) (L0g _) fun _ _ => rfl
   ·exact (hg.up h200).put ((hg.up h200).ses k)
   show st.ses j = if j = k then st.ses k else st.ses j
   split
   ·rename_i e; rw [e]
   rfl
  rw [if_neg hf] at e0
  have hse : st.up.ses k = st.ses k := rfl
  unfold Z8m at e0
  rw [hse] at e0
  have hat : ∀ f, st.up.at f = st.at f := fun _ => rfl
  rw [hat] at e0
  by_cases k2 : a.kind = 2
  ·rw [if_pos k2] at e0
   rw [hnow _ e0 (by omega) (by omega), e0]
   refine h.put ?_ ?_
   ·unfold putB
    split
    ·rfl
    split <;> rfl
   unfold putB
   by_cases hpe : (Z0d a.text).e ≠ 0
   ·rw [if_pos hpe]
    refine hx.add ?_ ?_ ⟨fun _ h => absurd h hpe, fun h => by omega, fun h => by omega⟩ rfl (fun _ h => h) (fun h => by omega) (fun h => by omega)
    ·unfold Z11; rw [if_pos k2, if_pos (by exact hpe)]; exact hx.mine
    unfold Z11; rw [if_pos k2, if_pos (by exact hpe)]; exact hx.gone
   rw [if_neg hpe]
   have hpe0 : (Z0d a.text).e = 0 := by simpa using hpe
   cases his : (Z0d a.text).is
   ·simp only [L4a, if_false]
    refine hx.add ?_ ?_ ⟨fun _ _ => hpe0, fun h => by omega, fun h => by omega⟩ rfl (fun _ h => h) (fun h => by omega) (fun h => by omega)
    ·unfold Z11; rw [if_pos k2, if_neg (by simp [noR]), his]; simp only [L4a, if_false]; rw [hx.mine]
    unfold Z11; rw [if_pos k2, if_neg (by simp [noR]), his]; simp only [L4a, if_false]; intro s; rw [L2a, hx.gone, L3c]; exact mem_addN.symm
   simp only [if_true]
   refine hx.add ?_ ?_ ⟨fun _ _ => hpe0, fun h => by omega, fun h => by omega⟩ rfl (fun _ h => h) (fun h => by omega) (fun h => by omega)
   ·unfold Z11; rw [if_pos k2, if_neg (by simp [noR]), his]; simp only [if_true]; rw [hx.mine]
   unfold Z11; rw [if_pos k2, if_neg (by simp [noR]), his]; simp only [if_true]; intro s; rw [L2a, hx.gone, L3c]; exact mem_addN.symm
  rw [if_neg k2] at e0
  by_cases k3 : a.kind = 3
  ·rw [if_pos k3] at e0
   rw [hnow _ e0 (by omega) (by omega), e0]
   refine h.put rfl (hx.add ?_ ?_ ⟨fun h => by omega, fun h => by omega, fun h => by omega⟩ rfl (fun _ h => h) (fun h => by omega) (fun h => by omega))
   ·unfold Z11
    rw [if_neg k2, if_pos k3]
    show Z0r (rpTo (now k) (now k).acts.length).mine a.name = Z0r (st.ses k).mine a.name
    rw [hx.mine]
   unfold Z11
   rw [if_neg k2, if_pos k3]
   intro s
   show s ∈ (rpTo (now k) (now k).acts.length).gone ++ [a.name] ↔ s ∈ addN (st.ses k).gone a.name
   rw [L2a, hx.gone, L3c]
   exact mem_addN.symm
  rw [if_neg k3] at e0
  have hrp : ∀ r, Z11 (rpTo (now k) (now k).acts.length) a r = rpTo (now k) (now k).acts.length := fun r => by
   unfold Z11; rw [if_neg k2, if_neg k3]
  by_cases k4 : a.kind = 4
  ·rw [if_pos k4] at e0
   rw [hnow _ e0 (by omega) (by omega), e0]
   refine h.put rfl (hx.add (by rw [hrp]; exact hx.mine) (by rw [hrp]; exact hx.gone) ⟨fun h => by omega, fun _ _ => ?_, fun h => by omega⟩ rfl (fun s h => mem_addN.2 (.inl h)) (fun _ _ => mem_addN.2 (.inr rfl)) (fun h => by omega))
   rw [hx.view]
   simp only
   split
   ·rename_i hs; exact hs
   rfl
  rw [if_neg k4] at e0
  by_cases k5 : a.kind = 5
  ·rw [if_pos k5] at e0
   rw [hnow _ e0 (by omega) (by omega), e0]
   refine h.put rfl (hx.add (by rw [hrp]; exact hx.mine) (by rw [hrp]; exact hx.gone) ⟨fun h => by omega, fun h => by omega, fun _ => ?_⟩ rfl (fun s hs => ?_) (fun h => by omega) (fun _ hst => ?_))
   ·rw [hx.view]
    unfold askS
    simp only
    split
    ·rename_i hc
     show _ = (([] : List An), _)
     rw [<- X26 hc]
     rfl
    rename_i hc
    have hc0 : (askB (Z1o (st.at (st.ses k).frm) (st.ses k)) a.inp).2 = 0 := by simpa using hc
    rw [<- hc0]
   ·have hr : s ∈ Z1y (Z1o (st.at (st.ses k).frm) (st.ses k)) (Z1y (st.at (st.ses k).frm) (st.ses k).read) := (Z7e _ _).2 (.inl ((Z7e _ _).2 (.inl hs)))
    show s ∈ (if (st.ses k).strict then _ else _ : List Txt)
    split
    ·exact mem_addN.2 (.inl hr)
    exact hr
   have hst' : (st.ses k).strict = true := hst
   show [] ∈ (if (st.ses k).strict then _ else _ : List Txt)
   rw [if_pos hst']
   exact mem_addN.2 (.inr rfl)
  rw [if_neg k5] at e0
  have hnow2 : Z1h st now a = now := by
   unfold Z1h
   rw [if_neg (by omega), if_neg (by omega)]
  rw [hnow2]
  have hcl : ∀ (st' : Sto), st'.states = st.states \/ (∃ b, st'.states = st.states ++ [b]) -> st'.acts = st.acts + 1 -> st'.ses = (st.up.put k ses0).ses -> HInv st' now := by
   intro st' h1 h2 h3
   refine h.same hg (fun j hj => ?_) (by omega) fun i hi => ?_
   ·rw [h3] at hj ⊢
    have ej : (st.up.put k ses0).ses j = if j = k then ses0 else st.ses j := rfl
    rw [ej] at hj ⊢
    split
    ·rename_i e; rw [if_pos e] at hj; cases hj
    rfl
   rcases h1 with h1 | ⟨b, h1⟩
   ·rw [h1]
   rw [h1, L1l hi]
  by_cases k6 : a.kind = 6
  ·rw [if_pos k6] at e0
   rw [e0]
   unfold Z1a
   split
   ·exact hcl _ (.inl rfl) rfl rfl
   split
   ·exact hcl _ (.inl rfl) rfl rfl
   split
   ·exact hcl _ (.inl rfl) rfl rfl
   split
   ·exact hcl _ (.inl rfl) rfl rfl
   exact hcl _ (.inr ⟨_, rfl⟩) rfl rfl
  rw [if_neg k6] at e0
  rw [e0]
  exact hcl _ (.inl rfl) rfl rfl
 have hno : a.n < 0 \/ 4 <= a.n \/ (st.ses a.n.toNat).opn = false := by
  by_cases h2 : a.n < 0
  ·exact .inl h2
  by_cases h3 : 4 <= a.n
  ·exact .inr (.inl h3)
  cases h4 : (st.ses a.n.toNat).opn
  ·exact .inr (.inr rfl)
  exact absurd (isOpen_at.2 ⟨a.n.toNat, by omega, by omega, h4⟩) ho
 have e : doS st a = (noR 3, st.up) := by unfold doS; rw [if_neg h200, if_neg hk, if_neg h1, if_pos hno]
 unfold Z1h
 rw [if_neg (by omega), if_neg (fun h => ho h.2.2), e]
 exact hup
section
variable {st : Sto} {now : Nat -> Did} {k : Nat} {a : Acn}
theorem Y8r (hn : a.n = k) (hk4 : k < 4) (ho : (st.ses k).opn = true) (h200 : ¬ 200 <= st.acts) (hk6 : a.kind = 6) (hc : (doS st a).1.code = 0) : (Z1a st.up k).1.code = 0 := by
 have e : doS st a = Z1a st.up k := by
  unfold doS
  rw [if_neg h200, if_neg (by omega), if_neg (by omega), if_neg (by
   rw [hn]
   rintro (h | h | h)
   ·omega
   ·omega
   rw [L1q, ho] at h; cases h), if_neg (by omega), hn, L1q]
  unfold Z8m
  rw [if_neg (by omega), if_neg (by omega), if_neg (by omega), if_neg (by omega), if_pos hk6]
 rwa [e] at hc
theorem Z9g (hg : SGood st) (ho : (st.ses k).opn = true) (hc : (Z1a st.up k).1.code = 0) {s : Txt} (hw : Z7x (st.ses k) s = true) : Z0y (st.at (st.ses k).frm) s = Z0y ((st.states[st.states.length - 1]?).getD bk0) s := by
 obtain ⟨f, h1, h2⟩ := (hg.ses k).fr ho
 have hs : s ∉ Z91 st.states f := fun hs => by
  have := Y61 hc s (by rw [show (st.up.ses k).frm.toNat = f by show (st.ses k).frm.toNat = f; omega]; exact hs)
  rw [show st.up.ses k = st.ses k from rfl, hw] at this
  cases this
 have := Y2m hs (st.states.length - 1 - f) (L0g _)
 rw [show f + (st.states.length - 1 - f) = st.states.length - 1 by omega] at this
 rw [this]
 unfold Sto.at
 rw [h1, L1q]
theorem HInv.serial (h : HInv st now) (hg : SGood st) (ho : (st.ses k).opn = true) (hs : (st.ses k).strict = true) (hc : (Z1a st.up k).1.code = 0) : AgainOk ((st.states[st.states.length - 1]?).getD bk0) (now k) := by
 have hx := h k ho
 obtain ⟨f, h1, h2⟩ := (hg.ses k).fr ho
 have hck1 : CheckOk (st.at (st.ses k).frm) := by
  unfold Sto.at
  rw [h1, L1q, L0f h2]
  exact Y4z (hg.chk _ (L2c h2))
 have hne := hg.ne
 have hck2 : CheckOk ((st.states[st.states.length - 1]?).getD bk0) := by
  rw [L0f (show st.states.length - 1 < st.states.length by omega)]
  exact Y4z (hg.chk _ (L2c _))
 have n1 : Neat (st.at (st.ses k).frm) 4 4 := ⟨hck1.domNames, hck1.tabNames, hck1.dl, hck1.tl⟩
 have n2 : Neat ((st.states[st.states.length - 1]?).getD bk0) 4 4 := ⟨hck2.domNames, hck2.tabNames, hck2.dl, hck2.tl⟩
 refine ⟨hx.len, L0h hx.le hg.ac, fun i a r ha hr => ?_⟩
 have h0 := hx.ok i a r ha hr
 refine ⟨h0.put, fun k4 hc1 => ?_, fun k5 => ?_⟩
 ·rw [<- h0.get k4 hc1]
  by_cases hm : a.name ∈ (rpTo (now k) i).gone
  ·exact Y0b (X3j n2 n1 hm)
  rw [Y0b (Y6c n2 (Z6d _ i) hm), Y0b (Y6c n1 (Z6d _ i) hm)]
  exact (Z9g hg ho hc (s := a.name) (by unfold Z7x; simp [hs, (hx.read i a r ha hr).1 k4 hc1])).symm
 have he : st.at (st.ses k).frm = (st.states[st.states.length - 1]?).getD bk0 := Y9t hck1 hck2 fun s => Z9g hg ho hc (by unfold Z7x; simp [hs, (hx.read i a r ha hr).2 k5 hs])
 rw [<- he]
 exact h0.ask k5
end
theorem Y5h (l : List Acn) (n : Nat) : SGood (Z0x l n) := by
 unfold Z0x
 generalize l.take n = m
 suffices h : ∀ (m : List Acn) (st : Sto), SGood st -> SGood (m.foldl (fun s a => (doS s a).2) st) from h m _ SGood.start
 intro m
 induction m with
 | nil => exact fun st h => h
 | cons a m ih => exact fun st h => ih _ (h.step a)
