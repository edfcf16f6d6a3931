import Derived.Test.YtlopccnehgolnabGreatDoorGK45
import Derived.Test.YtlopccnehgolnabGreatDoorGK30
namespace Go.Proofs.YtlopccnehgolnabGreatDoor
open Go.RowKit Rb
set_option maxRecDepth 100000
set_option maxHeartbeats 3200000
def Z0t (l : List Acn) (n : Nat) : Sto := (l.take n).foldl (fun s a => (doS s a).2) sto0
def Y9u (l : List Acn) : Sto := Z0t l 50
theorem Z3c {l : List Acn} {n : Nat} {a : Acn} (h : l[n]? = some a) : Z0t l (n + 1) = (doS (Z0t l n) a).2 := by
 unfold Z0t
 rw [Z0c h, L1e]
 rfl
theorem Z97 {l : List Acn} {n : Nat} (h : l.length <= n) (h50 : n <= 50) : Z0t l n = Y9u l := by
 unfold Y9u Z0t
 rw [L0l h, L0l (by omega)]
theorem Elems.acn {w : World} {S : Nat -> Prop} {A : Option Addr} {l : List Acn} (h : Elems rAcn w S A l) {i : Nat} (hi : i < l.length) : ∃ b off a I c, A = some ⟨b, off, none⟩ /\ S b /\ b < w.heap.size /\ l[i]? = some a /\ rAcn.rel w S [.int .i64 a.kind, .int .i64 a.n, .string ⟨a.name.toArray⟩, .string ⟨a.text.toArray⟩, .slice I a.inp.length c] a /\
  w.cell? ⟨b, off + i * 5, none⟩ = some (.int .i64 a.kind) /\ w.cell? ⟨b, off + i * 5 + 1, none⟩ = some (.int .i64 a.n) /\ w.cell? ⟨b, off + i * 5 + 2, none⟩ = some (.string ⟨a.name.toArray⟩) /\ w.cell? ⟨b, off + i * 5 + 3, none⟩ = some (.string ⟨a.text.toArray⟩) /\ w.cell? ⟨b, off + i * 5 + 4, none⟩ = some (.slice I a.inp.length c) := by
 obtain ⟨b, off, es, hA, hS, hb, hr, hc⟩ := h i l[i] (L0g hi)
 have hr' := hr
 obtain ⟨u, rfl, _, _, _, _, hin⟩ := hr
 obtain ⟨I, c, rfl, _⟩ := rSl.elems hin
 exact ⟨b, off, l[i], I, c, hA, hS, hb, L0g hi, hr', hc 0 _ rfl, hc 1 _ rfl, hc 2 _ rfl, hc 3 _ rfl, hc 4 _ rfl⟩
theorem X0k {w v W : World} {q o : Nat} {u0 u1 u2 u3 u4 : Value} (h : v.heap[q]? = w.heap[q]?) (hq : q < v.heap.size) (hb : Below v.heap.size v W) (g0 : w.cell? ⟨q, o, none⟩ = some u0) (g1 : w.cell? ⟨q, o + 1, none⟩ = some u1) (g2 : w.cell? ⟨q, o + 2, none⟩ = some u2) (g3 : w.cell? ⟨q, o + 3, none⟩ = some u3) (g4 : w.cell? ⟨q, o + 4, none⟩ = some u4) :
  W.cell? ⟨q, o, none⟩ = some u0 /\ W.cell? ⟨q, o + 1, none⟩ = some u1 /\ W.cell? ⟨q, o + 2, none⟩ = some u2 /\ W.cell? ⟨q, o + 3, none⟩ = some u3 /\ W.cell? ⟨q, o + 4, none⟩ = some u4 := by
 have k : ∀ j, W.cell? ⟨q, j, none⟩ = w.cell? ⟨q, j, none⟩ := fun j => (hb.ce j hq).trans (L1d (a := ⟨q, j, none⟩) h)
 exact ⟨(k _).trans g0, (k _).trans g1, (k _).trans g2, (k _).trans g3, (k _).trans g4⟩
theorem Y82 (w : World) (v0 v1 v2 v3 v4 : Value) : ∃ W, w.alloc (.cells #[v0, v1, v2, v3, v4] 80) = W /\ Hid (Below w.heap.size w W) /\ W.cell? ⟨w.heap.size, 0, none⟩ = some v0 /\ W.cell? ⟨w.heap.size, 1, none⟩ = some v1 /\ W.cell? ⟨w.heap.size, 2, none⟩ = some v2 /\ W.cell? ⟨w.heap.size, 3, none⟩ = some v3 /\ W.cell? ⟨w.heap.size, 4, none⟩ = some v4 /\ Hid (W.heap.size = w.heap.size + 1) :=
 ⟨_, rfl, L0 bA, L0b _ _ _ _, L0b _ _ _ _, L0b _ _ _ _, L0b _ _ _ _, L0b _ _ _ _, L0 (by simp)⟩
theorem Y5u (x : Value) (as' rs : List Value) (ha : as'.length = 5) (hr : rs.length = 5) (w : World) : Calls Tryz.prog 43 #[x, .agg as'.toArray, .agg rs.toArray] w fun e w' => e = .returned (.bool true) /\ Below w.heap.size w w' := by
 obtain ⟨a0, a1, a2, a3, a4, rfl⟩ : ∃ a0 a1 a2 a3 a4, as' = [a0, a1, a2, a3, a4] := by
  match as', ha with
  | [a0, a1, a2, a3, a4], _ => exact ⟨a0, a1, a2, a3, a4, rfl⟩
 obtain ⟨r0, r1, r2, r3, r4, rfl⟩ : ∃ r0 r1 r2 r3 r4, rs = [r0, r1, r2, r3, r4] := by
  match rs, hr with
  | [a0, a1, a2, a3, a4], _ => exact ⟨a0, a1, a2, a3, a4, rfl⟩
 obtain ⟨W1, e1, HB⟩ : ∃ W1, (w.alloc (.cells #[a0, a1, a2, a3, a4] 83)).alloc (.cells #[r0, r1, r2, r3, r4] 80) = W1 /\ Hid (Below w.heap.size w W1) := ⟨_, rfl, L0 (bA.alloc (by simp) _)⟩
 clear ha hr
 go_enter Tryz.func43, Tryz.ntmps43
 go_wp2
 go_ret
 exact ⟨rfl, HB.o⟩
theorem X18 {S : Nat -> Prop} {lv : Value} {l : List Acn} (w : World) (hl : (rSl rAcn).rel w S [lv] l) (hS : ∀ q, S q -> q < w.heap.size) (hw : LibW w) (hp : PolW w) :
  Calls Tryz.prog 8 #[lv, .func (.func 9) #[] #[]] w fun e w' => ∃ sb C T, e = .returned (.tuple #[.pointer (some ⟨sb, 0, none⟩), .bool true]) /\ At w w' sb C T (Y9u l) := by
 obtain ⟨A, c, rfl, _, _, hby, hE⟩ := rSl.elems hl
 have hln : l.length <= 1954687338432 := by simp only [rAcn] at hby; omega
 have HE := L0 hE
 have HS := L0 hS
 have HAL := L0 (Y1s w hw hp)
 have HNW := L0 fun w1 (hb : Below w.heap.size w w1) => At.new w1 (hw.below hb) (hp.below hb)
 clear hl hE hS hby hw hp
 go_enter Tryz.func8, Tryz.ntmps8
 go_upto_region 5 with (first
  | (go_at_call 36; (with_reducible refine HAL.o.mono ?_); rintro e w1 ⟨rfl, hb1⟩; have HB1 := L0 hb1; clear hb1)
  | (go_at_call 37; (with_reducible refine (HNW.o w1 HB1.o).mono ?_); rintro e w2 ⟨sb, C, T, rfl, hA⟩; have HA := L0 (hA.lower HB1.o); clear hA))
 go_loopw [7] (fun i wr => ∃ (k : Nat) (C T : Nat -> Prop), i = .int .i64 k /\ k <= l.length /\ k <= 50 /\ Hid (At w wr sb C T (Z0t l k))) (fun i _ => l.length - (intOf i).toNat)
 exact ⟨0, C, T, rfl, L0o _, L0o _, HA⟩
 clear HA
 obtain ⟨k, C, T, rfl, hk, hk50, HA⟩ := hrel
 by_cases hlt : k < l.length
 ·by_cases h50 : k < 50
  ·have hik : (k : Int) < (l.length : Int) := by omega
   have hik5 : (k : Int) < 50 := by omega
   obtain ⟨q, off, a, I, ic, rfl, hSq, hq, hx, hr, g0, g1, g2, g3, g4⟩ := (HE.o.keep (.of_below HA.o.bl)).acn hlt
   have HR := L0 hr
   have HNC : Hid (∀ p, S p -> p < wr.heap.size /\ ¬ C p) := L0 fun p hp => ⟨L0c (HS.o p hp) HA.o.bl.size, fun hc => by have := HA.o.cn p hc; have := HS.o p hp; omega⟩
   obtain ⟨⟨r1, s1⟩, h1⟩ : ∃ z, doS (Z0t l k) a = z := ⟨_, rfl⟩
   have HH1 := L0 h1
   have HNX : Hid (Z0t l (k + 1) = s1) := L0 (by rw [Z3c hx, h1])
   have HSQ : Hid (q < wr.heap.size /\ ¬ C q) := L0 (HNC.o q hSq)
   clear hx hr h1 hSq
   go_upto_region 8 with (first
    | (go_at_call 38; (with_reducible refine L4p (HA.o.act_at HH1.o HR.o HNC.o) ?_); rintro e v2 ⟨A2, c2, B2, d2, C2, T2, rfl, _, hA2, hc2, hC2, _⟩; obtain ⟨W2, e2, HB2, x0, x1, x2, x3, x4, HS2⟩ := Y82 v2 (.int .i64 r1.code) (.int .i64 r1.n) (.string ⟨r1.text.toArray⟩) (.slice A2 r1.ans.length c2) (.slice B2 r1.at'.length d2); have HA2 := L0 (hA2.below HB2.o); obtain ⟨k0, k1, k2, k3, k4⟩ := X0k (q := q) (o := off + k * 5) (hc2.block q HSQ.o.1 HSQ.o.2) (L0c HSQ.o.1 hc2.size) HB2.o g0 g1 g2 g3 g4; clear g0 g1 g2 g3 g4 hA2 hc2 hC2))
   have HQ := L0 fun w' (hb : Below W2.heap.size W2 w') => Y7w (.pointer (some ⟨sb, 0, none⟩)) [.int .i64 a.kind, .int .i64 a.n, .string ⟨a.name.toArray⟩, .string ⟨a.text.toArray⟩, .slice I a.inp.length ic] [.int .i64 r1.code, .int .i64 r1.n, .string ⟨r1.text.toArray⟩, .slice A2 r1.ans.length c2, .slice B2 r1.at'.length d2] rfl rfl w'
   have hqW : q < W2.heap.size := L0d _ _ k0
   have hvW : v2.heap.size < W2.heap.size := L0d _ _ x0
   refine wp_region_quiet_below (by kernel_rfl) (by kernel_rfl) ?_
   repeat (go_big_quiet_step (with_reducible exact Calls.inBelow HQ.o _ _))
   refine wpQuiet_nil ?_
   intro _ hw'
   obtain ⟨⟨dq, osq⟩, hw''⟩ := hw'
   subst hw''
   go_wp2
   go_roundw
   exact ⟨k + 1, C2, T2, by go_num, hlt, h50, L0 (by rw [HNX.o]; exact HA2.o.below (below_regrown _ _ _))⟩
   simp [intOf]; omega
  have hik5 : ¬ (k : Int) < 50 := by omega
  have hik : (k : Int) < (l.length : Int) := by omega
  obtain rfl : k = 50 := by omega
  go_wp2
  go_ret2
  exact ⟨sb, rfl, C, T, HA.o⟩
 have hik : ¬ (k : Int) < (l.length : Int) := by omega
 go_wp2
 go_ret2
 exact ⟨sb, rfl, C, T, by have := HA.o; rwa [Z97 (by omega) hk50] at this⟩
theorem Y7r {S : Nat -> Prop} {lv : Value} {l : List Acn} (w : World) (hl : (rSl rAcn).rel w S [lv] l) (hS : ∀ q, S q -> q < w.heap.size) (hw : LibW w) (hp : PolW w) :
  Calls Tryz.prog 8 #[lv, .func (.func 43) #[] #[]] w fun e w' => ∃ sb C T, e = .returned (.tuple #[.pointer (some ⟨sb, 0, none⟩), .bool true]) /\ At w w' sb C T (Y9u l) := by
 obtain ⟨A, c, rfl, _, _, hby, hE⟩ := rSl.elems hl
 have hln : l.length <= 1954687338432 := by simp only [rAcn] at hby; omega
 have HE := L0 hE
 have HS := L0 hS
 have HAL := L0 (Y1s w hw hp)
 have HNW := L0 fun w1 (hb : Below w.heap.size w w1) => At.new w1 (hw.below hb) (hp.below hb)
 clear hl hE hS hby hw hp
 go_enter Tryz.func8, Tryz.ntmps8
 go_upto_region 5 with (first
  | (go_at_call 36; (with_reducible refine HAL.o.mono ?_); rintro e w1 ⟨rfl, hb1⟩; have HB1 := L0 hb1; clear hb1)
  | (go_at_call 37; (with_reducible refine (HNW.o w1 HB1.o).mono ?_); rintro e w2 ⟨sb, C, T, rfl, hA⟩; have HA := L0 (hA.lower HB1.o); clear hA))
 go_loopw [7] (fun i wr => ∃ (k : Nat) (C T : Nat -> Prop), i = .int .i64 k /\ k <= l.length /\ k <= 50 /\ Hid (At w wr sb C T (Z0t l k))) (fun i _ => l.length - (intOf i).toNat)
 exact ⟨0, C, T, rfl, L0o _, L0o _, HA⟩
 clear HA
 obtain ⟨k, C, T, rfl, hk, hk50, HA⟩ := hrel
 by_cases hlt : k < l.length
 ·by_cases h50 : k < 50
  ·have hik : (k : Int) < (l.length : Int) := by omega
   have hik5 : (k : Int) < 50 := by omega
   obtain ⟨q, off, a, I, ic, rfl, hSq, hq, hx, hr, g0, g1, g2, g3, g4⟩ := (HE.o.keep (.of_below HA.o.bl)).acn hlt
   have HR := L0 hr
   have HNC : Hid (∀ p, S p -> p < wr.heap.size /\ ¬ C p) := L0 fun p hp => ⟨L0c (HS.o p hp) HA.o.bl.size, fun hc => by have := HA.o.cn p hc; have := HS.o p hp; omega⟩
   obtain ⟨⟨r1, s1⟩, h1⟩ : ∃ z, doS (Z0t l k) a = z := ⟨_, rfl⟩
   have HH1 := L0 h1
   have HNX : Hid (Z0t l (k + 1) = s1) := L0 (by rw [Z3c hx, h1])
   have HSQ : Hid (q < wr.heap.size /\ ¬ C q) := L0 (HNC.o q hSq)
   clear hx hr h1 hSq
   go_upto_region 8 with (first
    | (go_at_call 38; (with_reducible refine L4p (HA.o.act_at HH1.o HR.o HNC.o) ?_); rintro e v2 ⟨A2, c2, B2, d2, C2, T2, rfl, _, hA2, hc2, hC2, _⟩; obtain ⟨W2, e2, HB2, x0, x1, x2, x3, x4, HS2⟩ := Y82 v2 (.int .i64 r1.code) (.int .i64 r1.n) (.string ⟨r1.text.toArray⟩) (.slice A2 r1.ans.length c2) (.slice B2 r1.at'.length d2); have HA2 := L0 (hA2.below HB2.o); obtain ⟨k0, k1, k2, k3, k4⟩ := X0k (q := q) (o := off + k * 5) (hc2.block q HSQ.o.1 HSQ.o.2) (L0c HSQ.o.1 hc2.size) HB2.o g0 g1 g2 g3 g4; clear g0 g1 g2 g3 g4 hA2 hc2 hC2))
   have HQ := L0 fun w' (hb : Below W2.heap.size W2 w') => Y5u (.pointer (some ⟨sb, 0, none⟩)) [.int .i64 a.kind, .int .i64 a.n, .string ⟨a.name.toArray⟩, .string ⟨a.text.toArray⟩, .slice I a.inp.length ic] [.int .i64 r1.code, .int .i64 r1.n, .string ⟨r1.text.toArray⟩, .slice A2 r1.ans.length c2, .slice B2 r1.at'.length d2] rfl rfl w'
   have hqW : q < W2.heap.size := L0d _ _ k0
   have hvW : v2.heap.size < W2.heap.size := L0d _ _ x0
   refine wp_region_quiet_below (by kernel_rfl) (by kernel_rfl) ?_
   repeat (go_big_quiet_step (with_reducible exact Calls.inBelow HQ.o _ _))
   refine wpQuiet_nil ?_
   intro _ hw'
   obtain ⟨⟨dq, osq⟩, hw''⟩ := hw'
   subst hw''
   go_wp2
   go_roundw
   exact ⟨k + 1, C2, T2, by go_num, hlt, h50, L0 (by rw [HNX.o]; exact HA2.o.below (below_regrown _ _ _))⟩
   simp [intOf]; omega
  have hik5 : ¬ (k : Int) < 50 := by omega
  have hik : (k : Int) < (l.length : Int) := by omega
  obtain rfl : k = 50 := by omega
  go_wp2
  go_ret2
  exact ⟨sb, rfl, C, T, HA.o⟩
 have hik : ¬ (k : Int) < (l.length : Int) := by omega
 go_wp2
 go_ret2
 exact ⟨sb, rfl, C, T, by have := HA.o; rwa [Z97 (by omega) hk50] at this⟩
theorem At.grown {w0 w w' : World} {sb : Nat} {C T : Nat -> Prop} {st : Sto} {row : Option Nat} (h : At w0 w sb C T st) (hl : LibW w0) (hp : PolW w0) (hg : w.grownBy w' row) (hr : ∀ g, row = some g -> w0.heap.size <= g /\ ¬ C g /\ ¬ T g) : At w0 w' sb C T st :=
 h.other hl hp (D := fun q => row = some q) (.grown hg fun _ hg => .inl hg) (h.bl.grown hg h.bl.size fun k hk => (hr k hk).1) fun q hq => (hr q hq).2
section
variable {w0 w w' w1 w2 : World} {sb gb : Nat} {C T D U I : Nat -> Prop} {st sg : Sto} {a : Acn} {as' : List Value}
end
theorem Y86 {st : Sto} (a : Acn) (h : ¬ 200 <= st.acts) : (doS st a).2.acts = st.acts + 1 := by
 have hp : ∀ (k : Nat) (x : Ses), (st.up.put k x).acts = st.acts + 1 := fun _ _ => rfl
 unfold doS
 rw [if_neg h]
 split
 ·rfl
 split
 ·unfold Z38
  split
  ·rfl
  split
  ·exact hp _ _
  rfl
 split
 ·rfl
 split
 ·rfl
 unfold Z8i
 split
 ·exact hp _ _
 split
 ·exact hp _ _
 split
 ·exact hp _ _
 split
 ·exact hp _ _
 split
 ·unfold Z1w
  split
  ·exact hp _ _
  split
  ·exact hp _ _
  split
  ·exact hp _ _
  split
  ·exact hp _ _
  rfl
 exact hp _ _
theorem Z56 (l : List Acn) : ∀ (n : Nat), n <= l.length -> n <= 200 -> (Z0t l n).acts = n
 | 0, _, _ => by simp [Z0t, sto0]
 | n + 1, h, h2 => by
  have ih := Z56 l n (by omega) (by omega)
  rw [Z3c (L0g (show n < l.length by omega)), Y86 _ (by omega), ih]
theorem X1m : ElemOf Tryz.prog rRep 52 80 := .mk' Tryz.underlying52 (z := .agg #[.int .i64 0, .int .i64 0, .string ⟨#[]⟩, .slice none 0 0, .slice none 0 0]) (k := 5) (b := 80) (by kernel_rfl) rfl rfl rfl (by decide) (by decide)
theorem X1l : ElemOf Tryz.prog rAcn 22 83 := .mk' Tryz.underlying22 (z := .agg #[.int .i64 0, .int .i64 0, .string ⟨#[]⟩, .string ⟨#[]⟩, .slice none 0 0]) (k := 5) (b := 72) (by kernel_rfl) rfl rfl rfl (by decide) (by decide)
theorem OwnS.keeps {α : Type} {R : Rd α} {e : TypeId} {w w' : World} {base : Nat} {S : Nat -> Prop} {v : Value} {xs : List α} (h : OwnS R e w base S v xs) (hk : Keeps (fun b => S b \/ v.ownBlock = some b) w w') : OwnS R e w' base S v xs := by
 obtain ⟨cells, k1, k2, k3, k4⟩ := h
 refine ⟨cells, ⟨k1.1, ?_⟩, k2, k3, fun i y hy => R.keep (k4 i y hy) fun b hb hl => hk b (.inl hb) hl⟩
 rcases k1.2 with h0 | ⟨g, cap, cur, hv, hb, hh, hrest⟩
 ·exact .inl h0
 exact .inr ⟨g, cap, cur, hv, hb, (hk g (.inr (by rw [hv]; rfl)) (L1p.1 hh).1).trans hh, hrest⟩
section
variable {w0 w w' : World} {C T C' T' : Nat -> Prop} {u u' : Value} {xs : List Rep} {x : Rep}
end
theorem Elems.rep {w : World} {S : Nat -> Prop} {A : Option Addr} {l : List Rep} (h : Elems rRep w S A l) {i : Nat} (hi : i < l.length) : ∃ b off r I c J d, A = some ⟨b, off, none⟩ /\ b < w.heap.size /\ l[i]? = some r /\ rRep.rel w S [.int .i64 r.code, .int .i64 r.n, .string ⟨r.text.toArray⟩, .slice I r.ans.length c, .slice J r.at'.length d] r /\
  w.cell? ⟨b, off + i * 5, none⟩ = some (.int .i64 r.code) /\ w.cell? ⟨b, off + i * 5 + 1, none⟩ = some (.int .i64 r.n) /\ w.cell? ⟨b, off + i * 5 + 2, none⟩ = some (.string ⟨r.text.toArray⟩) /\ w.cell? ⟨b, off + i * 5 + 3, none⟩ = some (.slice I r.ans.length c) /\ w.cell? ⟨b, off + i * 5 + 4, none⟩ = some (.slice J r.at'.length d) := by
 obtain ⟨b, off, es, hA, hS, hb, hr, hc⟩ := h i l[i] (L0g hi)
 obtain ⟨I, c, J, d, rfl⟩ := Z5c hr
 exact ⟨b, off, l[i], I, c, J, d, hA, hb, L0g hi, hr, hc 0 _ rfl, hc 1 _ rfl, hc 2 _ rfl, hc 3 _ rfl, hc 4 _ rfl⟩
structure Did where
 acts : List Acn
 reps : List Rep
structure Rp where
 mine : Bk
 gone : List Txt
def Rp.ses (x : Rp) : Ses := ⟨true, false, 0, x.mine, x.gone, []⟩
def Z17 (x : Rp) (a : Acn) (r : Rep) : Rp :=
 if a.kind = 2 then
  if r.code ≠ 0 then x
  else if (Z0f a.text).is then ⟨Z7t x.mine (Z0f a.text).t, x.gone ++ [(Z0f a.text).t.name]⟩
  else ⟨Z6z x.mine (Z0f a.text).d, x.gone ++ [(Z0f a.text).d.name]⟩
 else if a.kind = 3 then
  if r.code = 0 then ⟨Z0r x.mine a.name, x.gone ++ [a.name]⟩ else x
 else x
def rpTo (d : Did) : Nat -> Rp
 | 0 => ⟨bk0, []⟩
 | n + 1 => match d.acts[n]?, d.reps[n]? with
  | some a, some r => Z17 (rpTo d n) a r
  | _, _ => rpTo d n
theorem Y7z {d : Did} {n : Nat} {a : Acn} {r : Rep} (ha : d.acts[n]? = some a) (hr : d.reps[n]? = some r) : rpTo d (n + 1) = Z17 (rpTo d n) a r := by
 rw [rpTo, ha, hr]
structure StepOk (b : Bk) (x : Rp) (a : Acn) (r : Rep) : Prop where
 put : a.kind = 2 -> r.code = 0 -> (Z0f a.text).e = 0
 get : a.kind = 4 -> r.code ≠ 1 -> Z2o (Z1s b x.ses) a.name = r.text
 ask : a.kind = 5 -> askB (Z1s b x.ses) a.inp = (r.ans, r.code)
structure AgainOk (b : Bk) (d : Did) : Prop where
 len : d.reps.length = d.acts.length
 le : d.acts.length <= 200
 st : ∀ (i : Nat) (a : Acn) (r : Rep), d.acts[i]? = some a -> d.reps[i]? = some r -> StepOk b (rpTo d i) a r
theorem X1s {x : Rp} {n : Nat} (h : Neat x.mine n n) (a : Acn) (r : Rep) : Neat (Z17 x a r).mine (n + 1) (n + 1) := by
 unfold Z17
 split
 ·split
  ·exact h.mono (L1m _) (L1m _)
  split
  ·exact (Z5o h _).mono (L1m _) (L0f _)
  exact (Z5n h _).mono (L0f _) (L1m _)
 split
 ·split
  ·exact (h.without _).mono (L1m _) (L1m _)
  exact h.mono (L1m _) (L1m _)
 exact h.mono (L1m _) (L1m _)
theorem Z88 (d : Did) : ∀ n, Neat (rpTo d n).mine n n
 | 0 => Neat.bk0 _ _
 | n + 1 => by
  rw [rpTo]
  split
  ·exact X1s (Z88 d n) _ _
  exact (Z88 d n).mono (L1m _) (L1m _)
theorem X10 {x : Rp} (a : Acn) (r : Rep) : (Z17 x a r).gone.length <= x.gone.length + 1 := by
 unfold Z17
 split
 ·split
  ·exact L1m _
  split <;> simp
 split
 ·split
  ·simp
  exact L1m _
 exact L1m _
theorem Z87 (d : Did) : ∀ n, (rpTo d n).gone.length <= n
 | 0 => L0f _
 | n + 1 => by
  rw [rpTo]
  split
  ·exact L0h (X10 _ _) (L4h (Z87 d n))
  exact L4e (Z87 d n)
structure HSes (b : Bk) (m : Nat) (x : Ses) (d : Did) : Prop where
 len : d.reps.length = d.acts.length
 le : d.acts.length <= m
 mine : (rpTo d d.acts.length).mine = x.mine
 gone : ∀ s, s ∈ (rpTo d d.acts.length).gone ↔ s ∈ x.gone
 ok : ∀ (i : Nat) (a : Acn) (r : Rep), d.acts[i]? = some a -> d.reps[i]? = some r -> StepOk b (rpTo d i) a r
 read : ∀ (i : Nat) (a : Acn) (r : Rep), d.acts[i]? = some a -> d.reps[i]? = some r -> (a.kind = 4 -> r.code ≠ 1 -> a.name ∈ x.read) /\ (a.kind = 5 -> x.strict = true -> [] ∈ x.read)
def Did.add (d : Did) (a : Acn) (r : Rep) : Did := ⟨d.acts ++ [a], d.reps ++ [r]⟩
theorem Z73 {d : Did} (hl : d.reps.length = d.acts.length) (a : Acn) (r : Rep) : ∀ n, n <= d.acts.length -> rpTo (d.add a r) n = rpTo d n
 | 0, _ => rfl
 | n + 1, h => by
  rw [rpTo, rpTo, Z73 hl a r n (by omega)]
  have h1 : (d.add a r).acts[n]? = d.acts[n]? := L1l (by omega)
  have h2 : (d.add a r).reps[n]? = d.reps[n]? := L1l (by omega)
  rw [h1, h2]
theorem Z9t {α : Type} {l : List α} {x y : α} {i : Nat} (h : (l ++ [x])[i]? = some y) : (i < l.length /\ l[i]? = some y) \/ (i = l.length /\ x = y) := by
 rcases L1o i l.length with h1 | h1
 ·exact .inl ⟨h1, by rwa [L1l h1] at h⟩
 rw [L2y h1] at h
 have h2 : i - l.length < 1 := by
  have := (L0n.1 h).1
  simpa using this
 have h3 : i = l.length := by omega
 subst h3
 exact .inr ⟨rfl, by simpa using h⟩
theorem Y2x {d : Did} (hl : d.reps.length = d.acts.length) (a : Acn) (r : Rep) : rpTo (d.add a r) (d.acts.length + 1) = Z17 (rpTo d d.acts.length) a r := by
 rw [Y7z (a := a) (r := r), Z73 hl a r _ (L0f _)]
 ·simp [Did.add]
 simp [Did.add, <- hl]
theorem HSes.add {b : Bk} {m : Nat} {x x' : Ses} {d : Did} {a : Acn} {r : Rep} (h : HSes b m x d) (hm : (Z17 (rpTo d d.acts.length) a r).mine = x'.mine) (hg : ∀ s, s ∈ (Z17 (rpTo d d.acts.length) a r).gone ↔ s ∈ x'.gone)
  (ho : StepOk b (rpTo d d.acts.length) a r) (hs : x'.strict = x.strict) (hr : ∀ s ∈ x.read, s ∈ x'.read) (h4 : a.kind = 4 -> r.code ≠ 1 -> a.name ∈ x'.read) (h5 : a.kind = 5 -> x'.strict = true -> [] ∈ x'.read) : HSes b (m + 1) x' (d.add a r) := by
 have hl : (d.add a r).acts.length = d.acts.length + 1 := by simp [Did.add]
 refine ⟨by simp [Did.add, h.len], by rw [hl]; exact L4h h.le, by rw [hl, Y2x h.len]; exact hm, by rw [hl, Y2x h.len]; exact hg, fun i a' r' ha hr' => ?_, fun i a' r' ha hr' => ?_⟩
 ·rcases Z9t ha with ⟨h1, h2⟩ | ⟨h1, rfl⟩
  ·rcases Z9t hr' with ⟨_, h3⟩ | ⟨h3, _⟩
   ·rw [Z73 h.len _ _ _ (by omega)]
    exact h.ok i a' r' h2 h3
   have := h.len; omega
  rcases Z9t hr' with ⟨h3, _⟩ | ⟨_, rfl⟩
  ·have := h.len; omega
  rw [h1, Z73 h.len _ _ _ (L0f _)]
  exact ho
 rcases Z9t ha with ⟨h1, h2⟩ | ⟨h1, rfl⟩
 ·rcases Z9t hr' with ⟨_, h3⟩ | ⟨h3, _⟩
  ·have := h.read i a' r' h2 h3
   exact ⟨fun k1 k2 => hr _ (this.1 k1 k2), fun k1 k2 => hr _ (this.2 k1 (by rw [<- hs]; exact k2))⟩
  have := h.len; omega
 rcases Z9t hr' with ⟨h3, _⟩ | ⟨_, rfl⟩
 ·have := h.len; omega
 exact ⟨h4, h5⟩
theorem HSes.mono {b : Bk} {m m' : Nat} {x : Ses} {d : Did} (h : HSes b m x d) (hm : m <= m') : HSes b m' x d := ⟨h.len, L0h h.le hm, h.mine, h.gone, h.ok, h.read⟩
theorem HSes.view {b : Bk} {m : Nat} {x : Ses} {d : Did} (h : HSes b m x d) (b' : Bk) : Z1s b' (rpTo d d.acts.length).ses = Z1s b' x := Y8i b' h.mine h.gone
theorem HSes.new (b : Bk) (m : Nat) (s : Bool) (f : Int) : HSes b m ⟨true, s, f, bk0, [], []⟩ ⟨[], []⟩ :=
 ⟨rfl, L0o _, rfl, fun s => by simp [rpTo], fun i a r h => by simp at h, fun i a r h => by simp at h⟩
def Y2k (st : Sto) (n : Int) : Bool := decide (0 <= n) && decide (n < 4) && (st.ses n.toNat).opn
def Z1c (st : Sto) (now : Nat -> Did) (a : Acn) : Nat -> Did :=
 if a.kind = 1 /\ (doS st a).1.code = 0 /\ 0 <= (doS st a).1.n /\ (doS st a).1.n < 4 then fun j => if j = (doS st a).1.n.toNat then ⟨[], []⟩ else now j
 else if 1 < a.kind /\ a.kind < 6 /\ Y2k st a.n = true then fun j => if j = a.n.toNat then (now j).add a (doS st a).1 else now j
 else now
def Z25 (l : List Acn) : Nat -> Nat -> Did
 | 0 => fun _ => ⟨[], []⟩
 | n + 1 => match l[n]? with
  | some a => Z1c (Z0t l n) (Z25 l n) a
  | none => Z25 l n
theorem Z7a {l : List Acn} {n : Nat} {a : Acn} (h : l[n]? = some a) : Z25 l (n + 1) = Z1c (Z0t l n) (Z25 l n) a := by
 rw [Z25, h]
def HInv (st : Sto) (now : Nat -> Did) : Prop := ∀ k, (st.ses k).opn = true -> HSes (st.at (st.ses k).frm) st.acts (st.ses k) (now k)
theorem X1e {b : Bk} {ns : List Int} (h : (askB b ns).2 ≠ 0) : (askB b ns).1 = [] := by
 unfold askB at h ⊢
 split
 ·rfl
 rename_i h1
 rw [if_neg h1] at h
 split
 ·rfl
 rename_i h2
 rw [if_neg h2] at h
 split
 ·rfl
 rename_i h3
 first | rw [if_neg h3] at h | skip
 exact absurd rfl h
theorem HInv.start : HInv sto0 (fun _ => ⟨[], []⟩) := fun k h => by cases h
theorem isOpen_at {st : Sto} {n : Int} : Y2k st n = true ↔ ∃ k : Nat, n = k /\ k < 4 /\ (st.ses k).opn = true := by
 unfold Y2k
 simp only [L0y, decide_eq_true_eq]
 constructor
 ·rintro ⟨⟨h1, h2⟩, h3⟩
  exact ⟨n.toNat, by omega, by omega, h3⟩
 rintro ⟨k, rfl, h1, h2⟩
 exact ⟨⟨by omega, by omega⟩, h2⟩
theorem HInv.put {st : Sto} {now : Nat -> Did} {k : Nat} {x' : Ses} {a : Acn} {r : Rep} (h : HInv st now) (hf : x'.frm = (st.ses k).frm) (hx : HSes (st.at (st.ses k).frm) (st.acts + 1) x' ((now k).add a r)) :
  HInv (st.up.put k x') (fun j => if j = k then (now j).add a r else now j) := by
 intro j hj
 have e : (st.up.put k x').ses j = if j = k then x' else st.ses j := rfl
 have ha : ∀ f, (st.up.put k x').at f = st.at f := fun _ => rfl
 rw [e] at hj ⊢
 rw [ha]
 dsimp only
 by_cases hjk : j = k
 ·subst hjk
  rw [if_pos rfl, if_pos rfl, hf]
  exact hx
 rw [if_neg hjk] at hj ⊢
 rw [if_neg hjk]
 exact (h j hj).mono (L1m _)
theorem HInv.same {st st' : Sto} {now : Nat -> Did} (h : HInv st now) (hg : SGood st) (hs : ∀ j, (st'.ses j).opn = true -> st'.ses j = st.ses j) (ha : st.acts <= st'.acts) (hb : ∀ i, i < st.states.length -> st'.states[i]? = st.states[i]?) : HInv st' now := by
 intro j hj
 have e := hs j hj
 rw [e] at hj ⊢
 obtain ⟨f, h1, h2⟩ := (hg.ses j).fr hj
 have hat : st'.at (st.ses j).frm = st.at (st.ses j).frm := by
  unfold Sto.at
  rw [h1, L1u, hb f h2]
 rw [hat]
 exact (h j hj).mono ha
theorem HInv.step {st : Sto} {now : Nat -> Did} (h : HInv st now) (hg : SGood st) (h200 : ¬ 200 <= st.acts) (a : Acn) : HInv (doS st a).2 (Z1c st now a) := by
 have hup : HInv st.up now := h.same hg (fun _ _ => rfl) (L1m _) fun _ _ => rfl
 by_cases hk : a.kind < 1 \/ 7 < a.kind
 ·have e : doS st a = (noR 10, st.up) := by unfold doS; rw [if_neg h200, if_pos hk]
  unfold Z1c
  rw [e, if_neg (by omega), if_neg (by omega)]
  exact hup
 by_cases h1 : a.kind = 1
 ·have e : doS st a = Z38 st.up a.n := by unfold doS; rw [if_neg h200, if_neg hk, if_pos h1]
  unfold Z1c
  rw [e]
  unfold Z38
  by_cases hn : a.n ≠ 0 /\ a.n ≠ 1
  ·rw [if_pos hn, if_neg (by intro h; exact absurd h.2.1 (by simp [noR])), if_neg (by omega)]
   exact hup
  rw [if_neg hn]
  cases hf : Y3t st.up with
  | none =>
   simp only
   rw [if_neg (by intro h; exact absurd h.2.1 (by simp [noR])), if_neg (by omega)]
   exact hup
  | some k =>
   simp only
   have hk4 : k < 4 := L3a.1 (L2d hf)
   rw [if_pos (by refine ⟨h1, ?_, ?_, ?_⟩ <;> first | trivial | omega)]
   intro j hj
   have ej : (st.up.put k (sesN a.n st.up.states.length)).ses j = if j = k then sesN a.n st.up.states.length else st.ses j := rfl
   have ha : ∀ f, (st.up.put k (sesN a.n st.up.states.length)).at f = st.at f := fun _ => rfl
   rw [ej] at hj ⊢
   rw [ha]
   dsimp only
   by_cases hjk : j = k
   ·rw [if_pos hjk, if_pos (by simp [hjk])]
    exact HSes.new _ _ _ _
   rw [if_neg hjk] at hj ⊢
   rw [if_neg (by simpa using hjk)]
   exact (h j hj).mono (L1m _)
 by_cases ho : Y2k st a.n = true
 ·obtain ⟨k, hnk, hk4, hop⟩ := isOpen_at.1 ho
  have hx := h k hop
  have hno : ¬ (a.n < 0 \/ 4 <= a.n \/ (st.ses a.n.toNat).opn = false) := by
   rw [hnk]
   rintro (h | h | h)
   ·omega
   ·omega
   rw [L1u, hop] at h; cases h
  have e0 : doS st a = if (a.kind = 3 \/ a.kind = 4) /\ Z12 a.name = false then (noR 1, st.up) else Z8i st.up k a := by
   unfold doS
   rw [if_neg h200, if_neg hk, if_neg h1, if_neg hno, hnk, L1u]
  have hnow : ∀ z, doS st a = z -> 1 < a.kind -> a.kind < 6 -> Z1c st now a = fun j => if j = k then (now j).add a z.1 else now j := by
   intro z hz k1 k2
   unfold Z1c
   rw [if_neg (by omega), if_pos ⟨k1, k2, ho⟩, hz, hnk, L1u]
  by_cases hf : (a.kind = 3 \/ a.kind = 4) /\ Z12 a.name = false
  ·rw [if_pos hf] at e0
   rw [hnow _ e0 (by omega) (by omega), e0]
   have := h.put (a := a) (r := noR 1) (x' := st.ses k) (k := k) rfl (hx.add (by unfold Z17; rw [if_neg (by omega)]; split <;> exact hx.mine) (by unfold Z17; rw [if_neg (by omega)]; split <;> exact hx.gone)
    ⟨fun h => by omega, fun _ h => absurd rfl h, fun h => by omega⟩ rfl (fun _ h => h) (fun _ h => absurd rfl h) (fun h => by omega))
   refine HInv.same (st := st.up.put k (st.ses k)) this ?_ (fun j _ => ?_) (L0f _) fun _ _ => rfl
   ·exact (hg.up h200).put ((hg.up h200).ses k)
   show st.ses j = if j = k then st.ses k else st.ses j
   split
   ·rename_i e; rw [e]
   rfl
  rw [if_neg hf] at e0
  have hse : st.up.ses k = st.ses k := rfl
  unfold Z8i at e0
  rw [hse] at e0
  have hat : ∀ f, st.up.at f = st.at f := fun _ => rfl
  rw [hat] at e0
  by_cases k2 : a.kind = 2
  ·rw [if_pos k2] at e0
   rw [hnow _ e0 (by omega) (by omega), e0]
   refine h.put ?_ ?_
   ·unfold putB
    split
    ·rfl
    split <;> rfl
   unfold putB
   by_cases hpe : (Z0f a.text).e ≠ 0
   ·rw [if_pos hpe]
    refine hx.add ?_ ?_ ⟨fun _ h => absurd h hpe, fun h => by omega, fun h => by omega⟩ rfl (fun _ h => h) (fun h => by omega) (fun h => by omega)
    ·unfold Z17; rw [if_pos k2, if_pos (by exact hpe)]; exact hx.mine
    unfold Z17; rw [if_pos k2, if_pos (by exact hpe)]; exact hx.gone
   rw [if_neg hpe]
   have hpe0 : (Z0f a.text).e = 0 := by simpa using hpe
   cases his : (Z0f a.text).is
   ·simp only [L4m, if_false]
    refine hx.add ?_ ?_ ⟨fun _ _ => hpe0, fun h => by omega, fun h => by omega⟩ rfl (fun _ h => h) (fun h => by omega) (fun h => by omega)
    ·unfold Z17; rw [if_pos k2, if_neg (by simp [noR]), his]; simp only [L4m, if_false]; rw [hx.mine]
    unfold Z17; rw [if_pos k2, if_neg (by simp [noR]), his]; simp only [L4m, if_false]; intro s; rw [L2p, hx.gone, L3s]; exact mem_addN.symm
   simp only [if_true]
   refine hx.add ?_ ?_ ⟨fun _ _ => hpe0, fun h => by omega, fun h => by omega⟩ rfl (fun _ h => h) (fun h => by omega) (fun h => by omega)
   ·unfold Z17; rw [if_pos k2, if_neg (by simp [noR]), his]; simp only [if_true]; rw [hx.mine]
   unfold Z17; rw [if_pos k2, if_neg (by simp [noR]), his]; simp only [if_true]; intro s; rw [L2p, hx.gone, L3s]; exact mem_addN.symm
  rw [if_neg k2] at e0
  by_cases k3 : a.kind = 3
  ·rw [if_pos k3] at e0
   rw [hnow _ e0 (by omega) (by omega), e0]
   refine h.put rfl (hx.add ?_ ?_ ⟨fun h => by omega, fun h => by omega, fun h => by omega⟩ rfl (fun _ h => h) (fun h => by omega) (fun h => by omega))
   ·unfold Z17
    rw [if_neg k2, if_pos k3]
    show Z0r (rpTo (now k) (now k).acts.length).mine a.name = Z0r (st.ses k).mine a.name
    rw [hx.mine]
   unfold Z17
   rw [if_neg k2, if_pos k3]
   intro s
   show s ∈ (rpTo (now k) (now k).acts.length).gone ++ [a.name] ↔ s ∈ addN (st.ses k).gone a.name
   rw [L2p, hx.gone, L3s]
   exact mem_addN.symm
  rw [if_neg k3] at e0
  have hrp : ∀ r, Z17 (rpTo (now k) (now k).acts.length) a r = rpTo (now k) (now k).acts.length := fun r => by
   unfold Z17; rw [if_neg k2, if_neg k3]
  by_cases k4 : a.kind = 4
  ·rw [if_pos k4] at e0
   rw [hnow _ e0 (by omega) (by omega), e0]
   refine h.put rfl (hx.add (by rw [hrp]; exact hx.mine) (by rw [hrp]; exact hx.gone) ⟨fun h => by omega, fun _ _ => ?_, fun h => by omega⟩ rfl (fun s h => mem_addN.2 (.inl h)) (fun _ _ => mem_addN.2 (.inr rfl)) (fun h => by omega))
   rw [hx.view]
   simp only
   split
   ·rename_i hs; exact hs
   rfl
  rw [if_neg k4] at e0
  by_cases k5 : a.kind = 5
  ·rw [if_pos k5] at e0
   rw [hnow _ e0 (by omega) (by omega), e0]
   refine h.put rfl (hx.add (by rw [hrp]; exact hx.mine) (by rw [hrp]; exact hx.gone) ⟨fun h => by omega, fun h => by omega, fun _ => ?_⟩ rfl (fun s hs => ?_) (fun h => by omega) (fun _ hst => ?_))
   ·rw [hx.view]
    unfold askS
    simp only
    split
    ·rename_i hc
     show _ = (([] : List An), _)
     rw [<- X1e hc]
     rfl
    rename_i hc
    have hc0 : (askB (Z1s (st.at (st.ses k).frm) (st.ses k)) a.inp).2 = 0 := by simpa using hc
    rw [<- hc0]
   ·have hr : s ∈ Z1t (Z1s (st.at (st.ses k).frm) (st.ses k)) (Z1t (st.at (st.ses k).frm) (st.ses k).read) := (Z8y _ _).2 (.inl ((Z8y _ _).2 (.inl hs)))
    show s ∈ (if (st.ses k).strict then _ else _ : List Txt)
    split
    ·exact mem_addN.2 (.inl hr)
    exact hr
   have hst' : (st.ses k).strict = true := hst
   show [] ∈ (if (st.ses k).strict then _ else _ : List Txt)
   rw [if_pos hst']
   exact mem_addN.2 (.inr rfl)
  rw [if_neg k5] at e0
  have hnow2 : Z1c st now a = now := by
   unfold Z1c
   rw [if_neg (by omega), if_neg (by omega)]
  rw [hnow2]
  have hcl : ∀ (st' : Sto), st'.states = st.states \/ (∃ b, st'.states = st.states ++ [b]) -> st'.acts = st.acts + 1 -> st'.ses = (st.up.put k ses0).ses -> HInv st' now := by
   intro st' h1 h2 h3
   refine h.same hg (fun j hj => ?_) (by omega) fun i hi => ?_
   ·rw [h3] at hj ⊢
    have ej : (st.up.put k ses0).ses j = if j = k then ses0 else st.ses j := rfl
    rw [ej] at hj ⊢
    split
    ·rename_i e; rw [if_pos e] at hj; cases hj
    rfl
   rcases h1 with h1 | ⟨b, h1⟩
   ·rw [h1]
   rw [h1, L1l hi]
  by_cases k6 : a.kind = 6
  ·rw [if_pos k6] at e0
   rw [e0]
   unfold Z1w
   split
   ·exact hcl _ (.inl rfl) rfl rfl
   split
   ·exact hcl _ (.inl rfl) rfl rfl
   split
   ·exact hcl _ (.inl rfl) rfl rfl
   split
   ·exact hcl _ (.inl rfl) rfl rfl
   exact hcl _ (.inr ⟨_, rfl⟩) rfl rfl
  rw [if_neg k6] at e0
  rw [e0]
  exact hcl _ (.inl rfl) rfl rfl
 have hno : a.n < 0 \/ 4 <= a.n \/ (st.ses a.n.toNat).opn = false := by
  by_cases h2 : a.n < 0
  ·exact .inl h2
  by_cases h3 : 4 <= a.n
  ·exact .inr (.inl h3)
  cases h4 : (st.ses a.n.toNat).opn
  ·exact .inr (.inr rfl)
  exact absurd (isOpen_at.2 ⟨a.n.toNat, by omega, by omega, h4⟩) ho
 have e : doS st a = (noR 3, st.up) := by unfold doS; rw [if_neg h200, if_neg hk, if_neg h1, if_pos hno]
 unfold Z1c
 rw [if_neg (by omega), if_neg (fun h => ho h.2.2), e]
 exact hup
section
variable {st : Sto} {now : Nat -> Did} {k : Nat} {a : Acn}
theorem HInv.snap (h : HInv st now) (hg : SGood st) (ho : (st.ses k).opn = true) : AgainOk (st.at (st.ses k).frm) (now k) :=
 ⟨(h k ho).len, L0h (h k ho).le hg.ac, (h k ho).ok⟩
end
theorem Y30 (l : List Acn) (n : Nat) : SGood (Z0t l n) := by
 unfold Z0t
 generalize l.take n = m
 suffices h : ∀ (m : List Acn) (st : Sto), SGood st -> SGood (m.foldl (fun s a => (doS s a).2) st) from h m _ SGood.start
 intro m
 induction m with
 | nil => exact fun st h => h
 | cons a m ih => exact fun st h => ih _ (h.step a)
