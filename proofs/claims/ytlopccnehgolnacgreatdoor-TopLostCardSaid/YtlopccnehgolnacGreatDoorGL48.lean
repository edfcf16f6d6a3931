import Derived.Test.YtlopccnehgolnacGreatDoorGL46
namespace Go.Proofs.YtlopccnehgolnacGreatDoor
open Go.RowKit Rb
set_option maxRecDepth 100000
set_option maxHeartbeats 3200000
def Z0t (l : List Acn) (n : Nat) : Sto := (l.take n).foldl (fun s a => (doS s a).2) sto0
def Y9k (l : List Acn) : Sto := Z0t l 50
theorem Z4d {l : List Acn} {n : Nat} {a : Acn} (h : l[n]? = some a) : Z0t l (n + 1) = (doS (Z0t l n) a).2 := by
 unfold Z0t
 rw [Z0c h, L1d]
 rfl
theorem Z9y {l : List Acn} {n : Nat} (h : l.length <= n) (h50 : n <= 50) : Z0t l n = Y9k l := by
 unfold Y9k Z0t
 rw [L0k h, L0k (by omega)]
theorem Elems.acn {w : World} {S : Nat -> Prop} {A : Option Addr} {l : List Acn} (h : Elems rAcn w S A l) {i : Nat} (hi : i < l.length) : ∃ b off a I c, A = some ⟨b, off, none⟩ /\ S b /\ b < w.heap.size /\ l[i]? = some a /\ rAcn.rel w S [.int .i64 a.kind, .int .i64 a.n, .string ⟨a.name.toArray⟩, .string ⟨a.text.toArray⟩, .slice I a.inp.length c] a /\
  w.cell? ⟨b, off + i * 5, none⟩ = some (.int .i64 a.kind) /\ w.cell? ⟨b, off + i * 5 + 1, none⟩ = some (.int .i64 a.n) /\ w.cell? ⟨b, off + i * 5 + 2, none⟩ = some (.string ⟨a.name.toArray⟩) /\ w.cell? ⟨b, off + i * 5 + 3, none⟩ = some (.string ⟨a.text.toArray⟩) /\ w.cell? ⟨b, off + i * 5 + 4, none⟩ = some (.slice I a.inp.length c) := by
 obtain ⟨b, off, es, hA, hS, hb, hr, hc⟩ := h i l[i] (L0g hi)
 have hr' := hr
 obtain ⟨u, rfl, _, _, _, _, hin⟩ := hr
 obtain ⟨I, c, rfl, _⟩ := rSl.elems hin
 exact ⟨b, off, l[i], I, c, hA, hS, hb, L0g hi, hr', hc 0 _ rfl, hc 1 _ rfl, hc 2 _ rfl, hc 3 _ rfl, hc 4 _ rfl⟩
theorem Y96 {w v W : World} {q o : Nat} {u0 u1 u2 u3 u4 : Value} (h : v.heap[q]? = w.heap[q]?) (hq : q < v.heap.size) (hb : Below v.heap.size v W) (g0 : w.cell? ⟨q, o, none⟩ = some u0) (g1 : w.cell? ⟨q, o + 1, none⟩ = some u1) (g2 : w.cell? ⟨q, o + 2, none⟩ = some u2) (g3 : w.cell? ⟨q, o + 3, none⟩ = some u3) (g4 : w.cell? ⟨q, o + 4, none⟩ = some u4) :
  W.cell? ⟨q, o, none⟩ = some u0 /\ W.cell? ⟨q, o + 1, none⟩ = some u1 /\ W.cell? ⟨q, o + 2, none⟩ = some u2 /\ W.cell? ⟨q, o + 3, none⟩ = some u3 /\ W.cell? ⟨q, o + 4, none⟩ = some u4 := by
 have k : ∀ j, W.cell? ⟨q, j, none⟩ = w.cell? ⟨q, j, none⟩ := fun j => (hb.ce j hq).trans (L1c (a := ⟨q, j, none⟩) h)
 exact ⟨(k _).trans g0, (k _).trans g1, (k _).trans g2, (k _).trans g3, (k _).trans g4⟩
theorem Y8s (w : World) (v0 v1 v2 v3 v4 : Value) : ∃ W, w.alloc (.cells #[v0, v1, v2, v3, v4] 30) = W /\ Hid (Below w.heap.size w W) /\ W.cell? ⟨w.heap.size, 0, none⟩ = some v0 /\ W.cell? ⟨w.heap.size, 1, none⟩ = some v1 /\ W.cell? ⟨w.heap.size, 2, none⟩ = some v2 /\ W.cell? ⟨w.heap.size, 3, none⟩ = some v3 /\ W.cell? ⟨w.heap.size, 4, none⟩ = some v4 /\ Hid (W.heap.size = w.heap.size + 1) :=
 ⟨_, rfl, L0 bA, L0b _ _ _ _, L0b _ _ _ _, L0b _ _ _ _, L0b _ _ _ _, L0b _ _ _ _, L0 (by simp)⟩
theorem Y5m (x : Value) (as' rs : List Value) (ha : as'.length = 5) (hr : rs.length = 5) (w : World) : Calls Tryz.prog 43 #[x, .agg as'.toArray, .agg rs.toArray] w fun e w' => e = .returned (.bool true) /\ Below w.heap.size w w' := by
 obtain ⟨a0, a1, a2, a3, a4, rfl⟩ : ∃ a0 a1 a2 a3 a4, as' = [a0, a1, a2, a3, a4] := by
  match as', ha with
  | [a0, a1, a2, a3, a4], _ => exact ⟨a0, a1, a2, a3, a4, rfl⟩
 obtain ⟨r0, r1, r2, r3, r4, rfl⟩ : ∃ r0 r1 r2 r3 r4, rs = [r0, r1, r2, r3, r4] := by
  match rs, hr with
  | [a0, a1, a2, a3, a4], _ => exact ⟨a0, a1, a2, a3, a4, rfl⟩
 obtain ⟨W1, e1, HB⟩ : ∃ W1, (w.alloc (.cells #[a0, a1, a2, a3, a4] 24)).alloc (.cells #[r0, r1, r2, r3, r4] 30) = W1 /\ Hid (Below w.heap.size w W1) := ⟨_, rfl, L0 (bA.alloc (by simp) _)⟩
 clear ha hr
 go_enter Tryz.func43, Tryz.ntmps43
 go_wp2
 go_ret
 exact ⟨rfl, HB.out⟩
theorem X1q {S : Nat -> Prop} {lv : Value} {l : List Acn} (w : World) (hl : (rSl rAcn).rel w S [lv] l) (hS : ∀ q, S q -> q < w.heap.size) (hw : LibW w) (hp : PolW w) :
  Calls Tryz.prog 20 #[lv, .func (.func 24) #[] #[]] w fun e w' => ∃ sb C T, e = .returned (.tuple #[.pointer (some ⟨sb, 0, none⟩), .bool true]) /\ At w w' sb C T (Y9k l) := by
 obtain ⟨A, c, rfl, _, _, hby, hE⟩ := rSl.elems hl
 have hln : l.length <= 1954687338432 := by simp only [rAcn] at hby; omega
 have HE := L0 hE
 have HS := L0 hS
 have HAL := L0 (Y1i w hw hp)
 have HNW := L0 fun w1 (hb : Below w.heap.size w w1) => At.new w1 (hw.below hb) (hp.below hb)
 clear hl hE hS hby hw hp
 go_enter Tryz.func20, Tryz.ntmps20
 go_upto_region 5 with (first
  | (go_at_call 52; (with_reducible refine HAL.out.mono ?_); rintro e w1 ⟨rfl, hb1⟩; have HB1 := L0 hb1; clear hb1)
  | (go_at_call 26; (with_reducible refine (HNW.out w1 HB1.out).mono ?_); rintro e w2 ⟨sb, C, T, rfl, hA⟩; have HA := L0 (hA.lower HB1.out); clear hA))
 go_loopw [7] (fun i wr => ∃ (k : Nat) (C T : Nat -> Prop), i = .int .i64 k /\ k <= l.length /\ k <= 50 /\ Hid (At w wr sb C T (Z0t l k))) (fun i _ => l.length - (intOf i).toNat)
 case atStart => exact ⟨0, C, T, rfl, L0o _, L0o _, HA⟩
 case round =>
  clear HA
  obtain ⟨k, C, T, rfl, hk, hk50, HA⟩ := hrel
  by_cases hlt : k < l.length
  ·by_cases h50 : k < 50
   ·have hik : (k : Int) < (l.length : Int) := by omega
    have hik5 : (k : Int) < 50 := by omega
    obtain ⟨q, off, a, I, ic, rfl, hSq, hq, hx, hr, g0, g1, g2, g3, g4⟩ := (HE.out.keep (.of_below HA.out.bl)).acn hlt
    have HR := L0 hr
    have HNC : Hid (∀ p, S p -> p < wr.heap.size /\ ¬ C p) := L0 fun p hp => ⟨L0c (HS.out p hp) HA.out.bl.size, fun hc => by have := HA.out.cn p hc; have := HS.out p hp; omega⟩
    obtain ⟨⟨r1, s1⟩, h1⟩ : ∃ z, doS (Z0t l k) a = z := ⟨_, rfl⟩
    have HH1 := L0 h1
    have HNX : Hid (Z0t l (k + 1) = s1) := L0 (by rw [Z4d hx, h1])
    have HSQ : Hid (q < wr.heap.size /\ ¬ C q) := L0 (HNC.out q hSq)
    clear hx hr h1 hSq
    go_upto_region 8 with (first
     | (go_at_call 11; (with_reducible refine L4n (HA.out.act_at HH1.out HR.out HNC.out) ?_); rintro e v2 ⟨A2, c2, B2, d2, C2, T2, rfl, _, hA2, hc2, hC2, _⟩; obtain ⟨W2, e2, HB2, x0, x1, x2, x3, x4, HS2⟩ := Y8s v2 (.int .i64 r1.code) (.int .i64 r1.n) (.string ⟨r1.text.toArray⟩) (.slice A2 r1.ans.length c2) (.slice B2 r1.at'.length d2); have HA2 := L0 (hA2.below HB2.out); obtain ⟨k0, k1, k2, k3, k4⟩ := Y96 (q := q) (o := off + k * 5) (hc2.block q HSQ.out.1 HSQ.out.2) (L0c HSQ.out.1 hc2.size) HB2.out g0 g1 g2 g3 g4; clear g0 g1 g2 g3 g4 hA2 hc2 hC2))
    have HQ := L0 fun w' (hb : Below W2.heap.size W2 w') => Y7o (.pointer (some ⟨sb, 0, none⟩)) [.int .i64 a.kind, .int .i64 a.n, .string ⟨a.name.toArray⟩, .string ⟨a.text.toArray⟩, .slice I a.inp.length ic] [.int .i64 r1.code, .int .i64 r1.n, .string ⟨r1.text.toArray⟩, .slice A2 r1.ans.length c2, .slice B2 r1.at'.length d2] rfl rfl w'
    have hqW : q < W2.heap.size := L0e _ _ k0
    have hvW : v2.heap.size < W2.heap.size := L0e _ _ x0
    refine wp_region_quiet_below (by kernel_rfl) (by kernel_rfl) ?_
    repeat (go_big_quiet_step (with_reducible exact Calls.inBelow HQ.out _ _))
    refine wpQuiet_nil ?_
    intro _ hw'
    obtain ⟨⟨dq, osq⟩, hw''⟩ := hw'
    subst hw''
    go_wp2
    go_roundw
    case rel => exact ⟨k + 1, C2, T2, by go_num, hlt, h50, L0 (by rw [HNX.out]; exact HA2.out.below (below_regrown _ _ _))⟩
    case measure => simp [intOf]; omega
   ·have hik5 : ¬ (k : Int) < 50 := by omega
    have hik : (k : Int) < (l.length : Int) := by omega
    obtain rfl : k = 50 := by omega
    go_wp2
    go_ret2
    exact ⟨sb, rfl, C, T, HA.out⟩
  ·have hik : ¬ (k : Int) < (l.length : Int) := by omega
   go_wp2
   go_ret2
   exact ⟨sb, rfl, C, T, by have := HA.out; rwa [Z9y (by omega) hk50] at this⟩
theorem Y7j {S : Nat -> Prop} {lv : Value} {l : List Acn} (w : World) (hl : (rSl rAcn).rel w S [lv] l) (hS : ∀ q, S q -> q < w.heap.size) (hw : LibW w) (hp : PolW w) :
  Calls Tryz.prog 20 #[lv, .func (.func 43) #[] #[]] w fun e w' => ∃ sb C T, e = .returned (.tuple #[.pointer (some ⟨sb, 0, none⟩), .bool true]) /\ At w w' sb C T (Y9k l) := by
 obtain ⟨A, c, rfl, _, _, hby, hE⟩ := rSl.elems hl
 have hln : l.length <= 1954687338432 := by simp only [rAcn] at hby; omega
 have HE := L0 hE
 have HS := L0 hS
 have HAL := L0 (Y1i w hw hp)
 have HNW := L0 fun w1 (hb : Below w.heap.size w w1) => At.new w1 (hw.below hb) (hp.below hb)
 clear hl hE hS hby hw hp
 go_enter Tryz.func20, Tryz.ntmps20
 go_upto_region 5 with (first
  | (go_at_call 52; (with_reducible refine HAL.out.mono ?_); rintro e w1 ⟨rfl, hb1⟩; have HB1 := L0 hb1; clear hb1)
  | (go_at_call 26; (with_reducible refine (HNW.out w1 HB1.out).mono ?_); rintro e w2 ⟨sb, C, T, rfl, hA⟩; have HA := L0 (hA.lower HB1.out); clear hA))
 go_loopw [7] (fun i wr => ∃ (k : Nat) (C T : Nat -> Prop), i = .int .i64 k /\ k <= l.length /\ k <= 50 /\ Hid (At w wr sb C T (Z0t l k))) (fun i _ => l.length - (intOf i).toNat)
 case atStart => exact ⟨0, C, T, rfl, L0o _, L0o _, HA⟩
 case round =>
  clear HA
  obtain ⟨k, C, T, rfl, hk, hk50, HA⟩ := hrel
  by_cases hlt : k < l.length
  ·by_cases h50 : k < 50
   ·have hik : (k : Int) < (l.length : Int) := by omega
    have hik5 : (k : Int) < 50 := by omega
    obtain ⟨q, off, a, I, ic, rfl, hSq, hq, hx, hr, g0, g1, g2, g3, g4⟩ := (HE.out.keep (.of_below HA.out.bl)).acn hlt
    have HR := L0 hr
    have HNC : Hid (∀ p, S p -> p < wr.heap.size /\ ¬ C p) := L0 fun p hp => ⟨L0c (HS.out p hp) HA.out.bl.size, fun hc => by have := HA.out.cn p hc; have := HS.out p hp; omega⟩
    obtain ⟨⟨r1, s1⟩, h1⟩ : ∃ z, doS (Z0t l k) a = z := ⟨_, rfl⟩
    have HH1 := L0 h1
    have HNX : Hid (Z0t l (k + 1) = s1) := L0 (by rw [Z4d hx, h1])
    have HSQ : Hid (q < wr.heap.size /\ ¬ C q) := L0 (HNC.out q hSq)
    clear hx hr h1 hSq
    go_upto_region 8 with (first
     | (go_at_call 11; (with_reducible refine L4n (HA.out.act_at HH1.out HR.out HNC.out) ?_); rintro e v2 ⟨A2, c2, B2, d2, C2, T2, rfl, _, hA2, hc2, hC2, _⟩; obtain ⟨W2, e2, HB2, x0, x1, x2, x3, x4, HS2⟩ := Y8s v2 (.int .i64 r1.code) (.int .i64 r1.n) (.string ⟨r1.text.toArray⟩) (.slice A2 r1.ans.length c2) (.slice B2 r1.at'.length d2); have HA2 := L0 (hA2.below HB2.out); obtain ⟨k0, k1, k2, k3, k4⟩ := Y96 (q := q) (o := off + k * 5) (hc2.block q HSQ.out.1 HSQ.out.2) (L0c HSQ.out.1 hc2.size) HB2.out g0 g1 g2 g3 g4; clear g0 g1 g2 g3 g4 hA2 hc2 hC2))
    have HQ := L0 fun w' (hb : Below W2.heap.size W2 w') => Y5m (.pointer (some ⟨sb, 0, none⟩)) [.int .i64 a.kind, .int .i64 a.n, .string ⟨a.name.toArray⟩, .string ⟨a.text.toArray⟩, .slice I a.inp.length ic] [.int .i64 r1.code, .int .i64 r1.n, .string ⟨r1.text.toArray⟩, .slice A2 r1.ans.length c2, .slice B2 r1.at'.length d2] rfl rfl w'
    have hqW : q < W2.heap.size := L0e _ _ k0
    have hvW : v2.heap.size < W2.heap.size := L0e _ _ x0
    refine wp_region_quiet_below (by kernel_rfl) (by kernel_rfl) ?_
    repeat (go_big_quiet_step (with_reducible exact Calls.inBelow HQ.out _ _))
    refine wpQuiet_nil ?_
    intro _ hw'
    obtain ⟨⟨dq, osq⟩, hw''⟩ := hw'
    subst hw''
    go_wp2
    go_roundw
    case rel => exact ⟨k + 1, C2, T2, by go_num, hlt, h50, L0 (by rw [HNX.out]; exact HA2.out.below (below_regrown _ _ _))⟩
    case measure => simp [intOf]; omega
   ·have hik5 : ¬ (k : Int) < 50 := by omega
    have hik : (k : Int) < (l.length : Int) := by omega
    obtain rfl : k = 50 := by omega
    go_wp2
    go_ret2
    exact ⟨sb, rfl, C, T, HA.out⟩
  ·have hik : ¬ (k : Int) < (l.length : Int) := by omega
   go_wp2
   go_ret2
   exact ⟨sb, rfl, C, T, by have := HA.out; rwa [Z9y (by omega) hk50] at this⟩
theorem At.grown {w0 w w' : World} {sb : Nat} {C T : Nat -> Prop} {st : Sto} {row : Option Nat} (h : At w0 w sb C T st) (hl : LibW w0) (hp : PolW w0) (hg : w.grownBy w' row) (hr : ∀ g, row = some g -> w0.heap.size <= g /\ ¬ C g /\ ¬ T g) : At w0 w' sb C T st :=
 h.other hl hp (D := fun q => row = some q) (.grown hg fun _ hg => .inl hg) (h.bl.grown hg h.bl.size fun k hk => (hr k hk).1) fun q hq => (hr q hq).2
section
variable {w0 w w' w1 w2 : World} {sb gb : Nat} {C T D U I : Nat -> Prop} {st sg : Sto} {a : Acn} {as' : List Value}
end
theorem Y8w {st : Sto} (a : Acn) (h : ¬ 200 <= st.acts) : (doS st a).2.acts = st.acts + 1 := by
 have hp : ∀ (k : Nat) (x : Ses), (st.up.put k x).acts = st.acts + 1 := fun _ _ => rfl
 unfold doS
 rw [if_neg h]
 split
 ·rfl
 split
 ·unfold Z4q
  split
  ·rfl
  ·split
   ·exact hp _ _
   ·rfl
 split
 ·rfl
 split
 ·rfl
 unfold Z88
 split
 ·exact hp _ _
 split
 ·exact hp _ _
 split
 ·exact hp _ _
 split
 ·exact hp _ _
 split
 ·unfold Z08
  split
  ·exact hp _ _
  ·split
   ·exact hp _ _
   ·split
    ·exact hp _ _
    ·split
     ·exact hp _ _
     ·rfl
 ·exact hp _ _
theorem Z8u (l : List Acn) : ∀ (n : Nat), n <= l.length -> n <= 200 -> (Z0t l n).acts = n
 | 0, _, _ => by simp [Z0t, sto0]
 | n + 1, h, h2 => by
  have ih := Z8u l n (by omega) (by omega)
  rw [Z4d (L0g (show n < l.length by omega)), Y8w _ (by omega), ih]
theorem X06 : ElemOf Tryz.prog rRep 46 30 := .mk' Tryz.underlying46 (z := .agg #[.int .i64 0, .int .i64 0, .string ⟨#[]⟩, .slice none 0 0, .slice none 0 0]) (k := 5) (b := 80) (by kernel_rfl) rfl rfl rfl (by decide) (by decide)
theorem X05 : ElemOf Tryz.prog rAcn 44 24 := .mk' Tryz.underlying44 (z := .agg #[.int .i64 0, .int .i64 0, .string ⟨#[]⟩, .string ⟨#[]⟩, .slice none 0 0]) (k := 5) (b := 72) (by kernel_rfl) rfl rfl rfl (by decide) (by decide)
theorem OwnS.keeps {α : Type} {R : Rd α} {e : TypeId} {w w' : World} {base : Nat} {S : Nat -> Prop} {v : Value} {xs : List α} (h : OwnS R e w base S v xs) (hk : Keeps (fun b => S b \/ v.ownBlock = some b) w w') : OwnS R e w' base S v xs := by
 obtain ⟨cells, k1, k2, k3, k4⟩ := h
 refine ⟨cells, ⟨k1.1, ?_⟩, k2, k3, fun i y hy => R.keep (k4 i y hy) fun b hb hl => hk b (.inl hb) hl⟩
 rcases k1.2 with h0 | ⟨g, cap, cur, hv, hb, hh, hrest⟩
 ·exact .inl h0
 ·exact .inr ⟨g, cap, cur, hv, hb, (hk g (.inr (by rw [hv]; rfl)) (L1n.1 hh).1).trans hh, hrest⟩
section
variable {w0 w w' : World} {C T C' T' : Nat -> Prop} {u u' : Value} {xs : List Rep} {x : Rep}
end
structure Did where
 acts : List Acn
 reps : List Rep
structure Rp where
 mine : Bk
 gone : List Txt
def X2w (x : Rp) (a : Acn) (r : Rep) : Rp :=
 if a.kind = 2 then
  if r.code ≠ 0 then x
  else if (Z0e a.text).is then ⟨Z9f x.mine (Z0e a.text).t, x.gone ++ [(Z0e a.text).t.name]⟩
  else ⟨Z7n x.mine (Z0e a.text).d, x.gone ++ [(Z0e a.text).d.name]⟩
 else if a.kind = 3 then
  if r.code = 0 then ⟨Z1n x.mine a.name, x.gone ++ [a.name]⟩ else x
 else x
def rpTo (d : Did) : Nat -> Rp
 | 0 => ⟨bk0, []⟩
 | n + 1 => match d.acts[n]?, d.reps[n]? with
  | some a, some r => X2w (rpTo d n) a r
  | _, _ => rpTo d n
def Did.add (d : Did) (a : Acn) (r : Rep) : Did := ⟨d.acts ++ [a], d.reps ++ [r]⟩
def Y4j (st : Sto) (n : Int) : Bool := decide (0 <= n) && decide (n < 4) && (st.ses n.toNat).opn
def Z2r (st : Sto) (now : Nat -> Did) (a : Acn) : Nat -> Did :=
 if a.kind = 1 /\ (doS st a).1.code = 0 /\ 0 <= (doS st a).1.n /\ (doS st a).1.n < 4 then fun j => if j = (doS st a).1.n.toNat then ⟨[], []⟩ else now j
 else if 1 < a.kind /\ a.kind < 6 /\ Y4j st a.n = true then fun j => if j = a.n.toNat then (now j).add a (doS st a).1 else now j
 else now
def Z28 (l : List Acn) : Nat -> Nat -> Did
 | 0 => fun _ => ⟨[], []⟩
 | n + 1 => match l[n]? with
  | some a => Z2r (Z0t l n) (Z28 l n) a
  | none => Z28 l n
theorem Z9x {l : List Acn} {n : Nat} {a : Acn} (h : l[n]? = some a) : Z28 l (n + 1) = Z2r (Z0t l n) (Z28 l n) a := by
 rw [Z28, h]
theorem isOpen_at {st : Sto} {n : Int} : Y4j st n = true ↔ ∃ k : Nat, n = k /\ k < 4 /\ (st.ses k).opn = true := by
 unfold Y4j
 simp only [L0z, decide_eq_true_eq]
 constructor
 ·rintro ⟨⟨h1, h2⟩, h3⟩
  exact ⟨n.toNat, by omega, by omega, h3⟩
 ·rintro ⟨k, rfl, h1, h2⟩
  exact ⟨⟨by omega, by omega⟩, h2⟩
section
variable {st : Sto} {now : Nat -> Did} {k : Nat} {a : Acn}
theorem Y6y (hn : a.n = k) (hk4 : k < 4) (ho : (st.ses k).opn = true) (h200 : ¬ 200 <= st.acts) (hk6 : a.kind = 6) (hc : (doS st a).1.code = 0) : (Z08 st.up k).1.code = 0 := by
 have e : doS st a = Z08 st.up k := by
  unfold doS
  rw [if_neg h200, if_neg (by omega), if_neg (by omega), if_neg (by
   rw [hn]
   rintro (h | h | h)
   ·omega
   ·omega
   ·rw [L1y, ho] at h; cases h), if_neg (by omega), hn, L1y]
  unfold Z88
  rw [if_neg (by omega), if_neg (by omega), if_neg (by omega), if_neg (by omega), if_pos hk6]
 rwa [e] at hc
theorem Y3b (hg : SGood st) (ho : (st.ses k).opn = true) (hc : (Z08 st.up k).1.code = 0) {s : Txt} (hw : Z7l (st.ses k) s = true) : Z1c (st.at (st.ses k).frm) s = Z1c ((st.states[st.states.length - 1]?).getD bk0) s := by
 obtain ⟨f, h1, h2⟩ := (hg.ses k).fr ho
 have hs : s ∉ Z8t st.states f := fun hs => by
  have := Y45 hc s (by rw [show (st.up.ses k).frm.toNat = f by show (st.ses k).frm.toNat = f; omega]; exact hs)
  rw [show st.up.ses k = st.ses k from rfl, hw] at this
  cases this
 have := Y07 hs (st.states.length - 1 - f) (L0f _)
 rw [show f + (st.states.length - 1 - f) = st.states.length - 1 by omega] at this
 rw [this]
 unfold Sto.at
 rw [h1, L1y]
theorem Y3a (hg : SGood st) (ho : (st.ses k).opn = true) (hc : (Z08 st.up k).1.code = 0) : ∀ s ∈ (st.ses k).gone, Z1c (st.at (st.ses k).frm) s = Z1c ((st.states[st.states.length - 1]?).getD bk0) s := fun s hs =>
 Y3b hg ho hc (by unfold Z7l; simp [hs])
end
