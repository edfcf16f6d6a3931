import Derived.Test.YtlopccnehgolnacGreatDoorRdr
import Derived.Test.YtlopccnehgolnacGreatDoorShTx
import Derived.Test.YtlopccnehgolnacGreatDoorTabA
import Derived.Test.YtlopccnehgolnacGreatDoorSpanD
import Derived.Deep.DeepMust
namespace Go.Proofs.YtlopccnehgolnacGreatDoor
open Go.RowKit Rb
open Go.Lib renaming atoiAll -> jA
set_option maxRecDepth 100000
set_option maxHeartbeats 6400000
theorem LibW.below {w w' : World} (h : LibW w) (hb : Bw w w') : LibW w' := by
 have hg : ∀ (n : String) (cs : Array Value), w.var? Tryz.prog n = some cs -> w'.var? Tryz.prog n = some cs := by
  intro n cs hv
  unfold World.var? at hv ⊢
  cases hg : Tryz.prog.globalNamed n with
  | none => rw [hg] at hv; cases hv
  | some g =>
   rw [hg] at hv
   simp only [Option.bind_some] at hv ⊢
   have hlt : g < w.heap.size := by
    rcases L1r g w.heap.size with hl | hge
    ·exact hl
    rw [L3f hge] at hv; cases hv
   rw [hb.block g hlt]
   exact hv
 obtain ⟨h1, ⟨tp, p, h2⟩, ⟨tq, q, h3⟩⟩ := h
 exact ⟨hg _ _ h1, ⟨tp, p, hg _ _ h2⟩, ⟨tq, q, hg _ _ h3⟩⟩
def Z2u (r : Rs) : Txt × Rs := ((Z3j r).1, ⟨(Z3j r).2.l, (Z3j r).2.bad || !Z1e (Z3j r).1⟩)
def Z6r (s : Txt) : Option Int := match jA s with | .ok v => if Lib.itoa v = s /\ -1000000 <= v /\ v <= 1000000 then some v else none | _ => none
def Z0l (r : Rs) : Int × Rs := match Z6r (Z3j r).1 with | some v => (v, (Z3j r).2) | none => (0, ⟨(Z3j r).2.l, true⟩)
theorem RdAt.wlen {w : World} {q : Nat} {r : Rs} (h : RdAt w q r) : (Z3j r).1.length <= 140737488355328 := by
 obtain ⟨l, bad⟩ := r
 cases l with
 | nil => simp [Z3j]
 | cons s l =>
  obtain ⟨A, c, h0, h1, z0, z1, hr⟩ := h
  obtain ⟨A1, k1, hA0, hc1, hc2, hby, hE⟩ := rSl.elems hr
  obtain ⟨b, off, x, _, _, _, hx, hxl, _⟩ := hE.str (i := 0) (by simp)
  obtain rfl : s = x := L0s hx
  exact hxl
theorem Z94 {q : Nat} {r : Rs} (w : World) (h : RdAt w q r) :
  Calls Tryz.prog 74 #[.pointer (some (zn q 0))] w fun e w' => e = .returned (.string ⟨(Z2u r).1.toArray⟩) /\ RdAt w' q (Z2u r).2 /\ Only q w w' := by
 have HN := L0 (Y2b w h)
 have hsl := h.wlen
 obtain ⟨⟨s, l1, b1⟩, hn⟩ : ∃ x, Z3j r = x := ⟨_, rfl⟩
 have HR : Hid (Z2u r = (s, ⟨l1, b1 || !Z1e s⟩)) := L0 (by unfold Z2u; rw [hn])
 rw [hn] at HN hsl
 rw [HR.o]
 obtain ⟨f, hf⟩ : ∃ x, Z1e s = x := ⟨_, rfl⟩
 have HM : Hid (∀ w, Calls Tryz.prog 33 #[sq s] w fun e w' => e = .returned (.bool f) /\ w = w') := L0 fun w => hf ▸ Z4j s w hsl
 rw [hf]
 clear hn hf h
 go_enter Tryz.func74, Tryz.ntmps74
 cases b1
 all_goals
  go_wp2_with (first | (go_at_call 104; (with_reducible refine HN.o.mono ?_); rintro e w1 ⟨rfl, h1, o1⟩; obtain ⟨k1, z1⟩ := h1.bad; have H1 := L0 h1; have O1 := L0 o1; clear h1 o1) | (go_at_call 33; (with_reducible refine (HM.o w1).mono ?_); rintro e w2 ⟨rfl, rfl⟩))
  go_ret
  exact ⟨rfl, H1.o.setBad _, O1.out.trans (Only.set _ _ _)⟩
theorem X1j {s : Txt} {v : Int} (h : jA s = .ok v) : Z6r s = if Lib.itoa v = s /\ -1000000 <= v /\ v <= 1000000 then some v else none := by unfold Z6r; rw [h]
theorem X1i {s : Txt} (h : ∀ v, jA s ≠ .ok v) : Z6r s = none := by
 unfold Z6r
 split
 ·rename_i v hv; exact absurd hv (h v)
 rfl
theorem X27 {s : Txt} {v : Int} (h : jA s = .ok v) : InI v := by
 unfold jA at h
 split at h
 ·cases h
 rename_i c r
 dsimp only at h
 split at h
 ·cases h
 ·cases h
 rename_i u hu
 split at h
 ·cases h
 split at h
 ·cases h
 rename_i h1 h2
 have hv : (if c.toNat = 45 then -(u : Int) else (u : Int)) = v := by injection h
 unfold InI
 by_cases hc : c.toNat = 45
 ·rw [if_pos hc] at hv
  have : ¬ 9223372036854775808 < u := fun h => h2 ⟨hc, h⟩
  omega
 rw [if_neg hc] at hv
 have : ¬ 9223372036854775808 <= u := fun h => h1 ⟨hc, h⟩
 omega
theorem Z3s {q : Nat} {r : Rs} (w : World) (h : RdAt w q r) (hq : ∀ w', Only q w w' -> LibW w') :
  Calls Tryz.prog 75 #[.pointer (some (zn q 0))] w fun e w' => e = .returned (.int .i64 (Z0l r).1) /\ RdAt w' q (Z0l r).2 /\ Only q w w' := by
 have HN := L0 (Y2b w h)
 have hsl := h.wlen
 obtain ⟨⟨s, l1, b1⟩, hn⟩ : ∃ x, Z3j r = x := ⟨_, rfl⟩
 have HR : Hid (Z0l r = match Z6r s with | some v => (v, ⟨l1, b1⟩) | none => (0, ⟨l1, true⟩)) := L0 (by unfold Z0l; rw [hn])
 rw [hn] at HN hsl
 rw [HR.o]
 have HL := L0 hq
 have HSL := L0 hsl
 clear hn h hq hsl
 by_cases hok : ∃ v, jA s = .ok v
 ·obtain ⟨v, hv⟩ := hok
  have HV := L0 hv
  have HIN := L0 (X27 hv)
  have HNO := L0 (X1j hv)
  obtain ⟨t, ht⟩ : ∃ x, Lib.itoa v = x := ⟨_, rfl⟩
  have HIT : Hid (∀ w, LibW w -> Calls Tryz.prog 87 #[.int .i64 v] w fun e w' => e = .returned (sq t) /\ Bw w w') := L0 fun w hw => ht ▸ Z4t v HIN.o w hw
  rw [ht] at HNO
  clear hv ht
  go_enter Tryz.func75, Tryz.ntmps75
  by_cases hts : t = s
  ·subst hts
   have htt : (t != t) = false := by simp
   by_cases h1 : v < -1000000
   ·have HE : Hid (Z6r t = none) := L0 (by rw [HNO.o, if_neg (by omega)])
    rw [HE.o]
    go_wp2_with (first | (go_at_call 104; (with_reducible refine HN.o.mono ?_); rintro e w1 ⟨rfl, h1, o1⟩; have H1 := L0 h1; have O1 := L0 o1; have L1 := L0 (HL.o _ o1); clear h1 o1) | (go_at_call 105; (with_reducible refine (Y1g _ HSL.o v HV.o w1).mono ?_); rintro e w2 ⟨rfl, hb2⟩; have H2 := L0 (H1.o.below hb2); have O2 := L0 (O1.out.trans (Only.below hb2)); have L2 := L0 (L1.out.below hb2); clear hb2) | (go_at_call 87; (with_reducible refine (HIT.o w2 L2.out).mono ?_); rintro e w3 ⟨rfl, hb3⟩; have h3 := H2.o.below hb3; obtain ⟨k1, z1⟩ := h3.bad; have H3 := L0 h3; have O3 := L0 (O2.out.trans (Only.below hb3)); clear hb3 h3))
    go_ret
    exact ⟨rfl, H3.o.setBad true, O3.out.trans (Only.set _ _ _)⟩
   by_cases h2 : 1000000 < v
   ·have HE : Hid (Z6r t = none) := L0 (by rw [HNO.o, if_neg (by omega)])
    rw [HE.o]
    go_wp2_with (first | (go_at_call 104; (with_reducible refine HN.o.mono ?_); rintro e w1 ⟨rfl, h1, o1⟩; have H1 := L0 h1; have O1 := L0 o1; have L1 := L0 (HL.o _ o1); clear h1 o1) | (go_at_call 105; (with_reducible refine (Y1g _ HSL.o v HV.o w1).mono ?_); rintro e w2 ⟨rfl, hb2⟩; have H2 := L0 (H1.o.below hb2); have O2 := L0 (O1.out.trans (Only.below hb2)); have L2 := L0 (L1.out.below hb2); clear hb2) | (go_at_call 87; (with_reducible refine (HIT.o w2 L2.out).mono ?_); rintro e w3 ⟨rfl, hb3⟩; have h3 := H2.o.below hb3; obtain ⟨k1, z1⟩ := h3.bad; have H3 := L0 h3; have O3 := L0 (O2.out.trans (Only.below hb3)); clear hb3 h3))
    go_ret
    exact ⟨rfl, H3.o.setBad true, O3.out.trans (Only.set _ _ _)⟩
   have HE : Hid (Z6r t = some v) := L0 (by rw [HNO.o, if_pos ⟨rfl, by omega, by omega⟩])
   rw [HE.o]
   go_wp2_with (first | (go_at_call 104; (with_reducible refine HN.o.mono ?_); rintro e w1 ⟨rfl, h1, o1⟩; have H1 := L0 h1; have O1 := L0 o1; have L1 := L0 (HL.o _ o1); clear h1 o1) | (go_at_call 105; (with_reducible refine (Y1g _ HSL.o v HV.o w1).mono ?_); rintro e w2 ⟨rfl, hb2⟩; have H2 := L0 (H1.o.below hb2); have O2 := L0 (O1.out.trans (Only.below hb2)); have L2 := L0 (L1.out.below hb2); clear hb2) | (go_at_call 87; (with_reducible refine (HIT.o w2 L2.out).mono ?_); rintro e w3 ⟨rfl, hb3⟩; have h3 := H2.o.below hb3; obtain ⟨k1, z1⟩ := h3.bad; have H3 := L0 h3; have O3 := L0 (O2.out.trans (Only.below hb3)); clear hb3 h3))
   go_ret
   exact ⟨rfl, H3.o, O3.out⟩
  have htt : (t != s) = true := by simpa using hts
  have htf : (t == s) = false := by simpa using hts
  have HE : Hid (Z6r s = none) := L0 (by rw [HNO.o, if_neg (fun h => hts h.1)])
  rw [HE.o]
  go_wp2_with (first | (go_at_call 104; (with_reducible refine HN.o.mono ?_); rintro e w1 ⟨rfl, h1, o1⟩; have H1 := L0 h1; have O1 := L0 o1; have L1 := L0 (HL.o _ o1); clear h1 o1) | (go_at_call 105; (with_reducible refine (Y1g _ HSL.o v HV.o w1).mono ?_); rintro e w2 ⟨rfl, hb2⟩; have H2 := L0 (H1.o.below hb2); have O2 := L0 (O1.out.trans (Only.below hb2)); have L2 := L0 (L1.out.below hb2); clear hb2) | (go_at_call 87; (with_reducible refine (HIT.o w2 L2.out).mono ?_); rintro e w3 ⟨rfl, hb3⟩; have h3 := H2.o.below hb3; obtain ⟨k1, z1⟩ := h3.bad; have H3 := L0 h3; have O3 := L0 (O2.out.trans (Only.below hb3)); clear hb3 h3))
  go_ret
  exact ⟨rfl, H3.o.setBad true, O3.out.trans (Only.set _ _ _)⟩
 have HE : Hid (Z6r s = none) := L0 (X1i fun v h => hok ⟨v, h⟩)
 have HK : Hid (∀ v, jA s ≠ .ok v) := L0 fun v h => hok ⟨v, h⟩
 rw [HE.o]
 clear hok
 go_enter Tryz.func75, Tryz.ntmps75
 go_wp2_with (first | (go_at_call 104; (with_reducible refine HN.o.mono ?_); rintro e w1 ⟨rfl, h1, o1⟩; have H1 := L0 h1; have O1 := L0 o1; have L1 := L0 (HL.o _ o1); clear h1 o1) | (go_at_call 105; (with_reducible refine (X2k _ HSL.o HK.o w1 L1.out).mono ?_); rintro e w3 ⟨n3, N3, rfl, hb3⟩; have h3 := H1.o.below hb3; obtain ⟨k1, z1⟩ := h3.bad; have H3 := L0 h3; have O3 := L0 (O1.out.trans (Only.below hb3)); clear hb3 h3))
 go_ret
 exact ⟨rfl, H3.o.setBad true, O3.out.trans (Only.set _ _ _)⟩
theorem Z75 (r : Rs) : -1000000 <= (Z0l r).1 /\ (Z0l r).1 <= 1000000 := by
 unfold Z0l
 cases h : Z6r (Z3j r).1 with
 | none => exact ⟨by dsimp only; omega, by dsimp only; omega⟩
 | some v =>
  unfold Z6r at h
  split at h
  ·split at h
   ·rename_i h1
    injection h with h
    subst h
    exact h1.2
   cases h
  cases h
theorem Z9x (r : Rs) : (Z3j r).2.l.length <= r.l.length := by
 unfold Z3j
 split <;> simp_all
theorem Z2i (r : Rs) (s : Txt) : (atR r s).2.l.length <= r.l.length := by
 unfold atR
 split
 ·simp
 split <;> simp_all
theorem Z5l {r : Rs} {s : Txt} (h : (atR r s).1 = true) : (atR r s).2.l.length < r.l.length := by
 unfold atR at h ⊢
 split
 ·rename_i e; rw [e] at h; cases h
 rename_i x l e
 rw [e] at h
 dsimp only at h
 split
 ·simp [e]
 rename_i hx; rw [if_neg hx] at h; cases h
theorem Z3q (r : Rs) : (Z0l r).2.l.length <= r.l.length := by
 unfold Z0l
 have := Z9x r
 split <;> exact this
def Z1s (r : Rs) : Rg × Rs :=
 if (atR (Z0l r).2 [46, 46]).1 then
  (((Z0l r).1, (Z0l (atR (Z0l r).2 [46, 46]).2).1), ⟨(Z0l (atR (Z0l r).2 [46, 46]).2).2.l, (Z0l (atR (Z0l r).2 [46, 46]).2).2.bad || decide ((Z0l (atR (Z0l r).2 [46, 46]).2).1 <= (Z0l r).1)⟩)
 else (((Z0l r).1, (Z0l r).1), (atR (Z0l r).2 [46, 46]).2)
theorem Z6c (r : Rs) : (Z1s r).2.l.length <= r.l.length := by
 unfold Z1s
 have h1 := Z3q r
 have h2 := Z2i (Z0l r).2 [46, 46]
 have h3 := Z3q (atR (Z0l r).2 [46, 46]).2
 split <;> dsimp only <;> omega
def Z3o : Nat -> Rs -> List Rg -> List Rg × Rs
 | 0, r, acc => (acc, r)
 | f + 1, r, acc => if r.bad then (acc, r) else if (atR (Z1s r).2 [124]).1 then Z3o f (atR (Z1s r).2 [124]).2 (acc ++ [(Z1s r).1]) else (acc ++ [(Z1s r).1], (atR (Z1s r).2 [124]).2)
def Z10 (r : Rs) (acc : List Rg) : List Rg × Rs := Z3o (r.l.length + 1) r acc
theorem Y6x : ∀ (f g : Nat) (r : Rs) (acc : List Rg), r.l.length < f -> r.l.length < g -> Z3o f r acc = Z3o g r acc := by
 intro f
 induction f with
 | zero => intro g r acc h; omega
 | succ f ih =>
  intro g r acc h hg
  cases g with
  | zero => omega
  | succ g =>
   simp only [Z3o]
   split
   ·rfl
   split
   ·rename_i h1
    have h2 := Z5l h1
    have h3 := Z6c r
    exact ih g _ _ (by omega) (by omega)
   rfl
theorem Y4w {r : Rs} (acc : List Rg) (h : r.bad = true) : Z10 r acc = (acc, r) := by
 unfold Z10
 simp only [Z3o]
 rw [if_pos h]
theorem Z54 {r r5 r6 : Rs} {x : Rg} (acc : List Rg) (h : r.bad = false) (h1 : Z1s r = (x, r5)) (h2 : atR r5 [124] = (true, r6)) : Z10 r acc = Z10 r6 (acc ++ [x]) := by
 have e1 : Z10 r acc = Z3o r.l.length (atR (Z1s r).2 [124]).2 (acc ++ [(Z1s r).1]) := by
  unfold Z10
  simp only [Z3o]
  rw [if_neg (by simp [h]), if_pos (by rw [h1, h2])]
 rw [e1, h1, h2]
 have h4 : (atR r5 [124]).2.l.length < r5.l.length := Z5l (by rw [h2])
 have h3 := Z6c r
 rw [h1] at h3
 rw [h2] at h4
 dsimp only at h3 h4
 show Z3o r.l.length r6 (acc ++ [x]) = Z3o (r6.l.length + 1) r6 (acc ++ [x])
 exact Y6x _ _ _ _ (by omega) (by omega)
theorem Z4w {r r5 r6 : Rs} {x : Rg} (acc : List Rg) (h : r.bad = false) (h1 : Z1s r = (x, r5)) (h2 : atR r5 [124] = (false, r6)) : Z10 r acc = (acc ++ [x], r6) := by
 unfold Z10
 simp only [Z3o]
 rw [if_neg (by simp [h]), if_neg (by rw [h1, h2]; simp), h1, h2]
def Z3v (r : Rs) : Cl × Rs :=
 if (atR r [42]).1 then (⟨false, []⟩, (atR r [42]).2)
 else (⟨(atR (atR r [42]).2 [110, 111, 116]).1, (Z10 (atR (atR r [42]).2 [110, 111, 116]).2 []).1⟩, (Z10 (atR (atR r [42]).2 [110, 111, 116]).2 []).2)
def Y7j (w : World) (q : Nat) : Nat := match w.cell? (zn q 0) with | some (.slice _ n _) => n | _ => 0
theorem RdAt.len {w : World} {q : Nat} {r : Rs} (h : RdAt w q r) : Y7j w q = r.l.length := by
 obtain ⟨A, c, h0, _⟩ := h
 unfold Y7j
 rw [h0]
theorem Own.other {α : Type} {R : Rd α} {e : TypeId} {w : World} {base : Nat} {S0 : Nat -> Prop} {v : Value} {xs : List α} (h : Own R e w base S0 v xs) (hF : Flat R) {b i : Nat} (ha : ∀ g, v.ownBlock = some g -> g ≠ b) (u : Value) : Own R e (w.setCell (zn b i) u) base (fun _ => False) v xs := by
 obtain ⟨S, ⟨cells, h1, _, h3, h4⟩, _⟩ := h
 refine ⟨fun _ => False, ⟨cells, h1.kept (Z0u w (zn b i) u) ?_, fun _ _ h => h, h3, fun i x hx => hF _ _ _ _ _ _ (h4 i x hx)⟩, fun _ h => h.elim⟩
 cases hv : v.ownBlock with
 | none => exact .inl rfl
 | some g => exact .inr fun e => ha g hv (by injection e)
theorem Only.trans_below {q : Nat} {w w' w'' : World} (h : Only q w w') {B : Nat} (hb : Below B w' w'') (hB : w.heap.size <= B) : Only q w w'' :=
 ⟨hb.os.trans h.os, hb.tape.trans h.tape, hb.output.trans h.output, L0h h.size hb.size, fun k hk hne => (hb.block k (L0c hk hB)).trans (h.block k hk hne)⟩
theorem Only.new {q : Nat} {w w' : World} (h : Only q w w') {b : Nat} (hb : w.heap.size <= b) (i : Nat) (u : Value) : Only q w (w'.setCell (zn b i) u) :=
 ⟨h.os, h.tape, h.output, by simpa using h.size, fun k hk hne => (L3 w' (zn b i) u k (by show k ≠ b; omega)).trans (h.block k hk hne)⟩
structure CellI (w : World) (q q2 q3 B0 : Nat) (no : Bool) (r : Rs) (u : Value) (acc : List Rg) (wr : World) : Prop where
 rd : RdAt wr q r
 c0 : wr.cell? (zn q3 0) = some (.bool no)
 c1 : wr.cell? (zn q3 1) = some u
 z1 : wr.frozen? (zn q3 1) = false
 f0 : wr.cell? (zn q2 0) = some (.bool false)
 f1 : wr.cell? (zn q2 1) = some (nl)
 y : ∀ i, wr.frozen? (zn q2 i) = false
 own : Own rRg 74 wr B0 (fun _ => False) u acc
 only : Only q w wr
 hB : B0 <= wr.heap.size
 hq : q < w.heap.size /\ w.heap.size <= q2 /\ q2 < q3 /\ q3 < B0
theorem CellI.step {w : World} {q q2 q3 B0 : Nat} {no : Bool} {r r' : Rs} {u : Value} {acc : List Rg} {wr wr' : World} (h : CellI w q q2 q3 B0 no r u acc wr) (ho : Only q wr wr') (hr : RdAt wr' q r') : CellI w q q2 q3 B0 no r' u acc wr' := by
 obtain ⟨h1, h2, h3, h4⟩ := h.hq
 have hB := h.hB
 have n2 : q2 ≠ q := by omega
 have n3 : q3 ≠ q := by omega
 exact ⟨hr, (ho.cell (by omega) n3 0).trans h.c0, (ho.cell (by omega) n3 1).trans h.c1, (ho.frozen (by omega) n3 1).trans h.z1, (ho.cell (by omega) n2 0).trans h.f0, (ho.cell (by omega) n2 1).trans h.f1, fun i => (ho.frozen (by omega) n2 i).trans (h.y i),
  h.own.only ho (by omega), h.only.trans ho, L0h hB ho.size, h.hq⟩
theorem CellI.later {w : World} {q q2 q3 B0 : Nat} {no : Bool} {r : Rs} {u : Value} {acc : List Rg} {wr : World} (h : CellI w q q2 q3 B0 no r u acc wr) {b : Nat} (hb : B0 <= b) (hu : ∀ g, u.ownBlock = some g -> g ≠ b) {i : Nat} {v : Value} (ho : Only q w (wr.setCell (zn b i) v)) : CellI w q q2 q3 B0 no r u acc (wr.setCell (zn b i) v) := by
 obtain ⟨h1, h2, h3, h4⟩ := h.hq
 have n3 : ¬ (b = q3) := by omega
 have n2 : ¬ (b = q2) := by omega
 exact ⟨h.rd.other (by omega) _ _, (L0a _ _ _ _ (by simp <;> omega)).trans h.c0, (L0a _ _ _ _ (by simp <;> omega)).trans h.c1, by rw [L0k]; exact h.z1, (L0a _ _ _ _ (by simp <;> omega)).trans h.f0, (L0a _ _ _ _ (by simp <;> omega)).trans h.f1, fun j => by rw [L0k]; exact h.y j,
  h.own.other Y57 hu _, ho, by simpa using h.hB, h.hq⟩
theorem CellI.grow {w : World} {q q2 q3 B0 : Nat} {no : Bool} {r : Rs} {u v : Value} {acc acc' : List Rg} {wr w' : World} (h : CellI w q q2 q3 B0 no r u acc wr) (hb : Below B0 wr w') (ho : Own rRg 74 w' B0 (fun _ => False) v acc') : CellI w q q2 q3 B0 no r v acc' (w'.setCell (zn q3 1) v) /\ w'.cell? (zn q3 1) = some u /\ w'.frozen? (zn q3 1) = false := by
 obtain ⟨h1, h2, h3, h4⟩ := h.hq
 have n2 : ¬ (q3 = q2) := by omega
 have n0 : ¬ (q3 = q) := by omega
 have k := (hb.ce 1 h4).trans h.c1
 have z := (hb.fr 1 h4).trans h.z1
 have hrd : RdAt w' q r := by
  obtain ⟨A, c, a0, a1, b0, b1, hr⟩ := h.rd
  have hq : q < B0 := by omega
  exact ⟨A, c, (hb.ce 0 hq).trans a0, (hb.ce 1 hq).trans a1, (hb.fr 0 hq).trans b0, (hb.fr 1 hq).trans b1, (rSl rStr).keep hr (.of_belowB hb fun b hb' => by omega)⟩
 have hon : Only q w w' := h.only.trans_below hb (by omega)
 refine ⟨⟨hrd.other (by omega) _ _, (cso).trans ((hb.ce 0 h4).trans h.c0), L0e _ _ _ k, by rw [L0k]; exact z, (L0a _ _ _ _ (by simp <;> omega)).trans ((hb.cell (p := (zn q2 0)) (by show q2 < _; omega)).trans h.f0), (L0a _ _ _ _ (by simp <;> omega)).trans ((hb.cell (p := (zn q2 1)) (by show q2 < _; omega)).trans h.f1), fun i => by rw [L0k]; exact (hb.frozen (p := (zn q2 i)) (by show q2 < _; omega)).trans (h.y i),
  ho.other Y57 (fun g hg => by have := (ho.lt g hg).1; omega) _, hon.new (by omega) _ _, by have := h.hB; have := hb.size; simp; omega, h.hq⟩, k, z⟩
theorem CellI.mark {w : World} {q q2 q3 B0 : Nat} {no : Bool} {r : Rs} {u : Value} {acc : List Rg} {wr : World} (h : CellI w q q2 q3 B0 no r u acc wr) (X : Bool) {b : Nat} (hb : q < b) {x y : Value} (m0 : wr.cell? (zn b 0) = some x) (m1 : wr.cell? (zn b 1) = some y) :
  ∃ W6, wr.setCell (zn q 1) (.bool X) = W6 /\ Hid (CellI w q q2 q3 B0 no ⟨r.l, X⟩ u acc W6) /\ W6.cell? (zn b 0) = some x /\ W6.cell? (zn b 1) = some y /\ W6.cell? (zn q3 1) = some u := by
 have hne : ¬ (q = b) := by omega
 have k := h.step (Only.set _ _ _) (h.rd.setBad X)
 exact ⟨_, rfl, L0 k, (cso).trans m0, (L0a _ _ _ _ (by simp <;> omega)).trans m1, k.c1⟩
theorem CellI.second {w : World} {q q2 q3 B0 : Nat} {no : Bool} {r : Rs} {u : Value} {acc : List Rg} {wr : World} (h : CellI w q q2 q3 B0 no r u acc wr) {b : Nat} (hB : B0 <= b) (hq : q < b) (hw : w.heap.size <= b) (hu : ∀ g, u.ownBlock = some g -> g ≠ b) {x y : Value} (v : Value) (p0 : wr.cell? (zn b 0) = some x) (p1 : wr.cell? (zn b 1) = some y) :
  ∃ W5, wr.setCell (zn b 1) v = W5 /\ Hid (CellI w q q2 q3 B0 no r u acc W5) /\ W5.cell? (zn b 0) = some x /\ W5.cell? (zn b 1) = some v /\ W5.cell? (zn q 1) = some (.bool r.bad) /\ W5.frozen? (zn q 1) = false :=
 ⟨_, rfl, L0 (h.later hB hu (h.only.new hw _ _)), (cso).trans p0, L0e _ _ _ p1, (h.rd.other hq _ _).bad.1, (h.rd.other hq _ _).bad.2⟩
theorem Y94 {w : World} {q : Nat} {u0 u1 : Value} (v0 v1 : Value) (h0 : w.cell? (zn q 0) = some u0) (h1 : w.cell? (zn q 1) = some u1) :
  ∃ W, (w.setCell (zn q 0) v0).setCell (zn q 1) v1 = W /\ W.cell? (zn q 0) = some v0 /\ W.cell? (zn q 1) = some v1 := by
 have o : ∀ (w : World) (i j : Nat) (v : Value), i ≠ j -> (w.setCell (zn q i) v).cell? (zn q j) = w.cell? (zn q j) := fun w i j v h => L0a _ _ _ _ (by simp <;> omega)
 refine ⟨_, rfl, ?_, ?_⟩
 ·rw [o _ 1 0 _ (by decide)]
  exact L0e _ _ _ h0
 exact L0e _ _ _ ((o _ 0 1 _ (by decide)).trans h1)
theorem CellI.start {w W0 w2 : World} {q : Nat} {no : Bool} {r : Rs} {ty : TypeId} (f0 : W0.cell? (zn w.heap.size 0) = some (.bool false)) (f1 : W0.cell? (zn w.heap.size 1) = some (nl)) (y : ∀ i, W0.frozen? (zn w.heap.size i) = false) (hs : w.heap.size < W0.heap.size) (hq : q < w.heap.size) (ho : Only q w W0) (hr : RdAt w2 q r) (h2 : Only q W0 w2) :
  ∃ W3, w2.alloc (.cells #[.bool no, nl] ty) = W3 /\ W3.frozen? (zn w2.heap.size 1) = false /\ W3.cell? (zn w2.heap.size 1) = some (nl) /\ ∃ W4, W3.setCell (zn w2.heap.size 1) (nl) = W4 /\ Hid (CellI w q w.heap.size w2.heap.size W3.heap.size no r (nl) [] W4) /\ Hid (w2.heap.size < W3.heap.size) := by
 have hne : w.heap.size ≠ q := by omega
 have hs2 := h2.size
 have hlt : w.heap.size < w2.heap.size := by omega
 have k : (w2.alloc (.cells #[.bool no, nl] ty)).cell? (zn w2.heap.size 1) = some (nl) := L0b _ _ _ _
 have n2 : ¬ (w2.heap.size = w.heap.size) := by omega
 refine ⟨_, rfl, by simp, k, _, rfl, L0 ⟨(hr.alloc _).other (by omega) _ _, (cso).trans (L0b _ _ _ _), L0e _ _ _ k, by rw [L0k]; simp, ?_, ?_, fun i => ?_, Own.nil _ _ _ _ _, ((ho.trans h2).trans (Only.alloc _ _)).new (by omega) _ _, by simp, ⟨hq, L0g _, hlt, by simp⟩⟩, L0 (by simp)⟩
 ·exact (L0a _ _ _ _ (by simp <;> omega)).trans ((L0j _ _ _ hlt).trans ((h2.cell hs hne 0).trans f0))
 ·exact (L0a _ _ _ _ (by simp <;> omega)).trans ((L0j _ _ _ hlt).trans ((h2.cell hs hne 1).trans f1))
 rw [L0k]
 exact (((L0m w2.heap.size w2).alloc (L0g _) (.cells #[.bool no, nl] ty)).fr i hlt).trans ((h2.frozen hs hne i).trans (y i))
theorem CellI.done {w : World} {q q2 q3 B0 : Nat} {no : Bool} {r : Rs} {u : Value} {acc : List Rg} {wr : World} (h : CellI w q q2 q3 B0 no r u acc wr) : ∃ W, (wr.setCell (zn q2 0) (.bool no)).setCell (zn q2 1) u = W /\ W.cell? (zn q2 0) = some (.bool no) /\ W.cell? (zn q2 1) = some u /\ Hid (Own rRg 74 W w.heap.size (fun _ => False) u acc /\ RdAt W q r /\ Only q w W) := by
 obtain ⟨h1, h2, h3, h4⟩ := h.hq
 obtain ⟨W, e, n0, n1⟩ := Y94 (.bool no) u h.f0 h.f1
 have hlt := h.own.lt
 refine ⟨W, e, n0, n1, L0 ?_⟩
 rw [<- e]
 have hne : ∀ g, u.ownBlock = some g -> g ≠ q2 := fun g hg => by have := (hlt g hg).1; omega
 exact ⟨((h.own.other Y57 hne _).other Y57 hne _).lower (by omega), (h.rd.other (by omega) _ _).other (by omega) _ _, (h.only.new h2 _ _).new h2 _ _⟩
theorem Y9l {q : Nat} {r : Rs} (w : World) (h : RdAt w q r) (hl : r.l.length <= 4000) (hq : ∀ w', Only q w w' -> LibW w') :
  Calls Tryz.prog 106 #[.pointer (some (zn q 0))] w fun e w' => ∃ v, e = .returned (.agg #[.bool (Z3v r).1.no, v]) /\ Own rRg 74 w' w.heap.size (fun _ => False) v (Z3v r).1.rs /\ RdAt w' q (Z3v r).2 /\ Only q w w' := by
 have hql := h.lt
 obtain ⟨W0, e0, HR0, y0, HO0, hs0⟩ : ∃ W0, w.alloc (.cells #[.bool false, nl] 72) = W0 /\ Hid (RdAt W0 q r) /\ (∀ i, W0.frozen? (zn w.heap.size i) = false) /\ Hid (Only q w W0) /\ Hid (w.heap.size < W0.heap.size) := ⟨_, rfl, L0 (h.alloc _), fun i => by simp, L0 (Only.alloc _ _), L0 (by simp)⟩; have f0 := ac0 e0; have f1 := ac1 e0
 have HS0 := hs0
 have HQL := L0 hql
 have HL := L0 hq
 have HLN := L0 hl
 obtain ⟨⟨s1, r1⟩, h1⟩ : ∃ x, atR r [42] = x := ⟨_, rfl⟩
 have HAT1 : Hid (Calls Tryz.prog 73 #[.pointer (some (zn q 0)), .string ⟨#[42]⟩] W0 fun e w' => e = .returned (.bool s1) /\ RdAt w' q r1 /\ Only q W0 w') := L0 (by have := Z3z [42] W0 HR0.o; rw [h1] at this; exact this)
 have HLN1 : Hid (r1.l.length <= r.l.length) := L0 (by have := Z2i r [42]; rw [h1] at this; exact this)
 have HF0 := L0 f0
 have HF1 := L0 f1
 have HY0 := L0 y0
 clear h hl hq hql y0
 go_enter Tryz.func106, Tryz.ntmps106
 cases s1
 ·obtain ⟨⟨no, r2⟩, h2⟩ : ∃ x, atR r1 [110, 111, 116] = x := ⟨_, rfl⟩
  have HCR : Hid (Z3v r = (⟨no, (Z10 r2 []).1⟩, (Z10 r2 []).2)) := L0 (by unfold Z3v; rw [h1]; dsimp only; rw [h2]; rfl)
  have HAT2 : Hid (∀ w, RdAt w q r1 -> Calls Tryz.prog 73 #[.pointer (some (zn q 0)), .string ⟨#[110, 111, 116]⟩] w fun e w' => e = .returned (.bool no) /\ RdAt w' q r2 /\ Only q w w') := L0 fun w hr => by have := Z3z [110, 111, 116] w hr; rw [h2] at this; exact this
  have HLN2 : Hid (r2.l.length <= 4000) := L0 (by have := Z2i r1 [110, 111, 116]; rw [h2] at this; have := HLN1.o; have := HLN.o; dsimp only at *; omega)
  rw [HCR.o]
  clear h1 h2
  dsimp only
  obtain ⟨⟨fin, rfin⟩, hfin⟩ : ∃ x, Z10 r2 [] = x := ⟨_, rfl⟩
  have HFIN := L0 hfin
  rw [hfin]
  clear hfin
  dsimp only
  go_wp2_with (first
   | (go_at_call 73; first
    | ((with_reducible refine HAT1.o.mono ?_); rintro e w1 ⟨rfl, hr1, o1⟩; have H1 := L0 hr1; have O1 := L0 o1; clear hr1 o1)
    | ((with_reducible refine (HAT2.o w1 H1.o).mono ?_); rintro e w2 ⟨rfl, hr2, o2⟩; have H2 := L0 hr2; have O2 := L0 (O1.out.trans o2); clear hr2 o2; obtain ⟨W3, e3, z3, k3, W4, e4, HCI, HS3⟩ : ∃ W3, w2.alloc (.cells #[.bool no, nl] 72) = W3 /\ W3.frozen? (zn w2.heap.size 1) = false /\ W3.cell? (zn w2.heap.size 1) = some (nl) /\ ∃ W4, W3.setCell (zn w2.heap.size 1) (nl) = W4 /\ Hid (CellI w q w.heap.size w2.heap.size W3.heap.size no r2 (nl) [] W4) /\ Hid (w2.heap.size < W3.heap.size) := CellI.start HF0.o HF1.o HY0.o HS0.o HQL.o HO0.o H2.o O2.out)))
  clear e0 e3 e4 z3 k3 f0 f1 hs0
  try unfold Bw at *
  generalize hq3 : w2.heap.size = q3 at *
  try unfold Bw at *
  generalize hB0 : W3.heap.size = B0 at *
  clear hq3 hB0
  obtain ⟨q2, hq2⟩ : ∃ n, w.heap.size = n := ⟨_, rfl⟩
  rw [hq2] at HCI HQL
  rw [hq2]
  clear hq2
  go_loopw [] (fun wr => ∃ (rr : Rs) (acc : List Rg) (u : Value), wr.cell? (zn q 1) = some (.bool rr.bad) /\ wr.cell? (zn q3 0) = some (.bool no) /\ wr.cell? (zn q3 1) = some u /\ Hid (CellI w q q2 q3 B0 no rr u acc wr) /\ Hid (Z10 rr acc = (fin, rfin)) /\ Hid (acc.length + rr.l.length <= 4000)) (fun wr => Y7j wr q)
  exact ⟨r2, [], _, HCI.o.rd.bad.1, HCI.o.c0, HCI.o.c1, HCI, HFIN, L0 (by simpa using HLN2.o)⟩
  clear HCI HFIN HLN2
  obtain ⟨⟨l1, b1⟩, acc, u, k0, k1, k2, HCI, HCE, HLA⟩ := hrel
  cases b1
  ·obtain ⟨Au, lu, rfl⟩ := HCI.o.own.value
   have hli := Z75 ⟨l1, false⟩
   obtain ⟨⟨n, r2'⟩, hn⟩ : ∃ x, Z0l ⟨l1, false⟩ = x := ⟨_, rfl⟩
   rw [hn] at hli
   have hlen1 := Z3q ⟨l1, false⟩
   rw [hn] at hlen1
   obtain ⟨⟨b, r3⟩, hp1⟩ : ∃ x, atR r2' [46, 46] = x := ⟨_, rfl⟩
   have hlen2 := Z2i r2' [46, 46]
   rw [hp1] at hlen2
   have HN1 : Hid (Calls Tryz.prog 75 #[.pointer (some (zn q 0))] wr fun e w' => e = .returned (.int .i64 n) /\ RdAt w' q r2' /\ Only q wr w') := L0 (by have := Z3s wr HCI.o.rd (fun w' ho => HL.o _ (HCI.o.only.trans ho)); rw [hn] at this; exact this)
   have HP1 : Hid (∀ w, RdAt w q r2' -> Calls Tryz.prog 73 #[.pointer (some (zn q 0)), .string ⟨#[46, 46]⟩] w fun e w' => e = .returned (.bool b) /\ RdAt w' q r3 /\ Only q w w') := L0 fun w hr => by have := Z3z [46, 46] w hr; rw [hp1] at this; exact this
   have HBY : Hid ((acc.length + 1) * rRg.bytes <= 140737488355328) := L0 (by have := HLA.o; dsimp only at this; simp only [rRg]; omega)
   cases b
   ·obtain ⟨⟨p, r6⟩, hp2⟩ : ∃ x, atR r3 [124] = x := ⟨_, rfl⟩
    have hx : Z1s ⟨l1, false⟩ = ((n, n), r3) := by unfold Z1s; rw [hn]; dsimp only; rw [hp1]; rfl
    have HP2 : Hid (∀ w, RdAt w q r3 -> Calls Tryz.prog 73 #[.pointer (some (zn q 0)), .string ⟨#[124]⟩] w fun e w' => e = .returned (.bool p) /\ RdAt w' q r6 /\ Only q w w') := L0 fun w hr => by have := Z3z [124] w hr; rw [hp2] at this; exact this
    have HNI : Hid (InI n /\ InI n) := L0 (by unfold InI; dsimp only at hli; omega)
    cases p
    ·have HCE2 := L0 ((Z4w acc rfl hx hp2).symm.trans HCE.o)
     clear hn hp1 hp2 hx hli hlen1 hlen2
     go_wp2_with (first | (go_at_call 75; first | ((with_reducible refine HN1.o.mono ?_); rintro e w1 ⟨rfl, hr1, o1⟩; have o1' := HCI.o.only.trans o1; obtain ⟨W2, e2, HC2, y2, HS2⟩ : ∃ W2, w1.alloc (.cells #[.int .i64 n, .int .i64 n] 74) = W2 /\ Hid (CellI w q q2 q3 B0 no r2' (.slice Au acc.length lu) acc W2) /\ W2.frozen? (zn w1.heap.size 1) = false /\ Hid (w1.heap.size < W2.heap.size /\ B0 <= w1.heap.size /\ q < w1.heap.size /\ w.heap.size <= w1.heap.size /\ ∀ g, (Value.slice Au acc.length lu).ownBlock = some g -> g ≠ w1.heap.size) := ⟨_, rfl, L0 ((HCI.o.step o1 hr1).step (Only.alloc _ _) (hr1.alloc _)), by simp, L0 ⟨by simp, L0h HCI.o.hB o1.size, hr1.lt, o1'.size, fun g hg => (by (have := (HCI.o.own.lt g hg).2; have := o1.size; omega))⟩⟩; have j0 := ac0 e2; have j1 := ac1 e2; clear hr1 o1 o1')) | (go_at_call 73; first | ((with_reducible refine (HP1.o W2 HC2.o.rd).mono ?_); rintro e w3 ⟨rfl, hr3, o3⟩; have HC3 := L0 (HC2.o.step o3 hr3); have i0 := (o3.cell HS2.o.1 (L0w HS2.o.2.2.1) 0).trans j0; have i1 := (o3.cell HS2.o.1 (L0w HS2.o.2.2.1) 1).trans j1; have iz := (o3.frozen HS2.o.1 (L0w HS2.o.2.2.1) 1).trans y2; have kk := HC3.o.c1; have HS3' : Hid (w1.heap.size < w3.heap.size) := L0 (L0c HS2.o.1 o3.size); clear hr3 o3) | ((with_reducible refine (HP2.o W8 HC8.o.rd).mono ?_); rintro e w9 ⟨rfl, hr9, o9⟩; have HC9 := L0 (HC8.o.step o9 hr9); obtain ⟨W9, e9, n0, n1, H9⟩ := HC9.o.done; have g0 := HC9.o.f0; have g1 := HC9.o.f1; have x0 := HC9.o.y 0; have x1 := HC9.o.y 1; have d0 := HC9.o.c0; have d1 := HC9.o.c1; clear hr9 o9)) | (at_builtin; refine Z0a (R := rRg) (x := (n, n)) Z6f rfl (.tmp 42) (.tmp 44) rfl rfl HC3.o.own [.int .i64 n, .int .i64 n] rfl rfl (fun _ => False) ⟨rfl, HNI.o.1, HNI.o.2⟩ (fun _ h => h.elim) HBY.o HC3.o.hB ?_; intro v7 w7 hown7 hb7 _ _; obtain ⟨A7, l7, rfl⟩ : ∃ A7 l7, v7 = .slice A7 (acc.length + 1) l7 := (by (obtain ⟨A7, l7, h⟩ := hown7.value; exact ⟨A7, l7, by rw [h, L0i, L0p]⟩)); obtain ⟨hc8, k8, z8⟩ := HC3.o.grow hb7 hown7; obtain ⟨W8, e8, HC8⟩ : ∃ W8, w7.setCell (zn q3 1) (.slice A7 (acc.length + 1) l7) = W8 /\ Hid (CellI w q q2 q3 B0 no r3 (.slice A7 (acc.length + 1) l7) (acc ++ [(n, n)]) W8) := ⟨_, rfl, L0 hc8⟩; clear hc8 hown7 hb7))
     refine bodyPost_ret (by simp [results, Tryz.results106, go_sem, n0, n1]; rfl) rfl ?_
     have hz := HCE2.o
     injection hz with hz1 hz2
     exact ⟨_, rfl, by rw [<- hz1]; exact H9.o.1, by rw [<- hz2]; exact H9.o.2.1, H9.o.2.2⟩
    have HCE2 := L0 ((Z54 acc rfl hx hp2).symm.trans HCE.o)
    have HLT : Hid (r6.l.length < l1.length /\ r6.l.length < r3.l.length) := L0 (by have h := Z5l (r := r3) (s := [124]) (by rw [hp2]); rw [hp2] at h; dsimp only at h hlen1 hlen2; omega)
    clear hn hp1 hp2 hx hli hlen1 hlen2
    go_wp2_with (first | (go_at_call 75; first | ((with_reducible refine HN1.o.mono ?_); rintro e w1 ⟨rfl, hr1, o1⟩; have o1' := HCI.o.only.trans o1; obtain ⟨W2, e2, HC2, y2, HS2⟩ : ∃ W2, w1.alloc (.cells #[.int .i64 n, .int .i64 n] 74) = W2 /\ Hid (CellI w q q2 q3 B0 no r2' (.slice Au acc.length lu) acc W2) /\ W2.frozen? (zn w1.heap.size 1) = false /\ Hid (w1.heap.size < W2.heap.size /\ B0 <= w1.heap.size /\ q < w1.heap.size /\ w.heap.size <= w1.heap.size /\ ∀ g, (Value.slice Au acc.length lu).ownBlock = some g -> g ≠ w1.heap.size) := ⟨_, rfl, L0 ((HCI.o.step o1 hr1).step (Only.alloc _ _) (hr1.alloc _)), by simp, L0 ⟨by simp, L0h HCI.o.hB o1.size, hr1.lt, o1'.size, fun g hg => (by (have := (HCI.o.own.lt g hg).2; have := o1.size; omega))⟩⟩; have j0 := ac0 e2; have j1 := ac1 e2; clear hr1 o1 o1')) | (go_at_call 73; first | ((with_reducible refine (HP1.o W2 HC2.o.rd).mono ?_); rintro e w3 ⟨rfl, hr3, o3⟩; have HC3 := L0 (HC2.o.step o3 hr3); have i0 := (o3.cell HS2.o.1 (L0w HS2.o.2.2.1) 0).trans j0; have i1 := (o3.cell HS2.o.1 (L0w HS2.o.2.2.1) 1).trans j1; have iz := (o3.frozen HS2.o.1 (L0w HS2.o.2.2.1) 1).trans y2; have kk := HC3.o.c1; have HS3' : Hid (w1.heap.size < w3.heap.size) := L0 (L0c HS2.o.1 o3.size); clear hr3 o3) | ((with_reducible refine (HP2.o W8 HC8.o.rd).mono ?_); rintro e w9 ⟨rfl, hr9, o9⟩; have HC9 := L0 (HC8.o.step o9 hr9); clear hr9 o9)) | (at_builtin; refine Z0a (R := rRg) (x := (n, n)) Z6f rfl (.tmp 42) (.tmp 44) rfl rfl HC3.o.own [.int .i64 n, .int .i64 n] rfl rfl (fun _ => False) ⟨rfl, HNI.o.1, HNI.o.2⟩ (fun _ h => h.elim) HBY.o HC3.o.hB ?_; intro v7 w7 hown7 hb7 _ _; obtain ⟨A7, l7, rfl⟩ : ∃ A7 l7, v7 = .slice A7 (acc.length + 1) l7 := (by (obtain ⟨A7, l7, h⟩ := hown7.value; exact ⟨A7, l7, by rw [h, L0i, L0p]⟩)); obtain ⟨hc8, k8, z8⟩ := HC3.o.grow hb7 hown7; obtain ⟨W8, e8, HC8⟩ : ∃ W8, w7.setCell (zn q3 1) (.slice A7 (acc.length + 1) l7) = W8 /\ Hid (CellI w q q2 q3 B0 no r3 (.slice A7 (acc.length + 1) l7) (acc ++ [(n, n)]) W8) := ⟨_, rfl, L0 hc8⟩; clear hc8 hown7 hb7))
    go_roundw
    exact ⟨r6, acc ++ [(n, n)], _, HC9.o.rd.bad.1, HC9.o.c0, HC9.o.c1, HC9, HCE2, L0 (by have := HLT.o; have := HLA.o; rw [L0i, L0p]; have h2 : acc.length + l1.length <= 4000 := this; omega)⟩
    rw [HC9.o.rd.len, HCI.o.rd.len]; exact HLT.o.1
   have hmi := Z75 r3
   have hlen3 := Z3q r3
   obtain ⟨⟨m, ⟨l4, b4⟩⟩, hm⟩ : ∃ x, Z0l r3 = x := ⟨_, rfl⟩
   rw [hm] at hmi hlen3
   have HNI : Hid (InI n /\ InI m) := L0 (by unfold InI; dsimp only at hli hmi; omega)
   have HN2 : Hid (∀ w', RdAt w' q r3 -> Only q w w' -> Calls Tryz.prog 75 #[.pointer (some (zn q 0))] w' fun e w'' => e = .returned (.int .i64 m) /\ RdAt w'' q ⟨l4, b4⟩ /\ Only q w' w'') := L0 fun w' hr ho => by have := Z3s w' hr (fun w'' ho' => HL.o _ (ho.trans ho')); rw [hm] at this; exact this
   have hx : Z1s ⟨l1, false⟩ = ((n, m), ⟨l4, b4 || decide (m <= n)⟩) := by unfold Z1s; rw [hn]; dsimp only; rw [hp1]; dsimp only; rw [hm]; rfl
   cases b4
   ·by_cases hmn : m <= n
    ·have hx : Z1s ⟨l1, false⟩ = ((n, m), ⟨l4, true⟩) := by rw [hx, decide_eq_true hmn]; rfl
     obtain ⟨⟨p, r6⟩, hp2⟩ : ∃ x, atR ⟨l4, true⟩ [124] = x := ⟨_, rfl⟩
     have HP2 : Hid (∀ w, RdAt w q ⟨l4, true⟩ -> Calls Tryz.prog 73 #[.pointer (some (zn q 0)), .string ⟨#[124]⟩] w fun e w' => e = .returned (.bool p) /\ RdAt w' q r6 /\ Only q w w') := L0 fun w hr => by have := Z3z [124] w hr; rw [hp2] at this; exact this
     cases p
     ·have HCE2 := L0 ((Z4w acc rfl hx hp2).symm.trans HCE.o)
      clear hn hp1 hp2 hx hm hli hmi hlen1 hlen2 hlen3
      go_wp2_with (first | (go_at_call 75; first | ((with_reducible refine HN1.o.mono ?_); rintro e w1 ⟨rfl, hr1, o1⟩; have o1' := HCI.o.only.trans o1; obtain ⟨W2, e2, HC2, y2, HS2⟩ : ∃ W2, w1.alloc (.cells #[.int .i64 n, .int .i64 n] 74) = W2 /\ Hid (CellI w q q2 q3 B0 no r2' (.slice Au acc.length lu) acc W2) /\ W2.frozen? (zn w1.heap.size 1) = false /\ Hid (w1.heap.size < W2.heap.size /\ B0 <= w1.heap.size /\ q < w1.heap.size /\ w.heap.size <= w1.heap.size /\ ∀ g, (Value.slice Au acc.length lu).ownBlock = some g -> g ≠ w1.heap.size) := ⟨_, rfl, L0 ((HCI.o.step o1 hr1).step (Only.alloc _ _) (hr1.alloc _)), by simp, L0 ⟨by simp, L0h HCI.o.hB o1.size, hr1.lt, o1'.size, fun g hg => (by (have := (HCI.o.own.lt g hg).2; have := o1.size; omega))⟩⟩; have j0 := ac0 e2; have j1 := ac1 e2; clear hr1 o1 o1') | ((with_reducible refine (HN2.o w3 HC3.o.rd HC3.o.only).mono ?_); rintro e w4 ⟨rfl, hr4, o4⟩; have HC4 := L0 (HC3.o.step o4 hr4); have p1 := (o4.cell HS3'.o (L0w HS2.o.2.2.1) 1).trans i1; have p0 := (o4.cell HS3'.o (L0w HS2.o.2.2.1) 0).trans i0; have pz := (o4.frozen HS3'.o (L0w HS2.o.2.2.1) 1).trans iz; obtain ⟨W5, e5, HC5, m0, m1, hbd, hbz⟩ := HC4.o.second HS2.o.2.1 HS2.o.2.2.1 HS2.o.2.2.2.1 HS2.o.2.2.2.2 (.int .i64 m) p0 p1; obtain ⟨W6, e6, HC6, t0, t1, t2⟩ := HC5.o.mark true HS2.o.2.2.1 m0 m1; clear hr4 o4)) | (go_at_call 73; first | ((with_reducible refine (HP1.o W2 HC2.o.rd).mono ?_); rintro e w3 ⟨rfl, hr3, o3⟩; have HC3 := L0 (HC2.o.step o3 hr3); have i0 := (o3.cell HS2.o.1 (L0w HS2.o.2.2.1) 0).trans j0; have i1 := (o3.cell HS2.o.1 (L0w HS2.o.2.2.1) 1).trans j1; have iz := (o3.frozen HS2.o.1 (L0w HS2.o.2.2.1) 1).trans y2; have kk := HC3.o.c1; have HS3' : Hid (w1.heap.size < w3.heap.size) := L0 (L0c HS2.o.1 o3.size); clear hr3 o3) | ((with_reducible refine (HP2.o W8 HC8.o.rd).mono ?_); rintro e w9 ⟨rfl, hr9, o9⟩; have HC9 := L0 (HC8.o.step o9 hr9); obtain ⟨W9, e9, n0, n1, H9⟩ := HC9.o.done; have g0 := HC9.o.f0; have g1 := HC9.o.f1; have x0 := HC9.o.y 0; have x1 := HC9.o.y 1; have d0 := HC9.o.c0; have d1 := HC9.o.c1; clear hr9 o9)) | (at_builtin; refine Z0a (R := rRg) (x := (n, m)) Z6f rfl (.tmp 42) (.tmp 44) rfl rfl HC6.o.own [.int .i64 n, .int .i64 m] rfl rfl (fun _ => False) ⟨rfl, HNI.o.1, HNI.o.2⟩ (fun _ h => h.elim) HBY.o HC6.o.hB ?_; intro v7 w7 hown7 hb7 _ _; obtain ⟨A7, l7, rfl⟩ : ∃ A7 l7, v7 = .slice A7 (acc.length + 1) l7 := (by (obtain ⟨A7, l7, h⟩ := hown7.value; exact ⟨A7, l7, by rw [h, L0i, L0p]⟩)); obtain ⟨hc8, k8, z8⟩ := HC6.o.grow hb7 hown7; obtain ⟨W8, e8, HC8⟩ : ∃ W8, w7.setCell (zn q3 1) (.slice A7 (acc.length + 1) l7) = W8 /\ Hid (CellI w q q2 q3 B0 no ⟨l4, true⟩ (.slice A7 (acc.length + 1) l7) (acc ++ [(n, m)]) W8) := ⟨_, rfl, L0 hc8⟩; clear hc8 hown7 hb7))
      refine bodyPost_ret (by simp [results, Tryz.results106, go_sem, n0, n1]; rfl) rfl ?_
      have hz := HCE2.o
      injection hz with hz1 hz2
      exact ⟨_, rfl, by rw [<- hz1]; exact H9.o.1, by rw [<- hz2]; exact H9.o.2.1, H9.o.2.2⟩
     have HCE2 := L0 ((Z54 acc rfl hx hp2).symm.trans HCE.o)
     have HLT : Hid (r6.l.length < l1.length) := L0 (by have h := Z5l (r := ⟨l4, true⟩) (s := [124]) (by rw [hp2]); rw [hp2] at h; dsimp only at h hlen1 hlen2 hlen3; omega)
     clear hn hp1 hp2 hx hm hli hmi hlen1 hlen2 hlen3
     go_wp2_with (first | (go_at_call 75; first | ((with_reducible refine HN1.o.mono ?_); rintro e w1 ⟨rfl, hr1, o1⟩; have o1' := HCI.o.only.trans o1; obtain ⟨W2, e2, HC2, y2, HS2⟩ : ∃ W2, w1.alloc (.cells #[.int .i64 n, .int .i64 n] 74) = W2 /\ Hid (CellI w q q2 q3 B0 no r2' (.slice Au acc.length lu) acc W2) /\ W2.frozen? (zn w1.heap.size 1) = false /\ Hid (w1.heap.size < W2.heap.size /\ B0 <= w1.heap.size /\ q < w1.heap.size /\ w.heap.size <= w1.heap.size /\ ∀ g, (Value.slice Au acc.length lu).ownBlock = some g -> g ≠ w1.heap.size) := ⟨_, rfl, L0 ((HCI.o.step o1 hr1).step (Only.alloc _ _) (hr1.alloc _)), by simp, L0 ⟨by simp, L0h HCI.o.hB o1.size, hr1.lt, o1'.size, fun g hg => (by (have := (HCI.o.own.lt g hg).2; have := o1.size; omega))⟩⟩; have j0 := ac0 e2; have j1 := ac1 e2; clear hr1 o1 o1') | ((with_reducible refine (HN2.o w3 HC3.o.rd HC3.o.only).mono ?_); rintro e w4 ⟨rfl, hr4, o4⟩; have HC4 := L0 (HC3.o.step o4 hr4); have p1 := (o4.cell HS3'.o (L0w HS2.o.2.2.1) 1).trans i1; have p0 := (o4.cell HS3'.o (L0w HS2.o.2.2.1) 0).trans i0; have pz := (o4.frozen HS3'.o (L0w HS2.o.2.2.1) 1).trans iz; obtain ⟨W5, e5, HC5, m0, m1, hbd, hbz⟩ := HC4.o.second HS2.o.2.1 HS2.o.2.2.1 HS2.o.2.2.2.1 HS2.o.2.2.2.2 (.int .i64 m) p0 p1; obtain ⟨W6, e6, HC6, t0, t1, t2⟩ := HC5.o.mark true HS2.o.2.2.1 m0 m1; clear hr4 o4)) | (go_at_call 73; first | ((with_reducible refine (HP1.o W2 HC2.o.rd).mono ?_); rintro e w3 ⟨rfl, hr3, o3⟩; have HC3 := L0 (HC2.o.step o3 hr3); have i0 := (o3.cell HS2.o.1 (L0w HS2.o.2.2.1) 0).trans j0; have i1 := (o3.cell HS2.o.1 (L0w HS2.o.2.2.1) 1).trans j1; have iz := (o3.frozen HS2.o.1 (L0w HS2.o.2.2.1) 1).trans y2; have kk := HC3.o.c1; have HS3' : Hid (w1.heap.size < w3.heap.size) := L0 (L0c HS2.o.1 o3.size); clear hr3 o3) | ((with_reducible refine (HP2.o W8 HC8.o.rd).mono ?_); rintro e w9 ⟨rfl, hr9, o9⟩; have HC9 := L0 (HC8.o.step o9 hr9); clear hr9 o9)) | (at_builtin; refine Z0a (R := rRg) (x := (n, m)) Z6f rfl (.tmp 42) (.tmp 44) rfl rfl HC6.o.own [.int .i64 n, .int .i64 m] rfl rfl (fun _ => False) ⟨rfl, HNI.o.1, HNI.o.2⟩ (fun _ h => h.elim) HBY.o HC6.o.hB ?_; intro v7 w7 hown7 hb7 _ _; obtain ⟨A7, l7, rfl⟩ : ∃ A7 l7, v7 = .slice A7 (acc.length + 1) l7 := (by (obtain ⟨A7, l7, h⟩ := hown7.value; exact ⟨A7, l7, by rw [h, L0i, L0p]⟩)); obtain ⟨hc8, k8, z8⟩ := HC6.o.grow hb7 hown7; obtain ⟨W8, e8, HC8⟩ : ∃ W8, w7.setCell (zn q3 1) (.slice A7 (acc.length + 1) l7) = W8 /\ Hid (CellI w q q2 q3 B0 no ⟨l4, true⟩ (.slice A7 (acc.length + 1) l7) (acc ++ [(n, m)]) W8) := ⟨_, rfl, L0 hc8⟩; clear hc8 hown7 hb7))
     go_roundw
     exact ⟨r6, acc ++ [(n, m)], _, HC9.o.rd.bad.1, HC9.o.c0, HC9.o.c1, HC9, HCE2, L0 (by have := HLT.o; have h2 : acc.length + l1.length <= 4000 := HLA.o; rw [L0i, L0p]; omega)⟩
     rw [HC9.o.rd.len, HCI.o.rd.len]; exact HLT.o
    have hx : Z1s ⟨l1, false⟩ = ((n, m), ⟨l4, false⟩) := by rw [hx, decide_eq_false hmn]; rfl
    have hdf : decide (m <= n) = false := decide_eq_false hmn
    obtain ⟨⟨p, r6⟩, hp2⟩ : ∃ x, atR ⟨l4, false⟩ [124] = x := ⟨_, rfl⟩
    have HP2 : Hid (∀ w, RdAt w q ⟨l4, false⟩ -> Calls Tryz.prog 73 #[.pointer (some (zn q 0)), .string ⟨#[124]⟩] w fun e w' => e = .returned (.bool p) /\ RdAt w' q r6 /\ Only q w w') := L0 fun w hr => by have := Z3z [124] w hr; rw [hp2] at this; exact this
    cases p
    ·have HCE2 := L0 ((Z4w acc rfl hx hp2).symm.trans HCE.o)
     clear hn hp1 hp2 hx hm hli hmi hlen1 hlen2 hlen3
     go_wp2_with (first | (go_at_call 75; first | ((with_reducible refine HN1.o.mono ?_); rintro e w1 ⟨rfl, hr1, o1⟩; have o1' := HCI.o.only.trans o1; obtain ⟨W2, e2, HC2, y2, HS2⟩ : ∃ W2, w1.alloc (.cells #[.int .i64 n, .int .i64 n] 74) = W2 /\ Hid (CellI w q q2 q3 B0 no r2' (.slice Au acc.length lu) acc W2) /\ W2.frozen? (zn w1.heap.size 1) = false /\ Hid (w1.heap.size < W2.heap.size /\ B0 <= w1.heap.size /\ q < w1.heap.size /\ w.heap.size <= w1.heap.size /\ ∀ g, (Value.slice Au acc.length lu).ownBlock = some g -> g ≠ w1.heap.size) := ⟨_, rfl, L0 ((HCI.o.step o1 hr1).step (Only.alloc _ _) (hr1.alloc _)), by simp, L0 ⟨by simp, L0h HCI.o.hB o1.size, hr1.lt, o1'.size, fun g hg => (by (have := (HCI.o.own.lt g hg).2; have := o1.size; omega))⟩⟩; have j0 := ac0 e2; have j1 := ac1 e2; clear hr1 o1 o1') | ((with_reducible refine (HN2.o w3 HC3.o.rd HC3.o.only).mono ?_); rintro e w4 ⟨rfl, hr4, o4⟩; have HC4 := L0 (HC3.o.step o4 hr4); have p1 := (o4.cell HS3'.o (L0w HS2.o.2.2.1) 1).trans i1; have p0 := (o4.cell HS3'.o (L0w HS2.o.2.2.1) 0).trans i0; have pz := (o4.frozen HS3'.o (L0w HS2.o.2.2.1) 1).trans iz; obtain ⟨W5, e5, HC5, m0, m1, hbd, hbz⟩ := HC4.o.second HS2.o.2.1 HS2.o.2.2.1 HS2.o.2.2.2.1 HS2.o.2.2.2.2 (.int .i64 m) p0 p1; obtain ⟨W6, e6, HC6, t0, t1, t2⟩ := HC5.o.mark false HS2.o.2.2.1 m0 m1; clear hr4 o4)) | (go_at_call 73; first | ((with_reducible refine (HP1.o W2 HC2.o.rd).mono ?_); rintro e w3 ⟨rfl, hr3, o3⟩; have HC3 := L0 (HC2.o.step o3 hr3); have i0 := (o3.cell HS2.o.1 (L0w HS2.o.2.2.1) 0).trans j0; have i1 := (o3.cell HS2.o.1 (L0w HS2.o.2.2.1) 1).trans j1; have iz := (o3.frozen HS2.o.1 (L0w HS2.o.2.2.1) 1).trans y2; have kk := HC3.o.c1; have HS3' : Hid (w1.heap.size < w3.heap.size) := L0 (L0c HS2.o.1 o3.size); clear hr3 o3) | ((with_reducible refine (HP2.o W8 HC8.o.rd).mono ?_); rintro e w9 ⟨rfl, hr9, o9⟩; have HC9 := L0 (HC8.o.step o9 hr9); obtain ⟨W9, e9, n0, n1, H9⟩ := HC9.o.done; have g0 := HC9.o.f0; have g1 := HC9.o.f1; have x0 := HC9.o.y 0; have x1 := HC9.o.y 1; have d0 := HC9.o.c0; have d1 := HC9.o.c1; clear hr9 o9)) | (at_builtin; refine Z0a (R := rRg) (x := (n, m)) Z6f rfl (.tmp 42) (.tmp 44) rfl rfl HC6.o.own [.int .i64 n, .int .i64 m] rfl rfl (fun _ => False) ⟨rfl, HNI.o.1, HNI.o.2⟩ (fun _ h => h.elim) HBY.o HC6.o.hB ?_; intro v7 w7 hown7 hb7 _ _; obtain ⟨A7, l7, rfl⟩ : ∃ A7 l7, v7 = .slice A7 (acc.length + 1) l7 := (by (obtain ⟨A7, l7, h⟩ := hown7.value; exact ⟨A7, l7, by rw [h, L0i, L0p]⟩)); obtain ⟨hc8, k8, z8⟩ := HC6.o.grow hb7 hown7; obtain ⟨W8, e8, HC8⟩ : ∃ W8, w7.setCell (zn q3 1) (.slice A7 (acc.length + 1) l7) = W8 /\ Hid (CellI w q q2 q3 B0 no ⟨l4, false⟩ (.slice A7 (acc.length + 1) l7) (acc ++ [(n, m)]) W8) := ⟨_, rfl, L0 hc8⟩; clear hc8 hown7 hb7))
     refine bodyPost_ret (by simp [results, Tryz.results106, go_sem, n0, n1]; rfl) rfl ?_
     have hz := HCE2.o
     injection hz with hz1 hz2
     exact ⟨_, rfl, by rw [<- hz1]; exact H9.o.1, by rw [<- hz2]; exact H9.o.2.1, H9.o.2.2⟩
    have HCE2 := L0 ((Z54 acc rfl hx hp2).symm.trans HCE.o)
    have HLT : Hid (r6.l.length < l1.length) := L0 (by have h := Z5l (r := ⟨l4, false⟩) (s := [124]) (by rw [hp2]); rw [hp2] at h; dsimp only at h hlen1 hlen2 hlen3; omega)
    clear hn hp1 hp2 hx hm hli hmi hlen1 hlen2 hlen3
    go_wp2_with (first | (go_at_call 75; first | ((with_reducible refine HN1.o.mono ?_); rintro e w1 ⟨rfl, hr1, o1⟩; have o1' := HCI.o.only.trans o1; obtain ⟨W2, e2, HC2, y2, HS2⟩ : ∃ W2, w1.alloc (.cells #[.int .i64 n, .int .i64 n] 74) = W2 /\ Hid (CellI w q q2 q3 B0 no r2' (.slice Au acc.length lu) acc W2) /\ W2.frozen? (zn w1.heap.size 1) = false /\ Hid (w1.heap.size < W2.heap.size /\ B0 <= w1.heap.size /\ q < w1.heap.size /\ w.heap.size <= w1.heap.size /\ ∀ g, (Value.slice Au acc.length lu).ownBlock = some g -> g ≠ w1.heap.size) := ⟨_, rfl, L0 ((HCI.o.step o1 hr1).step (Only.alloc _ _) (hr1.alloc _)), by simp, L0 ⟨by simp, L0h HCI.o.hB o1.size, hr1.lt, o1'.size, fun g hg => (by (have := (HCI.o.own.lt g hg).2; have := o1.size; omega))⟩⟩; have j0 := ac0 e2; have j1 := ac1 e2; clear hr1 o1 o1') | ((with_reducible refine (HN2.o w3 HC3.o.rd HC3.o.only).mono ?_); rintro e w4 ⟨rfl, hr4, o4⟩; have HC4 := L0 (HC3.o.step o4 hr4); have p1 := (o4.cell HS3'.o (L0w HS2.o.2.2.1) 1).trans i1; have p0 := (o4.cell HS3'.o (L0w HS2.o.2.2.1) 0).trans i0; have pz := (o4.frozen HS3'.o (L0w HS2.o.2.2.1) 1).trans iz; obtain ⟨W5, e5, HC5, m0, m1, hbd, hbz⟩ := HC4.o.second HS2.o.2.1 HS2.o.2.2.1 HS2.o.2.2.2.1 HS2.o.2.2.2.2 (.int .i64 m) p0 p1; obtain ⟨W6, e6, HC6, t0, t1, t2⟩ := HC5.o.mark false HS2.o.2.2.1 m0 m1; clear hr4 o4)) | (go_at_call 73; first | ((with_reducible refine (HP1.o W2 HC2.o.rd).mono ?_); rintro e w3 ⟨rfl, hr3, o3⟩; have HC3 := L0 (HC2.o.step o3 hr3); have i0 := (o3.cell HS2.o.1 (L0w HS2.o.2.2.1) 0).trans j0; have i1 := (o3.cell HS2.o.1 (L0w HS2.o.2.2.1) 1).trans j1; have iz := (o3.frozen HS2.o.1 (L0w HS2.o.2.2.1) 1).trans y2; have kk := HC3.o.c1; have HS3' : Hid (w1.heap.size < w3.heap.size) := L0 (L0c HS2.o.1 o3.size); clear hr3 o3) | ((with_reducible refine (HP2.o W8 HC8.o.rd).mono ?_); rintro e w9 ⟨rfl, hr9, o9⟩; have HC9 := L0 (HC8.o.step o9 hr9); clear hr9 o9)) | (at_builtin; refine Z0a (R := rRg) (x := (n, m)) Z6f rfl (.tmp 42) (.tmp 44) rfl rfl HC6.o.own [.int .i64 n, .int .i64 m] rfl rfl (fun _ => False) ⟨rfl, HNI.o.1, HNI.o.2⟩ (fun _ h => h.elim) HBY.o HC6.o.hB ?_; intro v7 w7 hown7 hb7 _ _; obtain ⟨A7, l7, rfl⟩ : ∃ A7 l7, v7 = .slice A7 (acc.length + 1) l7 := (by (obtain ⟨A7, l7, h⟩ := hown7.value; exact ⟨A7, l7, by rw [h, L0i, L0p]⟩)); obtain ⟨hc8, k8, z8⟩ := HC6.o.grow hb7 hown7; obtain ⟨W8, e8, HC8⟩ : ∃ W8, w7.setCell (zn q3 1) (.slice A7 (acc.length + 1) l7) = W8 /\ Hid (CellI w q q2 q3 B0 no ⟨l4, false⟩ (.slice A7 (acc.length + 1) l7) (acc ++ [(n, m)]) W8) := ⟨_, rfl, L0 hc8⟩; clear hc8 hown7 hb7))
    go_roundw
    exact ⟨r6, acc ++ [(n, m)], _, HC9.o.rd.bad.1, HC9.o.c0, HC9.o.c1, HC9, HCE2, L0 (by have := HLT.o; have h2 : acc.length + l1.length <= 4000 := HLA.o; rw [L0i, L0p]; omega)⟩
    rw [HC9.o.rd.len, HCI.o.rd.len]; exact HLT.o
   have hx : Z1s ⟨l1, false⟩ = ((n, m), ⟨l4, true⟩) := hx
   obtain ⟨⟨p, r6⟩, hp2⟩ : ∃ x, atR ⟨l4, true⟩ [124] = x := ⟨_, rfl⟩
   have HP2 : Hid (∀ w, RdAt w q ⟨l4, true⟩ -> Calls Tryz.prog 73 #[.pointer (some (zn q 0)), .string ⟨#[124]⟩] w fun e w' => e = .returned (.bool p) /\ RdAt w' q r6 /\ Only q w w') := L0 fun w hr => by have := Z3z [124] w hr; rw [hp2] at this; exact this
   cases p
   ·have HCE2 := L0 ((Z4w acc rfl hx hp2).symm.trans HCE.o)
    clear hn hp1 hp2 hx hm hli hmi hlen1 hlen2 hlen3
    go_wp2_with (first | (go_at_call 75; first | ((with_reducible refine HN1.o.mono ?_); rintro e w1 ⟨rfl, hr1, o1⟩; have o1' := HCI.o.only.trans o1; obtain ⟨W2, e2, HC2, y2, HS2⟩ : ∃ W2, w1.alloc (.cells #[.int .i64 n, .int .i64 n] 74) = W2 /\ Hid (CellI w q q2 q3 B0 no r2' (.slice Au acc.length lu) acc W2) /\ W2.frozen? (zn w1.heap.size 1) = false /\ Hid (w1.heap.size < W2.heap.size /\ B0 <= w1.heap.size /\ q < w1.heap.size /\ w.heap.size <= w1.heap.size /\ ∀ g, (Value.slice Au acc.length lu).ownBlock = some g -> g ≠ w1.heap.size) := ⟨_, rfl, L0 ((HCI.o.step o1 hr1).step (Only.alloc _ _) (hr1.alloc _)), by simp, L0 ⟨by simp, L0h HCI.o.hB o1.size, hr1.lt, o1'.size, fun g hg => (by (have := (HCI.o.own.lt g hg).2; have := o1.size; omega))⟩⟩; have j0 := ac0 e2; have j1 := ac1 e2; clear hr1 o1 o1') | ((with_reducible refine (HN2.o w3 HC3.o.rd HC3.o.only).mono ?_); rintro e w4 ⟨rfl, hr4, o4⟩; have HC4 := L0 (HC3.o.step o4 hr4); have p1 := (o4.cell HS3'.o (L0w HS2.o.2.2.1) 1).trans i1; have p0 := (o4.cell HS3'.o (L0w HS2.o.2.2.1) 0).trans i0; have pz := (o4.frozen HS3'.o (L0w HS2.o.2.2.1) 1).trans iz; obtain ⟨W5, e5, HC5, m0, m1, hbd, hbz⟩ := HC4.o.second HS2.o.2.1 HS2.o.2.2.1 HS2.o.2.2.2.1 HS2.o.2.2.2.2 (.int .i64 m) p0 p1; obtain ⟨W6, e6, HC6, t0, t1, t2⟩ := HC5.o.mark true HS2.o.2.2.1 m0 m1; clear hr4 o4)) | (go_at_call 73; first | ((with_reducible refine (HP1.o W2 HC2.o.rd).mono ?_); rintro e w3 ⟨rfl, hr3, o3⟩; have HC3 := L0 (HC2.o.step o3 hr3); have i0 := (o3.cell HS2.o.1 (L0w HS2.o.2.2.1) 0).trans j0; have i1 := (o3.cell HS2.o.1 (L0w HS2.o.2.2.1) 1).trans j1; have iz := (o3.frozen HS2.o.1 (L0w HS2.o.2.2.1) 1).trans y2; have kk := HC3.o.c1; have HS3' : Hid (w1.heap.size < w3.heap.size) := L0 (L0c HS2.o.1 o3.size); clear hr3 o3) | ((with_reducible refine (HP2.o W8 HC8.o.rd).mono ?_); rintro e w9 ⟨rfl, hr9, o9⟩; have HC9 := L0 (HC8.o.step o9 hr9); obtain ⟨W9, e9, n0, n1, H9⟩ := HC9.o.done; have g0 := HC9.o.f0; have g1 := HC9.o.f1; have x0 := HC9.o.y 0; have x1 := HC9.o.y 1; have d0 := HC9.o.c0; have d1 := HC9.o.c1; clear hr9 o9)) | (at_builtin; refine Z0a (R := rRg) (x := (n, m)) Z6f rfl (.tmp 42) (.tmp 44) rfl rfl HC6.o.own [.int .i64 n, .int .i64 m] rfl rfl (fun _ => False) ⟨rfl, HNI.o.1, HNI.o.2⟩ (fun _ h => h.elim) HBY.o HC6.o.hB ?_; intro v7 w7 hown7 hb7 _ _; obtain ⟨A7, l7, rfl⟩ : ∃ A7 l7, v7 = .slice A7 (acc.length + 1) l7 := (by (obtain ⟨A7, l7, h⟩ := hown7.value; exact ⟨A7, l7, by rw [h, L0i, L0p]⟩)); obtain ⟨hc8, k8, z8⟩ := HC6.o.grow hb7 hown7; obtain ⟨W8, e8, HC8⟩ : ∃ W8, w7.setCell (zn q3 1) (.slice A7 (acc.length + 1) l7) = W8 /\ Hid (CellI w q q2 q3 B0 no ⟨l4, true⟩ (.slice A7 (acc.length + 1) l7) (acc ++ [(n, m)]) W8) := ⟨_, rfl, L0 hc8⟩; clear hc8 hown7 hb7))
    refine bodyPost_ret (by simp [results, Tryz.results106, go_sem, n0, n1]; rfl) rfl ?_
    have hz := HCE2.o
    injection hz with hz1 hz2
    exact ⟨_, rfl, by rw [<- hz1]; exact H9.o.1, by rw [<- hz2]; exact H9.o.2.1, H9.o.2.2⟩
   have HCE2 := L0 ((Z54 acc rfl hx hp2).symm.trans HCE.o)
   have HLT : Hid (r6.l.length < l1.length) := L0 (by have h := Z5l (r := ⟨l4, true⟩) (s := [124]) (by rw [hp2]); rw [hp2] at h; dsimp only at h hlen1 hlen2 hlen3; omega)
   clear hn hp1 hp2 hx hm hli hmi hlen1 hlen2 hlen3
   go_wp2_with (first | (go_at_call 75; first | ((with_reducible refine HN1.o.mono ?_); rintro e w1 ⟨rfl, hr1, o1⟩; have o1' := HCI.o.only.trans o1; obtain ⟨W2, e2, HC2, y2, HS2⟩ : ∃ W2, w1.alloc (.cells #[.int .i64 n, .int .i64 n] 74) = W2 /\ Hid (CellI w q q2 q3 B0 no r2' (.slice Au acc.length lu) acc W2) /\ W2.frozen? (zn w1.heap.size 1) = false /\ Hid (w1.heap.size < W2.heap.size /\ B0 <= w1.heap.size /\ q < w1.heap.size /\ w.heap.size <= w1.heap.size /\ ∀ g, (Value.slice Au acc.length lu).ownBlock = some g -> g ≠ w1.heap.size) := ⟨_, rfl, L0 ((HCI.o.step o1 hr1).step (Only.alloc _ _) (hr1.alloc _)), by simp, L0 ⟨by simp, L0h HCI.o.hB o1.size, hr1.lt, o1'.size, fun g hg => (by (have := (HCI.o.own.lt g hg).2; have := o1.size; omega))⟩⟩; have j0 := ac0 e2; have j1 := ac1 e2; clear hr1 o1 o1') | ((with_reducible refine (HN2.o w3 HC3.o.rd HC3.o.only).mono ?_); rintro e w4 ⟨rfl, hr4, o4⟩; have HC4 := L0 (HC3.o.step o4 hr4); have p1 := (o4.cell HS3'.o (L0w HS2.o.2.2.1) 1).trans i1; have p0 := (o4.cell HS3'.o (L0w HS2.o.2.2.1) 0).trans i0; have pz := (o4.frozen HS3'.o (L0w HS2.o.2.2.1) 1).trans iz; obtain ⟨W5, e5, HC5, m0, m1, hbd, hbz⟩ := HC4.o.second HS2.o.2.1 HS2.o.2.2.1 HS2.o.2.2.2.1 HS2.o.2.2.2.2 (.int .i64 m) p0 p1; obtain ⟨W6, e6, HC6, t0, t1, t2⟩ := HC5.o.mark true HS2.o.2.2.1 m0 m1; clear hr4 o4)) | (go_at_call 73; first | ((with_reducible refine (HP1.o W2 HC2.o.rd).mono ?_); rintro e w3 ⟨rfl, hr3, o3⟩; have HC3 := L0 (HC2.o.step o3 hr3); have i0 := (o3.cell HS2.o.1 (L0w HS2.o.2.2.1) 0).trans j0; have i1 := (o3.cell HS2.o.1 (L0w HS2.o.2.2.1) 1).trans j1; have iz := (o3.frozen HS2.o.1 (L0w HS2.o.2.2.1) 1).trans y2; have kk := HC3.o.c1; have HS3' : Hid (w1.heap.size < w3.heap.size) := L0 (L0c HS2.o.1 o3.size); clear hr3 o3) | ((with_reducible refine (HP2.o W8 HC8.o.rd).mono ?_); rintro e w9 ⟨rfl, hr9, o9⟩; have HC9 := L0 (HC8.o.step o9 hr9); clear hr9 o9)) | (at_builtin; refine Z0a (R := rRg) (x := (n, m)) Z6f rfl (.tmp 42) (.tmp 44) rfl rfl HC6.o.own [.int .i64 n, .int .i64 m] rfl rfl (fun _ => False) ⟨rfl, HNI.o.1, HNI.o.2⟩ (fun _ h => h.elim) HBY.o HC6.o.hB ?_; intro v7 w7 hown7 hb7 _ _; obtain ⟨A7, l7, rfl⟩ : ∃ A7 l7, v7 = .slice A7 (acc.length + 1) l7 := (by (obtain ⟨A7, l7, h⟩ := hown7.value; exact ⟨A7, l7, by rw [h, L0i, L0p]⟩)); obtain ⟨hc8, k8, z8⟩ := HC6.o.grow hb7 hown7; obtain ⟨W8, e8, HC8⟩ : ∃ W8, w7.setCell (zn q3 1) (.slice A7 (acc.length + 1) l7) = W8 /\ Hid (CellI w q q2 q3 B0 no ⟨l4, true⟩ (.slice A7 (acc.length + 1) l7) (acc ++ [(n, m)]) W8) := ⟨_, rfl, L0 hc8⟩; clear hc8 hown7 hb7))
   go_roundw
   exact ⟨r6, acc ++ [(n, m)], _, HC9.o.rd.bad.1, HC9.o.c0, HC9.o.c1, HC9, HCE2, L0 (by have := HLT.o; have h2 : acc.length + l1.length <= 4000 := HLA.o; rw [L0i, L0p]; omega)⟩
   rw [HC9.o.rd.len, HCI.o.rd.len]; exact HLT.o
  have hfin := (Y4w acc rfl).symm.trans HCE.o
  obtain ⟨Au, lu, rfl⟩ := HCI.o.own.value
  obtain ⟨W9, e9, n0, n1, H9⟩ := HCI.o.done
  have g0 := HCI.o.f0
  have g1 := HCI.o.f1
  have x0 := HCI.o.y 0
  have x1 := HCI.o.y 1
  have d0 := HCI.o.c0
  have d1 := HCI.o.c1
  have HZ := L0 hfin
  clear hfin
  go_wp2
  refine bodyPost_ret (by simp [results, Tryz.results106, go_sem, n0, n1]; rfl) rfl ?_
  have hz := HZ.o
  injection hz with hz1 hz2
  exact ⟨_, rfl, by rw [<- hz1]; exact H9.o.1, by rw [<- hz2]; exact H9.o.2.1, H9.o.2.2⟩
 have HCR : Hid (Z3v r = (⟨false, []⟩, r1)) := L0 (by unfold Z3v; rw [h1]; rfl)
 rw [HCR.o]
 clear h1
 go_wp2_with (go_at_call 73; (with_reducible refine HAT1.o.mono ?_); rintro e w1 ⟨rfl, hr1, o1⟩; have g0 := (o1.cell HS0.o (L0w HQL.o) 0).trans HF0.o; have g1 := (o1.cell HS0.o (L0w HQL.o) 1).trans HF1.o; have x0 := (o1.frozen HS0.o (L0w HQL.o) 0).trans (HY0.o 0); have x1 := (o1.frozen HS0.o (L0w HQL.o) 1).trans (HY0.o 1); obtain ⟨W9, e9, n0, n1⟩ := Y94 (.bool false) (nl) g0 g1; have H9 : Hid (RdAt W9 q r1 /\ Only q w W9) := L0 (by (rw [<- e9]; exact ⟨(hr1.other HQL.o _ _).other HQL.o _ _, ((HO0.o.trans o1).new (L0g _) _ _).new (L0g _) _ _⟩)); clear hr1 o1)
 refine bodyPost_ret (by simp [results, Tryz.results106, go_sem, n0, n1]; rfl) rfl ?_
 exact ⟨_, rfl, Own.nil _ _ _ _ _, H9.o.1, H9.o.2⟩
def Z18 {α : Type} (item : Rs -> α × Rs) (sep : Txt) : Nat -> Rs -> List α -> List α × Rs
 | 0, r, acc => (acc, r)
 | f + 1, r, acc => if r.bad then (acc, r) else if (atR (item r).2 sep).1 then Z18 item sep f (atR (item r).2 sep).2 (acc ++ [(item r).1]) else (acc ++ [(item r).1], (atR (item r).2 sep).2)
def Z0q {α : Type} (item : Rs -> α × Rs) (sep : Txt) (r : Rs) (acc : List α) : List α × Rs := Z18 item sep (r.l.length + 1) r acc
section
variable {α : Type} {item : Rs -> α × Rs} {sep : Txt} (hi : ∀ r, (item r).2.l.length <= r.l.length)
include hi
theorem Y48 : ∀ (f g : Nat) (r : Rs) (acc : List α), r.l.length < f -> r.l.length < g -> Z18 item sep f r acc = Z18 item sep g r acc := by
 intro f
 induction f with
 | zero => intro g r acc h; omega
 | succ f ih =>
  intro g r acc h hg
  cases g with
  | zero => omega
  | succ g =>
   simp only [Z18]
   split
   ·rfl
   split
   ·rename_i h1
    have h2 := Z5l h1
    have h3 := hi r
    exact ih g _ _ (by omega) (by omega)
   rfl
theorem Z6p {r r5 r6 : Rs} {x : α} (acc : List α) (h : r.bad = false) (h1 : item r = (x, r5)) (h2 : atR r5 sep = (true, r6)) : Z0q item sep r acc = Z0q item sep r6 (acc ++ [x]) := by
 have e1 : Z0q item sep r acc = Z18 item sep r.l.length (atR (item r).2 sep).2 (acc ++ [(item r).1]) := by
  unfold Z0q
  simp only [Z18]
  rw [if_neg (by simp [h]), if_pos (by rw [h1, h2])]
 rw [e1, h1, h2]
 have h4 : (atR r5 sep).2.l.length < r5.l.length := Z5l (by rw [h2])
 have h3 := hi r
 rw [h1] at h3
 rw [h2] at h4
 dsimp only at h3 h4
 show Z18 item sep r.l.length r6 (acc ++ [x]) = Z18 item sep (r6.l.length + 1) r6 (acc ++ [x])
 exact Y48 hi _ _ _ _ (by omega) (by omega)
theorem Z9s : ∀ (f : Nat) (r : Rs) (acc : List α), (Z18 item sep f r acc).2.l.length <= r.l.length := by
 intro f
 induction f with
 | zero => intro r acc; exact L0g _
 | succ f ih =>
  intro r acc
  simp only [Z18]
  have h3 := hi r
  have h4 := Z2i (item r).2 sep
  split
  ·exact L0g _
  split
  ·exact L0h (ih _ _) (by omega)
  dsimp only; omega
end
theorem Z8g {α : Type} {item : Rs -> α × Rs} {sep : Txt} {r : Rs} (acc : List α) (h : r.bad = true) : Z0q item sep r acc = (acc, r) := by
 unfold Z0q
 simp only [Z18]
 rw [if_pos h]
theorem Z5u {α : Type} {item : Rs -> α × Rs} {sep : Txt} {r r5 r6 : Rs} {x : α} (acc : List α) (h : r.bad = false) (h1 : item r = (x, r5)) (h2 : atR r5 sep = (false, r6)) : Z0q item sep r acc = (acc ++ [x], r6) := by
 unfold Z0q
 simp only [Z18]
 rw [if_neg (by simp [h]), if_neg (by rw [h1, h2]; simp), h1, h2]
theorem Y4x (r : Rs) (acc : List Rg) : (Z10 r acc).2.l.length <= r.l.length := by
 have key : ∀ (f : Nat) (r : Rs) (acc : List Rg), (Z3o f r acc).2.l.length <= r.l.length := by
  intro f
  induction f with
  | zero => intro r acc; exact L0g _
  | succ f ih =>
   intro r acc
   simp only [Z3o]
   have h3 := Z6c r
   have h4 := Z2i (Z1s r).2 [124]
   split
   ·exact L0g _
   split
   ·exact L0h (ih _ _) (by omega)
   dsimp only; omega
 exact key _ _ _
theorem Z60 (r : Rs) : (Z3v r).2.l.length <= r.l.length := by
 unfold Z3v
 have h1 := Z2i r [42]
 have h2 := Z2i (atR r [42]).2 [110, 111, 116]
 have h3 := Y4x (atR (atR r [42]).2 [110, 111, 116]).2 []
 split <;> dsimp only <;> omega
theorem Z7g (r : Rs) : (Z2u r).2.l.length <= r.l.length := Z9x r
theorem Z7m (r : Rs) (s : Txt) : (Z28 r s).l.length <= r.l.length := by
 unfold Z28
 have := Z2i r s
 split
 ·exact this
 exact this
theorem X11 {r : Rs} {s : Txt} (h : (Z28 r s).bad = false) : (Z28 r s).l.length < r.l.length := by
 unfold Z28 at h ⊢
 split
 ·rename_i h1; exact Z5l h1
 rename_i h1; rw [if_neg h1] at h; cases h
def pols : List Txt := [[], [117, 110, 105, 113, 117, 101], [97, 110, 121], [102, 105, 114, 115, 116], [108, 101, 97, 115, 116], [109, 111, 115, 116], [115, 117, 109], [99, 111, 117, 110, 116]]
def Z79 (r : Rs) : Rl × Rs :=
 (⟨(Z0q Z3v [44] r []).1, (Z0l (Z28 (Z0q Z3v [44] r []).2 [61, 62])).1⟩, Z28 (Z0l (Z28 (Z0q Z3v [44] r []).2 [61, 62])).2 [59])
theorem Y2j {r : Rs} (h : (Z79 r).2.bad = false) : (Z79 r).2.l.length < r.l.length := by
 unfold Z79 at h ⊢
 dsimp only at h ⊢
 have h1 : (Z0q Z3v [44] r []).2.l.length <= r.l.length := Z9s Z60 _ _ _
 have h2 := Z7m (Z0q Z3v [44] r []).2 [61, 62]
 have h3 := Z3q (Z28 (Z0q Z3v [44] r []).2 [61, 62])
 have h4 := X11 h
 omega
def Z4i : Nat -> Rs -> List Rl -> List Rl × Rs
 | 0, r, acc => (acc, r)
 | f + 1, r, acc => if r.bad then (acc, r) else if (atR r [125]).1 then (acc, (atR r [125]).2) else Z4i f (Z79 (atR r [125]).2).2 (acc ++ [(Z79 (atR r [125]).2).1])
def Z2s (r : Rs) (acc : List Rl) : List Rl × Rs := Z4i (r.l.length + 1) r acc
theorem Z44 (f : Nat) {r : Rs} (acc : List Rl) (h : r.bad = true) : Z4i f r acc = (acc, r) := by
 cases f with
 | zero => rfl
 | succ f => simp only [Z4i]; rw [if_pos h]
theorem Y5m : ∀ (f g : Nat) (r : Rs) (acc : List Rl), r.l.length < f -> r.l.length < g -> Z4i f r acc = Z4i g r acc := by
 intro f
 induction f with
 | zero => intro g r acc h; omega
 | succ f ih =>
  intro g r acc h hg
  cases g with
  | zero => omega
  | succ g =>
   simp only [Z4i]
   split
   ·rfl
   split
   ·rfl
   cases hb : (Z79 (atR r [125]).2).2.bad
   ·have h1 := Y2j hb
    have h2 := Z2i r [125]
    exact ih g _ _ (by omega) (by omega)
   rw [Z44 _ _ hb, Z44 _ _ hb]
theorem Z8i {r : Rs} (acc : List Rl) (h : r.bad = true) : Z2s r acc = (acc, r) := Z44 _ _ h
theorem Z8j {r r1 : Rs} (acc : List Rl) (h : r.bad = false) (h1 : atR r [125] = (true, r1)) : Z2s r acc = (acc, r1) := by
 unfold Z2s
 simp only [Z4i]
 rw [if_neg (by simp [h]), if_pos (by rw [h1]), h1]
theorem Z97 {r r1 r5 : Rs} {x : Rl} (acc : List Rl) (h : r.bad = false) (h1 : atR r [125] = (false, r1)) (h2 : Z79 r1 = (x, r5)) : Z2s r acc = Z2s r5 (acc ++ [x]) := by
 have e1 : Z2s r acc = Z4i r.l.length (Z79 (atR r [125]).2).2 (acc ++ [(Z79 (atR r [125]).2).1]) := by
  unfold Z2s
  simp only [Z4i]
  rw [if_neg (by simp [h]), if_neg (by rw [h1]; simp)]
 rw [e1, h1]
 dsimp only
 rw [h2]
 dsimp only
 cases hb : r5.bad
 ·have h3 := Y2j (r := r1) (by rw [h2]; exact hb)
  have h4 := Z2i r [125]
  rw [h1] at h4
  rw [h2] at h3
  dsimp only at h3 h4
  exact Y5m _ _ _ _ (by omega) (by omega)
 rw [Z44 _ _ hb, Z8i _ hb]
def Z27 (r : Rs) : Tb × Rs :=
 let a1 := Z2u r
 let a2 := Z3j a1.2
 let a3 := atR a2.2 [99, 111, 109, 112, 108, 101, 116, 101]
 let a4 := Z28 a3.2 [40]
 let a5 := Z0q Z2u [44] a4 []
 let a6 := Z28 a5.2 [41]
 let a7 := Z28 a6 [123]
 let a8 := Z2s a7 []
 (⟨a1.1, Z7w pols a2.1, a3.1, a5.1, a8.1⟩, a8.2)
