import Derived.Test.YtlopccnehgolnabGreatDoorRdr
import Derived.Test.YtlopccnehgolnabGreatDoorShTx
import Derived.Test.YtlopccnehgolnabGreatDoorTabA
import Derived.Test.YtlopccnehgolnabGreatDoorSpanD
import Derived.Deep.DeepMust
namespace Go.Proofs.YtlopccnehgolnabGreatDoor
open Go.RowKit Rb
open Go.Lib renaming atoiAll -> jA
set_option maxRecDepth 100000
set_option maxHeartbeats 6400000
theorem LibW.below {w w' : World} (h : LibW w) (hb : Below w.heap.size w w') : LibW w' := by
 have hg : ∀ (n : String) (cs : Array Value), w.var? Tryz.prog n = some cs -> w'.var? Tryz.prog n = some cs := by
  intro n cs hv
  unfold World.var? at hv ⊢
  cases hg : Tryz.prog.globalNamed n with
  | none => rw [hg] at hv; cases hv
  | some g =>
   rw [hg] at hv
   simp only [Option.bind_some] at hv ⊢
   have hlt : g < w.heap.size := by
    rcases L1o g w.heap.size with hl | hge
    ·exact hl
    rw [L2x hge] at hv; cases hv
   rw [hb.block g hlt]
   exact hv
 obtain ⟨h1, ⟨tp, p, h2⟩, ⟨tq, q, h3⟩⟩ := h
 exact ⟨hg _ _ h1, ⟨tp, p, hg _ _ h2⟩, ⟨tq, q, hg _ _ h3⟩⟩
def Z3a (r : Rs) : Txt × Rs := ((Z30 r).1, ⟨(Z30 r).2.l, (Z30 r).2.bad || !Z12 (Z30 r).1⟩)
def Z55 (s : Txt) : Option Int := match jA s with | .ok v => if Lib.itoa v = s /\ -1000000 <= v /\ v <= 1000000 then some v else none | _ => none
def Z0k (r : Rs) : Int × Rs := match Z55 (Z30 r).1 with | some v => (v, (Z30 r).2) | none => (0, ⟨(Z30 r).2.l, true⟩)
theorem RdAt.wlen {w : World} {q : Nat} {r : Rs} (h : RdAt w q r) : (Z30 r).1.length <= 140737488355328 := by
 obtain ⟨l, bad⟩ := r
 cases l with
 | nil => simp [Z30]
 | cons s l =>
  obtain ⟨A, c, h0, h1, z0, z1, hr⟩ := h
  obtain ⟨A1, k1, hA0, hc1, hc2, hby, hE⟩ := rSl.elems hr
  obtain ⟨b, off, x, _, _, _, hx, hxl, _⟩ := hE.str (i := 0) (by simp)
  obtain rfl : s = x := L0r hx
  exact hxl
theorem Z86 {q : Nat} {r : Rs} (w : World) (h : RdAt w q r) :
  Calls Tryz.prog 94 #[.pointer (some ⟨q, 0, none⟩)] w fun e w' => e = .returned (.string ⟨(Z3a r).1.toArray⟩) /\ RdAt w' q (Z3a r).2 /\ Only q w w' := by
 have HN := L0 (Y09 w h)
 have hsl := h.wlen
 obtain ⟨⟨s, l1, b1⟩, hn⟩ : ∃ x, Z30 r = x := ⟨_, rfl⟩
 have HR : Hid (Z3a r = (s, ⟨l1, b1 || !Z12 s⟩)) := L0 (by unfold Z3a; rw [hn])
 rw [hn] at HN hsl
 rw [HR.o]
 obtain ⟨f, hf⟩ : ∃ x, Z12 s = x := ⟨_, rfl⟩
 have HM : Hid (∀ w, Calls Tryz.prog 81 #[.string ⟨s.toArray⟩] w fun e w' => e = .returned (.bool f) /\ w = w') := L0 fun w => hf ▸ Z33 s w hsl
 rw [hf]
 clear hn hf h
 go_enter Tryz.func94, Tryz.ntmps94
 cases b1
 all_goals
  go_wp2_with (first | (go_at_call 140; (with_reducible refine HN.o.mono ?_); rintro e w1 ⟨rfl, h1, o1⟩; obtain ⟨k1, z1⟩ := h1.bad; have H1 := L0 h1; have O1 := L0 o1; clear h1 o1) | (go_at_call 81; (with_reducible refine (HM.o w1).mono ?_); rintro e w2 ⟨rfl, rfl⟩))
  go_ret
  exact ⟨rfl, H1.o.setBad _, O1.out.trans (Only.set _ _ _)⟩
theorem Y9r {s : Txt} {v : Int} (h : jA s = .ok v) : Z55 s = if Lib.itoa v = s /\ -1000000 <= v /\ v <= 1000000 then some v else none := by unfold Z55; rw [h]
theorem Y9q {s : Txt} (h : ∀ v, jA s ≠ .ok v) : Z55 s = none := by
 unfold Z55
 split
 ·rename_i v hv; exact absurd hv (h v)
 rfl
theorem X1f {s : Txt} {v : Int} (h : jA s = .ok v) : InI v := by
 unfold jA at h
 split at h
 ·cases h
 rename_i c r
 dsimp only at h
 split at h
 ·cases h
 ·cases h
 rename_i u hu
 split at h
 ·cases h
 split at h
 ·cases h
 rename_i h1 h2
 have hv : (if c.toNat = 45 then -(u : Int) else (u : Int)) = v := by injection h
 unfold InI
 by_cases hc : c.toNat = 45
 ·rw [if_pos hc] at hv
  have : ¬ 9223372036854775808 < u := fun h => h2 ⟨hc, h⟩
  omega
 rw [if_neg hc] at hv
 have : ¬ 9223372036854775808 <= u := fun h => h1 ⟨hc, h⟩
 omega
theorem Z3d {q : Nat} {r : Rs} (w : World) (h : RdAt w q r) (hq : ∀ w', Only q w w' -> LibW w') :
  Calls Tryz.prog 95 #[.pointer (some ⟨q, 0, none⟩)] w fun e w' => e = .returned (.int .i64 (Z0k r).1) /\ RdAt w' q (Z0k r).2 /\ Only q w w' := by
 have HN := L0 (Y09 w h)
 have hsl := h.wlen
 obtain ⟨⟨s, l1, b1⟩, hn⟩ : ∃ x, Z30 r = x := ⟨_, rfl⟩
 have HR : Hid (Z0k r = match Z55 s with | some v => (v, ⟨l1, b1⟩) | none => (0, ⟨l1, true⟩)) := L0 (by unfold Z0k; rw [hn])
 rw [hn] at HN hsl
 rw [HR.o]
 have HL := L0 hq
 have HSL := L0 hsl
 clear hn h hq hsl
 by_cases hok : ∃ v, jA s = .ok v
 ·obtain ⟨v, hv⟩ := hok
  have HV := L0 hv
  have HIN := L0 (X1f hv)
  have HNO := L0 (Y9r hv)
  obtain ⟨t, ht⟩ : ∃ x, Lib.itoa v = x := ⟨_, rfl⟩
  have HIT : Hid (∀ w, LibW w -> Calls Tryz.prog 142 #[.int .i64 v] w fun e w' => e = .returned (.string ⟨t.toArray⟩) /\ Below w.heap.size w w') := L0 fun w hw => ht ▸ Z39 v HIN.o w hw
  rw [ht] at HNO
  clear hv ht
  go_enter Tryz.func95, Tryz.ntmps95
  by_cases hts : t = s
  ·subst hts
   have htt : (t != t) = false := by simp
   by_cases h1 : v < -1000000
   ·have HE : Hid (Z55 t = none) := L0 (by rw [HNO.o, if_neg (by omega)])
    rw [HE.o]
    go_wp2_with (first | (go_at_call 140; (with_reducible refine HN.o.mono ?_); rintro e w1 ⟨rfl, h1, o1⟩; have H1 := L0 h1; have O1 := L0 o1; have L1 := L0 (HL.o _ o1); clear h1 o1) | (go_at_call 141; (with_reducible refine (Y0e _ HSL.o v HV.o w1).mono ?_); rintro e w2 ⟨rfl, hb2⟩; have H2 := L0 (H1.o.below hb2); have O2 := L0 (O1.out.trans (Only.below hb2)); have L2 := L0 (L1.out.below hb2); clear hb2) | (go_at_call 142; (with_reducible refine (HIT.o w2 L2.out).mono ?_); rintro e w3 ⟨rfl, hb3⟩; have h3 := H2.o.below hb3; obtain ⟨k1, z1⟩ := h3.bad; have H3 := L0 h3; have O3 := L0 (O2.out.trans (Only.below hb3)); clear hb3 h3))
    go_ret
    exact ⟨rfl, H3.o.setBad true, O3.out.trans (Only.set _ _ _)⟩
   by_cases h2 : 1000000 < v
   ·have HE : Hid (Z55 t = none) := L0 (by rw [HNO.o, if_neg (by omega)])
    rw [HE.o]
    go_wp2_with (first | (go_at_call 140; (with_reducible refine HN.o.mono ?_); rintro e w1 ⟨rfl, h1, o1⟩; have H1 := L0 h1; have O1 := L0 o1; have L1 := L0 (HL.o _ o1); clear h1 o1) | (go_at_call 141; (with_reducible refine (Y0e _ HSL.o v HV.o w1).mono ?_); rintro e w2 ⟨rfl, hb2⟩; have H2 := L0 (H1.o.below hb2); have O2 := L0 (O1.out.trans (Only.below hb2)); have L2 := L0 (L1.out.below hb2); clear hb2) | (go_at_call 142; (with_reducible refine (HIT.o w2 L2.out).mono ?_); rintro e w3 ⟨rfl, hb3⟩; have h3 := H2.o.below hb3; obtain ⟨k1, z1⟩ := h3.bad; have H3 := L0 h3; have O3 := L0 (O2.out.trans (Only.below hb3)); clear hb3 h3))
    go_ret
    exact ⟨rfl, H3.o.setBad true, O3.out.trans (Only.set _ _ _)⟩
   have HE : Hid (Z55 t = some v) := L0 (by rw [HNO.o, if_pos ⟨rfl, by omega, by omega⟩])
   rw [HE.o]
   go_wp2_with (first | (go_at_call 140; (with_reducible refine HN.o.mono ?_); rintro e w1 ⟨rfl, h1, o1⟩; have H1 := L0 h1; have O1 := L0 o1; have L1 := L0 (HL.o _ o1); clear h1 o1) | (go_at_call 141; (with_reducible refine (Y0e _ HSL.o v HV.o w1).mono ?_); rintro e w2 ⟨rfl, hb2⟩; have H2 := L0 (H1.o.below hb2); have O2 := L0 (O1.out.trans (Only.below hb2)); have L2 := L0 (L1.out.below hb2); clear hb2) | (go_at_call 142; (with_reducible refine (HIT.o w2 L2.out).mono ?_); rintro e w3 ⟨rfl, hb3⟩; have h3 := H2.o.below hb3; obtain ⟨k1, z1⟩ := h3.bad; have H3 := L0 h3; have O3 := L0 (O2.out.trans (Only.below hb3)); clear hb3 h3))
   go_ret
   exact ⟨rfl, H3.o, O3.out⟩
  have htt : (t != s) = true := by simpa using hts
  have htf : (t == s) = false := by simpa using hts
  have HE : Hid (Z55 s = none) := L0 (by rw [HNO.o, if_neg (fun h => hts h.1)])
  rw [HE.o]
  go_wp2_with (first | (go_at_call 140; (with_reducible refine HN.o.mono ?_); rintro e w1 ⟨rfl, h1, o1⟩; have H1 := L0 h1; have O1 := L0 o1; have L1 := L0 (HL.o _ o1); clear h1 o1) | (go_at_call 141; (with_reducible refine (Y0e _ HSL.o v HV.o w1).mono ?_); rintro e w2 ⟨rfl, hb2⟩; have H2 := L0 (H1.o.below hb2); have O2 := L0 (O1.out.trans (Only.below hb2)); have L2 := L0 (L1.out.below hb2); clear hb2) | (go_at_call 142; (with_reducible refine (HIT.o w2 L2.out).mono ?_); rintro e w3 ⟨rfl, hb3⟩; have h3 := H2.o.below hb3; obtain ⟨k1, z1⟩ := h3.bad; have H3 := L0 h3; have O3 := L0 (O2.out.trans (Only.below hb3)); clear hb3 h3))
  go_ret
  exact ⟨rfl, H3.o.setBad true, O3.out.trans (Only.set _ _ _)⟩
 have HE : Hid (Z55 s = none) := L0 (Y9q fun v h => hok ⟨v, h⟩)
 have HK : Hid (∀ v, jA s ≠ .ok v) := L0 fun v h => hok ⟨v, h⟩
 rw [HE.o]
 clear hok
 go_enter Tryz.func95, Tryz.ntmps95
 go_wp2_with (first | (go_at_call 140; (with_reducible refine HN.o.mono ?_); rintro e w1 ⟨rfl, h1, o1⟩; have H1 := L0 h1; have O1 := L0 o1; have L1 := L0 (HL.o _ o1); clear h1 o1) | (go_at_call 141; (with_reducible refine (X0s _ HSL.o HK.o w1 L1.out).mono ?_); rintro e w3 ⟨n3, N3, rfl, hb3⟩; have h3 := H1.o.below hb3; obtain ⟨k1, z1⟩ := h3.bad; have H3 := L0 h3; have O3 := L0 (O1.out.trans (Only.below hb3)); clear hb3 h3))
 go_ret
 exact ⟨rfl, H3.o.setBad true, O3.out.trans (Only.set _ _ _)⟩
theorem Z7b (r : Rs) : -1000000 <= (Z0k r).1 /\ (Z0k r).1 <= 1000000 := by
 unfold Z0k
 cases h : Z55 (Z30 r).1 with
 | none => exact ⟨by dsimp only; omega, by dsimp only; omega⟩
 | some v =>
  unfold Z55 at h
  split at h
  ·split at h
   ·rename_i h1
    injection h with h
    subst h
    exact h1.2
   cases h
  cases h
theorem Z80 (r : Rs) : (Z30 r).2.l.length <= r.l.length := by
 unfold Z30
 split <;> simp_all
theorem Z2a (r : Rs) (s : Txt) : (atR r s).2.l.length <= r.l.length := by
 unfold atR
 split
 ·simp
 split <;> simp_all
theorem Z40 {r : Rs} {s : Txt} (h : (atR r s).1 = true) : (atR r s).2.l.length < r.l.length := by
 unfold atR at h ⊢
 split
 ·rename_i e; rw [e] at h; cases h
 rename_i x l e
 rw [e] at h
 dsimp only at h
 split
 ·simp [e]
 rename_i hx; rw [if_neg hx] at h; cases h
theorem Z3b (r : Rs) : (Z0k r).2.l.length <= r.l.length := by
 unfold Z0k
 have := Z80 r
 split <;> exact this
def Z1m (r : Rs) : Rg × Rs :=
 if (atR (Z0k r).2 [46, 46]).1 then
  (((Z0k r).1, (Z0k (atR (Z0k r).2 [46, 46]).2).1), ⟨(Z0k (atR (Z0k r).2 [46, 46]).2).2.l, (Z0k (atR (Z0k r).2 [46, 46]).2).2.bad || decide ((Z0k (atR (Z0k r).2 [46, 46]).2).1 <= (Z0k r).1)⟩)
 else (((Z0k r).1, (Z0k r).1), (atR (Z0k r).2 [46, 46]).2)
theorem Z5q (r : Rs) : (Z1m r).2.l.length <= r.l.length := by
 unfold Z1m
 have h1 := Z3b r
 have h2 := Z2a (Z0k r).2 [46, 46]
 have h3 := Z3b (atR (Z0k r).2 [46, 46]).2
 split <;> dsimp only <;> omega
def Z29 : Nat -> Rs -> List Rg -> List Rg × Rs
 | 0, r, acc => (acc, r)
 | f + 1, r, acc => if r.bad then (acc, r) else if (atR (Z1m r).2 [124]).1 then Z29 f (atR (Z1m r).2 [124]).2 (acc ++ [(Z1m r).1]) else (acc ++ [(Z1m r).1], (atR (Z1m r).2 [124]).2)
def Z1v (r : Rs) (acc : List Rg) : List Rg × Rs := Z29 (r.l.length + 1) r acc
theorem Y5c : ∀ (f g : Nat) (r : Rs) (acc : List Rg), r.l.length < f -> r.l.length < g -> Z29 f r acc = Z29 g r acc := by
 intro f
 induction f with
 | zero => intro g r acc h; omega
 | succ f ih =>
  intro g r acc h hg
  cases g with
  | zero => omega
  | succ g =>
   simp only [Z29]
   split
   ·rfl
   split
   ·rename_i h1
    have h2 := Z40 h1
    have h3 := Z5q r
    exact ih g _ _ (by omega) (by omega)
   rfl
theorem Y3i {r : Rs} (acc : List Rg) (h : r.bad = true) : Z1v r acc = (acc, r) := by
 unfold Z1v
 simp only [Z29]
 rw [if_pos h]
theorem Z5j {r r5 r6 : Rs} {x : Rg} (acc : List Rg) (h : r.bad = false) (h1 : Z1m r = (x, r5)) (h2 : atR r5 [124] = (true, r6)) : Z1v r acc = Z1v r6 (acc ++ [x]) := by
 have e1 : Z1v r acc = Z29 r.l.length (atR (Z1m r).2 [124]).2 (acc ++ [(Z1m r).1]) := by
  unfold Z1v
  simp only [Z29]
  rw [if_neg (by simp [h]), if_pos (by rw [h1, h2])]
 rw [e1, h1, h2]
 have h4 : (atR r5 [124]).2.l.length < r5.l.length := Z40 (by rw [h2])
 have h3 := Z5q r
 rw [h1] at h3
 rw [h2] at h4
 dsimp only at h3 h4
 show Z29 r.l.length r6 (acc ++ [x]) = Z29 (r6.l.length + 1) r6 (acc ++ [x])
 exact Y5c _ _ _ _ (by omega) (by omega)
theorem Z4c {r r5 r6 : Rs} {x : Rg} (acc : List Rg) (h : r.bad = false) (h1 : Z1m r = (x, r5)) (h2 : atR r5 [124] = (false, r6)) : Z1v r acc = (acc ++ [x], r6) := by
 unfold Z1v
 simp only [Z29]
 rw [if_neg (by simp [h]), if_neg (by rw [h1, h2]; simp), h1, h2]
def Z3f (r : Rs) : Cl × Rs :=
 if (atR r [42]).1 then (⟨false, []⟩, (atR r [42]).2)
 else (⟨(atR (atR r [42]).2 [110, 111, 116]).1, (Z1v (atR (atR r [42]).2 [110, 111, 116]).2 []).1⟩, (Z1v (atR (atR r [42]).2 [110, 111, 116]).2 []).2)
def Y5v (w : World) (q : Nat) : Nat := match w.cell? ⟨q, 0, none⟩ with | some (.slice _ n _) => n | _ => 0
theorem RdAt.len {w : World} {q : Nat} {r : Rs} (h : RdAt w q r) : Y5v w q = r.l.length := by
 obtain ⟨A, c, h0, _⟩ := h
 unfold Y5v
 rw [h0]
theorem Own.other {α : Type} {R : Rd α} {e : TypeId} {w : World} {base : Nat} {S0 : Nat -> Prop} {v : Value} {xs : List α} (h : Own R e w base S0 v xs) (hF : Flat R) {b i : Nat} (ha : ∀ g, v.ownBlock = some g -> g ≠ b) (u : Value) : Own R e (w.setCell ⟨b, i, none⟩ u) base (fun _ => False) v xs := by
 obtain ⟨S, ⟨cells, h1, _, h3, h4⟩, _⟩ := h
 refine ⟨fun _ => False, ⟨cells, h1.kept (Z0p w ⟨b, i, none⟩ u) ?_, fun _ _ h => h, h3, fun i x hx => hF _ _ _ _ _ _ (h4 i x hx)⟩, fun _ h => h.elim⟩
 cases hv : v.ownBlock with
 | none => exact .inl rfl
 | some g => exact .inr fun e => ha g hv (by injection e)
theorem Only.trans_below {q : Nat} {w w' w'' : World} (h : Only q w w') {B : Nat} (hb : Below B w' w'') (hB : w.heap.size <= B) : Only q w w'' :=
 ⟨hb.os.trans h.os, hb.tape.trans h.tape, hb.output.trans h.output, L0h h.size hb.size, fun k hk hne => (hb.block k (L0c hk hB)).trans (h.block k hk hne)⟩
theorem Only.new {q : Nat} {w w' : World} (h : Only q w w') {b : Nat} (hb : w.heap.size <= b) (i : Nat) (u : Value) : Only q w (w'.setCell ⟨b, i, none⟩ u) :=
 ⟨h.os, h.tape, h.output, by simpa using h.size, fun k hk hne => (L2q w' ⟨b, i, none⟩ u k (by show k ≠ b; omega)).trans (h.block k hk hne)⟩
structure CellI (w : World) (q q2 q3 B0 : Nat) (no : Bool) (r : Rs) (u : Value) (acc : List Rg) (wr : World) : Prop where
 rd : RdAt wr q r
 c0 : wr.cell? ⟨q3, 0, none⟩ = some (.bool no)
 c1 : wr.cell? ⟨q3, 1, none⟩ = some u
 z1 : wr.frozen? ⟨q3, 1, none⟩ = false
 f0 : wr.cell? ⟨q2, 0, none⟩ = some (.bool false)
 f1 : wr.cell? ⟨q2, 1, none⟩ = some (.slice none 0 0)
 y : ∀ i, wr.frozen? ⟨q2, i, none⟩ = false
 own : Own rRg 123 wr B0 (fun _ => False) u acc
 only : Only q w wr
 hB : B0 <= wr.heap.size
 hq : q < w.heap.size /\ w.heap.size <= q2 /\ q2 < q3 /\ q3 < B0
theorem CellI.step {w : World} {q q2 q3 B0 : Nat} {no : Bool} {r r' : Rs} {u : Value} {acc : List Rg} {wr wr' : World} (h : CellI w q q2 q3 B0 no r u acc wr) (ho : Only q wr wr') (hr : RdAt wr' q r') : CellI w q q2 q3 B0 no r' u acc wr' := by
 obtain ⟨h1, h2, h3, h4⟩ := h.hq
 have hB := h.hB
 have n2 : q2 ≠ q := by omega
 have n3 : q3 ≠ q := by omega
 exact ⟨hr, (ho.cell (by omega) n3 0).trans h.c0, (ho.cell (by omega) n3 1).trans h.c1, (ho.frozen (by omega) n3 1).trans h.z1, (ho.cell (by omega) n2 0).trans h.f0, (ho.cell (by omega) n2 1).trans h.f1, fun i => (ho.frozen (by omega) n2 i).trans (h.y i),
  h.own.only ho (by omega), h.only.trans ho, L0h hB ho.size, h.hq⟩
theorem CellI.later {w : World} {q q2 q3 B0 : Nat} {no : Bool} {r : Rs} {u : Value} {acc : List Rg} {wr : World} (h : CellI w q q2 q3 B0 no r u acc wr) {b : Nat} (hb : B0 <= b) (hu : ∀ g, u.ownBlock = some g -> g ≠ b) {i : Nat} {v : Value} (ho : Only q w (wr.setCell ⟨b, i, none⟩ v)) : CellI w q q2 q3 B0 no r u acc (wr.setCell ⟨b, i, none⟩ v) := by
 obtain ⟨h1, h2, h3, h4⟩ := h.hq
 have n3 : ¬ (b = q3) := by omega
 have n2 : ¬ (b = q2) := by omega
 exact ⟨h.rd.other (by omega) _ _, (L0a _ _ _ _ (by simp <;> omega)).trans h.c0, (L0a _ _ _ _ (by simp <;> omega)).trans h.c1, by rw [L0k]; exact h.z1, (L0a _ _ _ _ (by simp <;> omega)).trans h.f0, (L0a _ _ _ _ (by simp <;> omega)).trans h.f1, fun j => by rw [L0k]; exact h.y j,
  h.own.other Y4p hu _, ho, by simpa using h.hB, h.hq⟩
theorem CellI.grow {w : World} {q q2 q3 B0 : Nat} {no : Bool} {r : Rs} {u v : Value} {acc acc' : List Rg} {wr w' : World} (h : CellI w q q2 q3 B0 no r u acc wr) (hb : Below B0 wr w') (ho : Own rRg 123 w' B0 (fun _ => False) v acc') : CellI w q q2 q3 B0 no r v acc' (w'.setCell ⟨q3, 1, none⟩ v) /\ w'.cell? ⟨q3, 1, none⟩ = some u /\ w'.frozen? ⟨q3, 1, none⟩ = false := by
 obtain ⟨h1, h2, h3, h4⟩ := h.hq
 have n2 : ¬ (q3 = q2) := by omega
 have n0 : ¬ (q3 = q) := by omega
 have k := (hb.ce 1 h4).trans h.c1
 have z := (hb.fr 1 h4).trans h.z1
 have hrd : RdAt w' q r := by
  obtain ⟨A, c, a0, a1, b0, b1, hr⟩ := h.rd
  have hq : q < B0 := by omega
  exact ⟨A, c, (hb.ce 0 hq).trans a0, (hb.ce 1 hq).trans a1, (hb.fr 0 hq).trans b0, (hb.fr 1 hq).trans b1, (rSl rStr).keep hr (.of_belowB hb fun b hb' => by omega)⟩
 have hon : Only q w w' := h.only.trans_below hb (by omega)
 refine ⟨⟨hrd.other (by omega) _ _, (cso).trans ((hb.ce 0 h4).trans h.c0), L0e _ _ _ k, by rw [L0k]; exact z, (L0a _ _ _ _ (by simp <;> omega)).trans ((hb.cell (p := ⟨q2, 0, none⟩) (by show q2 < _; omega)).trans h.f0), (L0a _ _ _ _ (by simp <;> omega)).trans ((hb.cell (p := ⟨q2, 1, none⟩) (by show q2 < _; omega)).trans h.f1), fun i => by rw [L0k]; exact (hb.frozen (p := ⟨q2, i, none⟩) (by show q2 < _; omega)).trans (h.y i),
  ho.other Y4p (fun g hg => by have := (ho.lt g hg).1; omega) _, hon.new (by omega) _ _, by have := h.hB; have := hb.size; simp; omega, h.hq⟩, k, z⟩
theorem CellI.mark {w : World} {q q2 q3 B0 : Nat} {no : Bool} {r : Rs} {u : Value} {acc : List Rg} {wr : World} (h : CellI w q q2 q3 B0 no r u acc wr) (X : Bool) {b : Nat} (hb : q < b) {x y : Value} (m0 : wr.cell? ⟨b, 0, none⟩ = some x) (m1 : wr.cell? ⟨b, 1, none⟩ = some y) :
  ∃ W6, wr.setCell ⟨q, 1, none⟩ (.bool X) = W6 /\ Hid (CellI w q q2 q3 B0 no ⟨r.l, X⟩ u acc W6) /\ W6.cell? ⟨b, 0, none⟩ = some x /\ W6.cell? ⟨b, 1, none⟩ = some y /\ W6.cell? ⟨q3, 1, none⟩ = some u := by
 have hne : ¬ (q = b) := by omega
 have k := h.step (Only.set _ _ _) (h.rd.setBad X)
 exact ⟨_, rfl, L0 k, (cso).trans m0, (L0a _ _ _ _ (by simp <;> omega)).trans m1, k.c1⟩
theorem CellI.second {w : World} {q q2 q3 B0 : Nat} {no : Bool} {r : Rs} {u : Value} {acc : List Rg} {wr : World} (h : CellI w q q2 q3 B0 no r u acc wr) {b : Nat} (hB : B0 <= b) (hq : q < b) (hw : w.heap.size <= b) (hu : ∀ g, u.ownBlock = some g -> g ≠ b) {x y : Value} (v : Value) (p0 : wr.cell? ⟨b, 0, none⟩ = some x) (p1 : wr.cell? ⟨b, 1, none⟩ = some y) :
  ∃ W5, wr.setCell ⟨b, 1, none⟩ v = W5 /\ Hid (CellI w q q2 q3 B0 no r u acc W5) /\ W5.cell? ⟨b, 0, none⟩ = some x /\ W5.cell? ⟨b, 1, none⟩ = some v /\ W5.cell? ⟨q, 1, none⟩ = some (.bool r.bad) /\ W5.frozen? ⟨q, 1, none⟩ = false :=
 ⟨_, rfl, L0 (h.later hB hu (h.only.new hw _ _)), (cso).trans p0, L0e _ _ _ p1, (h.rd.other hq _ _).bad.1, (h.rd.other hq _ _).bad.2⟩
theorem Y8c {w : World} {q : Nat} {u0 u1 : Value} (v0 v1 : Value) (h0 : w.cell? ⟨q, 0, none⟩ = some u0) (h1 : w.cell? ⟨q, 1, none⟩ = some u1) :
  ∃ W, (w.setCell ⟨q, 0, none⟩ v0).setCell ⟨q, 1, none⟩ v1 = W /\ W.cell? ⟨q, 0, none⟩ = some v0 /\ W.cell? ⟨q, 1, none⟩ = some v1 := by
 have o : ∀ (w : World) (i j : Nat) (v : Value), i ≠ j -> (w.setCell ⟨q, i, none⟩ v).cell? ⟨q, j, none⟩ = w.cell? ⟨q, j, none⟩ := fun w i j v h => L0a _ _ _ _ (by simp <;> omega)
 refine ⟨_, rfl, ?_, ?_⟩
 ·rw [o _ 1 0 _ (by decide)]
  exact L0e _ _ _ h0
 exact L0e _ _ _ ((o _ 0 1 _ (by decide)).trans h1)
theorem CellI.start {w W0 w2 : World} {q : Nat} {no : Bool} {r : Rs} {ty : TypeId} (f0 : W0.cell? ⟨w.heap.size, 0, none⟩ = some (.bool false)) (f1 : W0.cell? ⟨w.heap.size, 1, none⟩ = some (.slice none 0 0)) (y : ∀ i, W0.frozen? ⟨w.heap.size, i, none⟩ = false) (hs : w.heap.size < W0.heap.size) (hq : q < w.heap.size) (ho : Only q w W0) (hr : RdAt w2 q r) (h2 : Only q W0 w2) :
  ∃ W3, w2.alloc (.cells #[.bool no, .slice none 0 0] ty) = W3 /\ W3.frozen? ⟨w2.heap.size, 1, none⟩ = false /\ W3.cell? ⟨w2.heap.size, 1, none⟩ = some (.slice none 0 0) /\ ∃ W4, W3.setCell ⟨w2.heap.size, 1, none⟩ (.slice none 0 0) = W4 /\ Hid (CellI w q w.heap.size w2.heap.size W3.heap.size no r (.slice none 0 0) [] W4) /\ Hid (w2.heap.size < W3.heap.size) := by
 have hne : w.heap.size ≠ q := by omega
 have hs2 := h2.size
 have hlt : w.heap.size < w2.heap.size := by omega
 have k : (w2.alloc (.cells #[.bool no, .slice none 0 0] ty)).cell? ⟨w2.heap.size, 1, none⟩ = some (.slice none 0 0) := L0b _ _ _ _
 have n2 : ¬ (w2.heap.size = w.heap.size) := by omega
 refine ⟨_, rfl, by simp, k, _, rfl, L0 ⟨(hr.alloc _).other (by omega) _ _, (cso).trans (L0b _ _ _ _), L0e _ _ _ k, by rw [L0k]; simp, ?_, ?_, fun i => ?_, Own.nil _ _ _ _ _, ((ho.trans h2).trans (Only.alloc _ _)).new (by omega) _ _, by simp, ⟨hq, L0f _, hlt, by simp⟩⟩, L0 (by simp)⟩
 ·exact (L0a _ _ _ _ (by simp <;> omega)).trans ((L0j _ _ _ hlt).trans ((h2.cell hs hne 0).trans f0))
 ·exact (L0a _ _ _ _ (by simp <;> omega)).trans ((L0j _ _ _ hlt).trans ((h2.cell hs hne 1).trans f1))
 rw [L0k]
 exact (((L0m w2.heap.size w2).alloc (L0f _) (.cells #[.bool no, .slice none 0 0] ty)).fr i hlt).trans ((h2.frozen hs hne i).trans (y i))
theorem CellI.done {w : World} {q q2 q3 B0 : Nat} {no : Bool} {r : Rs} {u : Value} {acc : List Rg} {wr : World} (h : CellI w q q2 q3 B0 no r u acc wr) : ∃ W, (wr.setCell ⟨q2, 0, none⟩ (.bool no)).setCell ⟨q2, 1, none⟩ u = W /\ W.cell? ⟨q2, 0, none⟩ = some (.bool no) /\ W.cell? ⟨q2, 1, none⟩ = some u /\ Hid (Own rRg 123 W w.heap.size (fun _ => False) u acc /\ RdAt W q r /\ Only q w W) := by
 obtain ⟨h1, h2, h3, h4⟩ := h.hq
 obtain ⟨W, e, n0, n1⟩ := Y8c (.bool no) u h.f0 h.f1
 have hlt := h.own.lt
 refine ⟨W, e, n0, n1, L0 ?_⟩
 rw [<- e]
 have hne : ∀ g, u.ownBlock = some g -> g ≠ q2 := fun g hg => by have := (hlt g hg).1; omega
 exact ⟨((h.own.other Y4p hne _).other Y4p hne _).lower (by omega), (h.rd.other (by omega) _ _).other (by omega) _ _, (h.only.new h2 _ _).new h2 _ _⟩
theorem Y7y {q : Nat} {r : Rs} (w : World) (h : RdAt w q r) (hl : r.l.length <= 4000) (hq : ∀ w', Only q w w' -> LibW w') :
  Calls Tryz.prog 143 #[.pointer (some ⟨q, 0, none⟩)] w fun e w' => ∃ v, e = .returned (.agg #[.bool (Z3f r).1.no, v]) /\ Own rRg 123 w' w.heap.size (fun _ => False) v (Z3f r).1.rs /\ RdAt w' q (Z3f r).2 /\ Only q w w' := by
 have hql := h.lt
 obtain ⟨W0, e0, HR0, y0, HO0, hs0⟩ : ∃ W0, w.alloc (.cells #[.bool false, .slice none 0 0] 97) = W0 /\ Hid (RdAt W0 q r) /\ (∀ i, W0.frozen? ⟨w.heap.size, i, none⟩ = false) /\ Hid (Only q w W0) /\ Hid (w.heap.size < W0.heap.size) := ⟨_, rfl, L0 (h.alloc _), fun i => by simp, L0 (Only.alloc _ _), L0 (by simp)⟩; have f0 := ac0 e0; have f1 := ac1 e0
 have HS0 := hs0
 have HQL := L0 hql
 have HL := L0 hq
 have HLN := L0 hl
 obtain ⟨⟨s1, r1⟩, h1⟩ : ∃ x, atR r [42] = x := ⟨_, rfl⟩
 have HAT1 : Hid (Calls Tryz.prog 93 #[.pointer (some ⟨q, 0, none⟩), .string ⟨#[42]⟩] W0 fun e w' => e = .returned (.bool s1) /\ RdAt w' q r1 /\ Only q W0 w') := L0 (by have := Z3i [42] W0 HR0.o; rw [h1] at this; exact this)
 have HLN1 : Hid (r1.l.length <= r.l.length) := L0 (by have := Z2a r [42]; rw [h1] at this; exact this)
 have HF0 := L0 f0
 have HF1 := L0 f1
 have HY0 := L0 y0
 clear h hl hq hql y0
 go_enter Tryz.func143, Tryz.ntmps143
 cases s1
 ·obtain ⟨⟨no, r2⟩, h2⟩ : ∃ x, atR r1 [110, 111, 116] = x := ⟨_, rfl⟩
  have HCR : Hid (Z3f r = (⟨no, (Z1v r2 []).1⟩, (Z1v r2 []).2)) := L0 (by unfold Z3f; rw [h1]; dsimp only; rw [h2]; rfl)
  have HAT2 : Hid (∀ w, RdAt w q r1 -> Calls Tryz.prog 93 #[.pointer (some ⟨q, 0, none⟩), .string ⟨#[110, 111, 116]⟩] w fun e w' => e = .returned (.bool no) /\ RdAt w' q r2 /\ Only q w w') := L0 fun w hr => by have := Z3i [110, 111, 116] w hr; rw [h2] at this; exact this
  have HLN2 : Hid (r2.l.length <= 4000) := L0 (by have := Z2a r1 [110, 111, 116]; rw [h2] at this; have := HLN1.o; have := HLN.o; dsimp only at *; omega)
  rw [HCR.o]
  clear h1 h2
  dsimp only
  obtain ⟨⟨fin, rfin⟩, hfin⟩ : ∃ x, Z1v r2 [] = x := ⟨_, rfl⟩
  have HFIN := L0 hfin
  rw [hfin]
  clear hfin
  dsimp only
  go_wp2_with (first
   | (go_at_call 93; first
    | ((with_reducible refine HAT1.o.mono ?_); rintro e w1 ⟨rfl, hr1, o1⟩; have H1 := L0 hr1; have O1 := L0 o1; clear hr1 o1)
    | ((with_reducible refine (HAT2.o w1 H1.o).mono ?_); rintro e w2 ⟨rfl, hr2, o2⟩; have H2 := L0 hr2; have O2 := L0 (O1.out.trans o2); clear hr2 o2; obtain ⟨W3, e3, z3, k3, W4, e4, HCI, HS3⟩ : ∃ W3, w2.alloc (.cells #[.bool no, .slice none 0 0] 97) = W3 /\ W3.frozen? ⟨w2.heap.size, 1, none⟩ = false /\ W3.cell? ⟨w2.heap.size, 1, none⟩ = some (.slice none 0 0) /\ ∃ W4, W3.setCell ⟨w2.heap.size, 1, none⟩ (.slice none 0 0) = W4 /\ Hid (CellI w q w.heap.size w2.heap.size W3.heap.size no r2 (.slice none 0 0) [] W4) /\ Hid (w2.heap.size < W3.heap.size) := CellI.start HF0.o HF1.o HY0.o HS0.o HQL.o HO0.o H2.o O2.out)))
  clear e0 e3 e4 z3 k3 f0 f1 hs0
  generalize hq3 : w2.heap.size = q3 at *
  generalize hB0 : W3.heap.size = B0 at *
  clear hq3 hB0
  obtain ⟨q2, hq2⟩ : ∃ n, w.heap.size = n := ⟨_, rfl⟩
  rw [hq2] at HCI HQL
  rw [hq2]
  clear hq2
  go_loopw [] (fun wr => ∃ (rr : Rs) (acc : List Rg) (u : Value), wr.cell? ⟨q, 1, none⟩ = some (.bool rr.bad) /\ wr.cell? ⟨q3, 0, none⟩ = some (.bool no) /\ wr.cell? ⟨q3, 1, none⟩ = some u /\ Hid (CellI w q q2 q3 B0 no rr u acc wr) /\ Hid (Z1v rr acc = (fin, rfin)) /\ Hid (acc.length + rr.l.length <= 4000)) (fun wr => Y5v wr q)
  exact ⟨r2, [], _, HCI.o.rd.bad.1, HCI.o.c0, HCI.o.c1, HCI, HFIN, L0 (by simpa using HLN2.o)⟩
  clear HCI HFIN HLN2
  obtain ⟨⟨l1, b1⟩, acc, u, k0, k1, k2, HCI, HCE, HLA⟩ := hrel
  cases b1
  ·obtain ⟨Au, lu, rfl⟩ := HCI.o.own.value
   have hli := Z7b ⟨l1, false⟩
   obtain ⟨⟨n, r2'⟩, hn⟩ : ∃ x, Z0k ⟨l1, false⟩ = x := ⟨_, rfl⟩
   rw [hn] at hli
   have hlen1 := Z3b ⟨l1, false⟩
   rw [hn] at hlen1
   obtain ⟨⟨b, r3⟩, hp1⟩ : ∃ x, atR r2' [46, 46] = x := ⟨_, rfl⟩
   have hlen2 := Z2a r2' [46, 46]
   rw [hp1] at hlen2
   have HN1 : Hid (Calls Tryz.prog 95 #[.pointer (some ⟨q, 0, none⟩)] wr fun e w' => e = .returned (.int .i64 n) /\ RdAt w' q r2' /\ Only q wr w') := L0 (by have := Z3d wr HCI.o.rd (fun w' ho => HL.o _ (HCI.o.only.trans ho)); rw [hn] at this; exact this)
   have HP1 : Hid (∀ w, RdAt w q r2' -> Calls Tryz.prog 93 #[.pointer (some ⟨q, 0, none⟩), .string ⟨#[46, 46]⟩] w fun e w' => e = .returned (.bool b) /\ RdAt w' q r3 /\ Only q w w') := L0 fun w hr => by have := Z3i [46, 46] w hr; rw [hp1] at this; exact this
   have HBY : Hid ((acc.length + 1) * rRg.bytes <= 140737488355328) := L0 (by have := HLA.o; dsimp only at this; simp only [rRg]; omega)
   cases b
   ·obtain ⟨⟨p, r6⟩, hp2⟩ : ∃ x, atR r3 [124] = x := ⟨_, rfl⟩
    have hx : Z1m ⟨l1, false⟩ = ((n, n), r3) := by unfold Z1m; rw [hn]; dsimp only; rw [hp1]; rfl
    have HP2 : Hid (∀ w, RdAt w q r3 -> Calls Tryz.prog 93 #[.pointer (some ⟨q, 0, none⟩), .string ⟨#[124]⟩] w fun e w' => e = .returned (.bool p) /\ RdAt w' q r6 /\ Only q w w') := L0 fun w hr => by have := Z3i [124] w hr; rw [hp2] at this; exact this
    have HNI : Hid (InI n /\ InI n) := L0 (by unfold InI; dsimp only at hli; omega)
    cases p
    ·have HCE2 := L0 ((Z4c acc rfl hx hp2).symm.trans HCE.o)
     clear hn hp1 hp2 hx hli hlen1 hlen2
     go_wp2_with (first | (go_at_call 95; first | ((with_reducible refine HN1.o.mono ?_); rintro e w1 ⟨rfl, hr1, o1⟩; have o1' := HCI.o.only.trans o1; obtain ⟨W2, e2, HC2, y2, HS2⟩ : ∃ W2, w1.alloc (.cells #[.int .i64 n, .int .i64 n] 123) = W2 /\ Hid (CellI w q q2 q3 B0 no r2' (.slice Au acc.length lu) acc W2) /\ W2.frozen? ⟨w1.heap.size, 1, none⟩ = false /\ Hid (w1.heap.size < W2.heap.size /\ B0 <= w1.heap.size /\ q < w1.heap.size /\ w.heap.size <= w1.heap.size /\ ∀ g, (Value.slice Au acc.length lu).ownBlock = some g -> g ≠ w1.heap.size) := ⟨_, rfl, L0 ((HCI.o.step o1 hr1).step (Only.alloc _ _) (hr1.alloc _)), by simp, L0 ⟨by simp, L0h HCI.o.hB o1.size, hr1.lt, o1'.size, fun g hg => (by (have := (HCI.o.own.lt g hg).2; have := o1.size; omega))⟩⟩; have j0 := ac0 e2; have j1 := ac1 e2; clear hr1 o1 o1')) | (go_at_call 93; first | ((with_reducible refine (HP1.o W2 HC2.o.rd).mono ?_); rintro e w3 ⟨rfl, hr3, o3⟩; have HC3 := L0 (HC2.o.step o3 hr3); have i0 := (o3.cell HS2.o.1 (L0v HS2.o.2.2.1) 0).trans j0; have i1 := (o3.cell HS2.o.1 (L0v HS2.o.2.2.1) 1).trans j1; have iz := (o3.frozen HS2.o.1 (L0v HS2.o.2.2.1) 1).trans y2; have kk := HC3.o.c1; have HS3' : Hid (w1.heap.size < w3.heap.size) := L0 (L0c HS2.o.1 o3.size); clear hr3 o3) | ((with_reducible refine (HP2.o W8 HC8.o.rd).mono ?_); rintro e w9 ⟨rfl, hr9, o9⟩; have HC9 := L0 (HC8.o.step o9 hr9); obtain ⟨W9, e9, n0, n1, H9⟩ := HC9.o.done; have g0 := HC9.o.f0; have g1 := HC9.o.f1; have x0 := HC9.o.y 0; have x1 := HC9.o.y 1; have d0 := HC9.o.c0; have d1 := HC9.o.c1; clear hr9 o9)) | (at_builtin; refine Z0a (R := rRg) (x := (n, n)) Z5s rfl (.tmp 42) (.tmp 44) rfl rfl HC3.o.own [.int .i64 n, .int .i64 n] rfl rfl (fun _ => False) ⟨rfl, HNI.o.1, HNI.o.2⟩ (fun _ h => h.elim) HBY.o HC3.o.hB ?_; intro v7 w7 hown7 hb7 _ _; obtain ⟨A7, l7, rfl⟩ : ∃ A7 l7, v7 = .slice A7 (acc.length + 1) l7 := (by (obtain ⟨A7, l7, h⟩ := hown7.value; exact ⟨A7, l7, by rw [h, L0i, L0p]⟩)); obtain ⟨hc8, k8, z8⟩ := HC3.o.grow hb7 hown7; obtain ⟨W8, e8, HC8⟩ : ∃ W8, w7.setCell ⟨q3, 1, none⟩ (.slice A7 (acc.length + 1) l7) = W8 /\ Hid (CellI w q q2 q3 B0 no r3 (.slice A7 (acc.length + 1) l7) (acc ++ [(n, n)]) W8) := ⟨_, rfl, L0 hc8⟩; clear hc8 hown7 hb7))
     refine bodyPost_ret (by simp [results, Tryz.results143, go_sem, n0, n1]; rfl) rfl ?_
     have hz := HCE2.o
     injection hz with hz1 hz2
     exact ⟨_, rfl, by rw [<- hz1]; exact H9.o.1, by rw [<- hz2]; exact H9.o.2.1, H9.o.2.2⟩
    have HCE2 := L0 ((Z5j acc rfl hx hp2).symm.trans HCE.o)
    have HLT : Hid (r6.l.length < l1.length /\ r6.l.length < r3.l.length) := L0 (by have h := Z40 (r := r3) (s := [124]) (by rw [hp2]); rw [hp2] at h; dsimp only at h hlen1 hlen2; omega)
    clear hn hp1 hp2 hx hli hlen1 hlen2
    go_wp2_with (first | (go_at_call 95; first | ((with_reducible refine HN1.o.mono ?_); rintro e w1 ⟨rfl, hr1, o1⟩; have o1' := HCI.o.only.trans o1; obtain ⟨W2, e2, HC2, y2, HS2⟩ : ∃ W2, w1.alloc (.cells #[.int .i64 n, .int .i64 n] 123) = W2 /\ Hid (CellI w q q2 q3 B0 no r2' (.slice Au acc.length lu) acc W2) /\ W2.frozen? ⟨w1.heap.size, 1, none⟩ = false /\ Hid (w1.heap.size < W2.heap.size /\ B0 <= w1.heap.size /\ q < w1.heap.size /\ w.heap.size <= w1.heap.size /\ ∀ g, (Value.slice Au acc.length lu).ownBlock = some g -> g ≠ w1.heap.size) := ⟨_, rfl, L0 ((HCI.o.step o1 hr1).step (Only.alloc _ _) (hr1.alloc _)), by simp, L0 ⟨by simp, L0h HCI.o.hB o1.size, hr1.lt, o1'.size, fun g hg => (by (have := (HCI.o.own.lt g hg).2; have := o1.size; omega))⟩⟩; have j0 := ac0 e2; have j1 := ac1 e2; clear hr1 o1 o1')) | (go_at_call 93; first | ((with_reducible refine (HP1.o W2 HC2.o.rd).mono ?_); rintro e w3 ⟨rfl, hr3, o3⟩; have HC3 := L0 (HC2.o.step o3 hr3); have i0 := (o3.cell HS2.o.1 (L0v HS2.o.2.2.1) 0).trans j0; have i1 := (o3.cell HS2.o.1 (L0v HS2.o.2.2.1) 1).trans j1; have iz := (o3.frozen HS2.o.1 (L0v HS2.o.2.2.1) 1).trans y2; have kk := HC3.o.c1; have HS3' : Hid (w1.heap.size < w3.heap.size) := L0 (L0c HS2.o.1 o3.size); clear hr3 o3) | ((with_reducible refine (HP2.o W8 HC8.o.rd).mono ?_); rintro e w9 ⟨rfl, hr9, o9⟩; have HC9 := L0 (HC8.o.step o9 hr9); clear hr9 o9)) | (at_builtin; refine Z0a (R := rRg) (x := (n, n)) Z5s rfl (.tmp 42) (.tmp 44) rfl rfl HC3.o.own [.int .i64 n, .int .i64 n] rfl rfl (fun _ => False) ⟨rfl, HNI.o.1, HNI.o.2⟩ (fun _ h => h.elim) HBY.o HC3.o.hB ?_; intro v7 w7 hown7 hb7 _ _; obtain ⟨A7, l7, rfl⟩ : ∃ A7 l7, v7 = .slice A7 (acc.length + 1) l7 := (by (obtain ⟨A7, l7, h⟩ := hown7.value; exact ⟨A7, l7, by rw [h, L0i, L0p]⟩)); obtain ⟨hc8, k8, z8⟩ := HC3.o.grow hb7 hown7; obtain ⟨W8, e8, HC8⟩ : ∃ W8, w7.setCell ⟨q3, 1, none⟩ (.slice A7 (acc.length + 1) l7) = W8 /\ Hid (CellI w q q2 q3 B0 no r3 (.slice A7 (acc.length + 1) l7) (acc ++ [(n, n)]) W8) := ⟨_, rfl, L0 hc8⟩; clear hc8 hown7 hb7))
    go_roundw
    exact ⟨r6, acc ++ [(n, n)], _, HC9.o.rd.bad.1, HC9.o.c0, HC9.o.c1, HC9, HCE2, L0 (by have := HLT.o; have := HLA.o; rw [L0i, L0p]; have h2 : acc.length + l1.length <= 4000 := this; omega)⟩
    rw [HC9.o.rd.len, HCI.o.rd.len]; exact HLT.o.1
   have hmi := Z7b r3
   have hlen3 := Z3b r3
   obtain ⟨⟨m, ⟨l4, b4⟩⟩, hm⟩ : ∃ x, Z0k r3 = x := ⟨_, rfl⟩
   rw [hm] at hmi hlen3
   have HNI : Hid (InI n /\ InI m) := L0 (by unfold InI; dsimp only at hli hmi; omega)
   have HN2 : Hid (∀ w', RdAt w' q r3 -> Only q w w' -> Calls Tryz.prog 95 #[.pointer (some ⟨q, 0, none⟩)] w' fun e w'' => e = .returned (.int .i64 m) /\ RdAt w'' q ⟨l4, b4⟩ /\ Only q w' w'') := L0 fun w' hr ho => by have := Z3d w' hr (fun w'' ho' => HL.o _ (ho.trans ho')); rw [hm] at this; exact this
   have hx : Z1m ⟨l1, false⟩ = ((n, m), ⟨l4, b4 || decide (m <= n)⟩) := by unfold Z1m; rw [hn]; dsimp only; rw [hp1]; dsimp only; rw [hm]; rfl
   cases b4
   ·by_cases hmn : m <= n
    ·have hx : Z1m ⟨l1, false⟩ = ((n, m), ⟨l4, true⟩) := by rw [hx, decide_eq_true hmn]; rfl
     obtain ⟨⟨p, r6⟩, hp2⟩ : ∃ x, atR ⟨l4, true⟩ [124] = x := ⟨_, rfl⟩
     have HP2 : Hid (∀ w, RdAt w q ⟨l4, true⟩ -> Calls Tryz.prog 93 #[.pointer (some ⟨q, 0, none⟩), .string ⟨#[124]⟩] w fun e w' => e = .returned (.bool p) /\ RdAt w' q r6 /\ Only q w w') := L0 fun w hr => by have := Z3i [124] w hr; rw [hp2] at this; exact this
     cases p
     ·have HCE2 := L0 ((Z4c acc rfl hx hp2).symm.trans HCE.o)
      clear hn hp1 hp2 hx hm hli hmi hlen1 hlen2 hlen3
      go_wp2_with (first | (go_at_call 95; first | ((with_reducible refine HN1.o.mono ?_); rintro e w1 ⟨rfl, hr1, o1⟩; have o1' := HCI.o.only.trans o1; obtain ⟨W2, e2, HC2, y2, HS2⟩ : ∃ W2, w1.alloc (.cells #[.int .i64 n, .int .i64 n] 123) = W2 /\ Hid (CellI w q q2 q3 B0 no r2' (.slice Au acc.length lu) acc W2) /\ W2.frozen? ⟨w1.heap.size, 1, none⟩ = false /\ Hid (w1.heap.size < W2.heap.size /\ B0 <= w1.heap.size /\ q < w1.heap.size /\ w.heap.size <= w1.heap.size /\ ∀ g, (Value.slice Au acc.length lu).ownBlock = some g -> g ≠ w1.heap.size) := ⟨_, rfl, L0 ((HCI.o.step o1 hr1).step (Only.alloc _ _) (hr1.alloc _)), by simp, L0 ⟨by simp, L0h HCI.o.hB o1.size, hr1.lt, o1'.size, fun g hg => (by (have := (HCI.o.own.lt g hg).2; have := o1.size; omega))⟩⟩; have j0 := ac0 e2; have j1 := ac1 e2; clear hr1 o1 o1') | ((with_reducible refine (HN2.o w3 HC3.o.rd HC3.o.only).mono ?_); rintro e w4 ⟨rfl, hr4, o4⟩; have HC4 := L0 (HC3.o.step o4 hr4); have p1 := (o4.cell HS3'.o (L0v HS2.o.2.2.1) 1).trans i1; have p0 := (o4.cell HS3'.o (L0v HS2.o.2.2.1) 0).trans i0; have pz := (o4.frozen HS3'.o (L0v HS2.o.2.2.1) 1).trans iz; obtain ⟨W5, e5, HC5, m0, m1, hbd, hbz⟩ := HC4.o.second HS2.o.2.1 HS2.o.2.2.1 HS2.o.2.2.2.1 HS2.o.2.2.2.2 (.int .i64 m) p0 p1; obtain ⟨W6, e6, HC6, t0, t1, t2⟩ := HC5.o.mark true HS2.o.2.2.1 m0 m1; clear hr4 o4)) | (go_at_call 93; first | ((with_reducible refine (HP1.o W2 HC2.o.rd).mono ?_); rintro e w3 ⟨rfl, hr3, o3⟩; have HC3 := L0 (HC2.o.step o3 hr3); have i0 := (o3.cell HS2.o.1 (L0v HS2.o.2.2.1) 0).trans j0; have i1 := (o3.cell HS2.o.1 (L0v HS2.o.2.2.1) 1).trans j1; have iz := (o3.frozen HS2.o.1 (L0v HS2.o.2.2.1) 1).trans y2; have kk := HC3.o.c1; have HS3' : Hid (w1.heap.size < w3.heap.size) := L0 (L0c HS2.o.1 o3.size); clear hr3 o3) | ((with_reducible refine (HP2.o W8 HC8.o.rd).mono ?_); rintro e w9 ⟨rfl, hr9, o9⟩; have HC9 := L0 (HC8.o.step o9 hr9); obtain ⟨W9, e9, n0, n1, H9⟩ := HC9.o.done; have g0 := HC9.o.f0; have g1 := HC9.o.f1; have x0 := HC9.o.y 0; have x1 := HC9.o.y 1; have d0 := HC9.o.c0; have d1 := HC9.o.c1; clear hr9 o9)) | (at_builtin; refine Z0a (R := rRg) (x := (n, m)) Z5s rfl (.tmp 42) (.tmp 44) rfl rfl HC6.o.own [.int .i64 n, .int .i64 m] rfl rfl (fun _ => False) ⟨rfl, HNI.o.1, HNI.o.2⟩ (fun _ h => h.elim) HBY.o HC6.o.hB ?_; intro v7 w7 hown7 hb7 _ _; obtain ⟨A7, l7, rfl⟩ : ∃ A7 l7, v7 = .slice A7 (acc.length + 1) l7 := (by (obtain ⟨A7, l7, h⟩ := hown7.value; exact ⟨A7, l7, by rw [h, L0i, L0p]⟩)); obtain ⟨hc8, k8, z8⟩ := HC6.o.grow hb7 hown7; obtain ⟨W8, e8, HC8⟩ : ∃ W8, w7.setCell ⟨q3, 1, none⟩ (.slice A7 (acc.length + 1) l7) = W8 /\ Hid (CellI w q q2 q3 B0 no ⟨l4, true⟩ (.slice A7 (acc.length + 1) l7) (acc ++ [(n, m)]) W8) := ⟨_, rfl, L0 hc8⟩; clear hc8 hown7 hb7))
      refine bodyPost_ret (by simp [results, Tryz.results143, go_sem, n0, n1]; rfl) rfl ?_
      have hz := HCE2.o
      injection hz with hz1 hz2
      exact ⟨_, rfl, by rw [<- hz1]; exact H9.o.1, by rw [<- hz2]; exact H9.o.2.1, H9.o.2.2⟩
     have HCE2 := L0 ((Z5j acc rfl hx hp2).symm.trans HCE.o)
     have HLT : Hid (r6.l.length < l1.length) := L0 (by have h := Z40 (r := ⟨l4, true⟩) (s := [124]) (by rw [hp2]); rw [hp2] at h; dsimp only at h hlen1 hlen2 hlen3; omega)
     clear hn hp1 hp2 hx hm hli hmi hlen1 hlen2 hlen3
     go_wp2_with (first | (go_at_call 95; first | ((with_reducible refine HN1.o.mono ?_); rintro e w1 ⟨rfl, hr1, o1⟩; have o1' := HCI.o.only.trans o1; obtain ⟨W2, e2, HC2, y2, HS2⟩ : ∃ W2, w1.alloc (.cells #[.int .i64 n, .int .i64 n] 123) = W2 /\ Hid (CellI w q q2 q3 B0 no r2' (.slice Au acc.length lu) acc W2) /\ W2.frozen? ⟨w1.heap.size, 1, none⟩ = false /\ Hid (w1.heap.size < W2.heap.size /\ B0 <= w1.heap.size /\ q < w1.heap.size /\ w.heap.size <= w1.heap.size /\ ∀ g, (Value.slice Au acc.length lu).ownBlock = some g -> g ≠ w1.heap.size) := ⟨_, rfl, L0 ((HCI.o.step o1 hr1).step (Only.alloc _ _) (hr1.alloc _)), by simp, L0 ⟨by simp, L0h HCI.o.hB o1.size, hr1.lt, o1'.size, fun g hg => (by (have := (HCI.o.own.lt g hg).2; have := o1.size; omega))⟩⟩; have j0 := ac0 e2; have j1 := ac1 e2; clear hr1 o1 o1') | ((with_reducible refine (HN2.o w3 HC3.o.rd HC3.o.only).mono ?_); rintro e w4 ⟨rfl, hr4, o4⟩; have HC4 := L0 (HC3.o.step o4 hr4); have p1 := (o4.cell HS3'.o (L0v HS2.o.2.2.1) 1).trans i1; have p0 := (o4.cell HS3'.o (L0v HS2.o.2.2.1) 0).trans i0; have pz := (o4.frozen HS3'.o (L0v HS2.o.2.2.1) 1).trans iz; obtain ⟨W5, e5, HC5, m0, m1, hbd, hbz⟩ := HC4.o.second HS2.o.2.1 HS2.o.2.2.1 HS2.o.2.2.2.1 HS2.o.2.2.2.2 (.int .i64 m) p0 p1; obtain ⟨W6, e6, HC6, t0, t1, t2⟩ := HC5.o.mark true HS2.o.2.2.1 m0 m1; clear hr4 o4)) | (go_at_call 93; first | ((with_reducible refine (HP1.o W2 HC2.o.rd).mono ?_); rintro e w3 ⟨rfl, hr3, o3⟩; have HC3 := L0 (HC2.o.step o3 hr3); have i0 := (o3.cell HS2.o.1 (L0v HS2.o.2.2.1) 0).trans j0; have i1 := (o3.cell HS2.o.1 (L0v HS2.o.2.2.1) 1).trans j1; have iz := (o3.frozen HS2.o.1 (L0v HS2.o.2.2.1) 1).trans y2; have kk := HC3.o.c1; have HS3' : Hid (w1.heap.size < w3.heap.size) := L0 (L0c HS2.o.1 o3.size); clear hr3 o3) | ((with_reducible refine (HP2.o W8 HC8.o.rd).mono ?_); rintro e w9 ⟨rfl, hr9, o9⟩; have HC9 := L0 (HC8.o.step o9 hr9); clear hr9 o9)) | (at_builtin; refine Z0a (R := rRg) (x := (n, m)) Z5s rfl (.tmp 42) (.tmp 44) rfl rfl HC6.o.own [.int .i64 n, .int .i64 m] rfl rfl (fun _ => False) ⟨rfl, HNI.o.1, HNI.o.2⟩ (fun _ h => h.elim) HBY.o HC6.o.hB ?_; intro v7 w7 hown7 hb7 _ _; obtain ⟨A7, l7, rfl⟩ : ∃ A7 l7, v7 = .slice A7 (acc.length + 1) l7 := (by (obtain ⟨A7, l7, h⟩ := hown7.value; exact ⟨A7, l7, by rw [h, L0i, L0p]⟩)); obtain ⟨hc8, k8, z8⟩ := HC6.o.grow hb7 hown7; obtain ⟨W8, e8, HC8⟩ : ∃ W8, w7.setCell ⟨q3, 1, none⟩ (.slice A7 (acc.length + 1) l7) = W8 /\ Hid (CellI w q q2 q3 B0 no ⟨l4, true⟩ (.slice A7 (acc.length + 1) l7) (acc ++ [(n, m)]) W8) := ⟨_, rfl, L0 hc8⟩; clear hc8 hown7 hb7))
     go_roundw
     exact ⟨r6, acc ++ [(n, m)], _, HC9.o.rd.bad.1, HC9.o.c0, HC9.o.c1, HC9, HCE2, L0 (by have := HLT.o; have h2 : acc.length + l1.length <= 4000 := HLA.o; rw [L0i, L0p]; omega)⟩
     rw [HC9.o.rd.len, HCI.o.rd.len]; exact HLT.o
    have hx : Z1m ⟨l1, false⟩ = ((n, m), ⟨l4, false⟩) := by rw [hx, decide_eq_false hmn]; rfl
    have hdf : decide (m <= n) = false := decide_eq_false hmn
    obtain ⟨⟨p, r6⟩, hp2⟩ : ∃ x, atR ⟨l4, false⟩ [124] = x := ⟨_, rfl⟩
    have HP2 : Hid (∀ w, RdAt w q ⟨l4, false⟩ -> Calls Tryz.prog 93 #[.pointer (some ⟨q, 0, none⟩), .string ⟨#[124]⟩] w fun e w' => e = .returned (.bool p) /\ RdAt w' q r6 /\ Only q w w') := L0 fun w hr => by have := Z3i [124] w hr; rw [hp2] at this; exact this
    cases p
    ·have HCE2 := L0 ((Z4c acc rfl hx hp2).symm.trans HCE.o)
     clear hn hp1 hp2 hx hm hli hmi hlen1 hlen2 hlen3
     go_wp2_with (first | (go_at_call 95; first | ((with_reducible refine HN1.o.mono ?_); rintro e w1 ⟨rfl, hr1, o1⟩; have o1' := HCI.o.only.trans o1; obtain ⟨W2, e2, HC2, y2, HS2⟩ : ∃ W2, w1.alloc (.cells #[.int .i64 n, .int .i64 n] 123) = W2 /\ Hid (CellI w q q2 q3 B0 no r2' (.slice Au acc.length lu) acc W2) /\ W2.frozen? ⟨w1.heap.size, 1, none⟩ = false /\ Hid (w1.heap.size < W2.heap.size /\ B0 <= w1.heap.size /\ q < w1.heap.size /\ w.heap.size <= w1.heap.size /\ ∀ g, (Value.slice Au acc.length lu).ownBlock = some g -> g ≠ w1.heap.size) := ⟨_, rfl, L0 ((HCI.o.step o1 hr1).step (Only.alloc _ _) (hr1.alloc _)), by simp, L0 ⟨by simp, L0h HCI.o.hB o1.size, hr1.lt, o1'.size, fun g hg => (by (have := (HCI.o.own.lt g hg).2; have := o1.size; omega))⟩⟩; have j0 := ac0 e2; have j1 := ac1 e2; clear hr1 o1 o1') | ((with_reducible refine (HN2.o w3 HC3.o.rd HC3.o.only).mono ?_); rintro e w4 ⟨rfl, hr4, o4⟩; have HC4 := L0 (HC3.o.step o4 hr4); have p1 := (o4.cell HS3'.o (L0v HS2.o.2.2.1) 1).trans i1; have p0 := (o4.cell HS3'.o (L0v HS2.o.2.2.1) 0).trans i0; have pz := (o4.frozen HS3'.o (L0v HS2.o.2.2.1) 1).trans iz; obtain ⟨W5, e5, HC5, m0, m1, hbd, hbz⟩ := HC4.o.second HS2.o.2.1 HS2.o.2.2.1 HS2.o.2.2.2.1 HS2.o.2.2.2.2 (.int .i64 m) p0 p1; obtain ⟨W6, e6, HC6, t0, t1, t2⟩ := HC5.o.mark false HS2.o.2.2.1 m0 m1; clear hr4 o4)) | (go_at_call 93; first | ((with_reducible refine (HP1.o W2 HC2.o.rd).mono ?_); rintro e w3 ⟨rfl, hr3, o3⟩; have HC3 := L0 (HC2.o.step o3 hr3); have i0 := (o3.cell HS2.o.1 (L0v HS2.o.2.2.1) 0).trans j0; have i1 := (o3.cell HS2.o.1 (L0v HS2.o.2.2.1) 1).trans j1; have iz := (o3.frozen HS2.o.1 (L0v HS2.o.2.2.1) 1).trans y2; have kk := HC3.o.c1; have HS3' : Hid (w1.heap.size < w3.heap.size) := L0 (L0c HS2.o.1 o3.size); clear hr3 o3) | ((with_reducible refine (HP2.o W8 HC8.o.rd).mono ?_); rintro e w9 ⟨rfl, hr9, o9⟩; have HC9 := L0 (HC8.o.step o9 hr9); obtain ⟨W9, e9, n0, n1, H9⟩ := HC9.o.done; have g0 := HC9.o.f0; have g1 := HC9.o.f1; have x0 := HC9.o.y 0; have x1 := HC9.o.y 1; have d0 := HC9.o.c0; have d1 := HC9.o.c1; clear hr9 o9)) | (at_builtin; refine Z0a (R := rRg) (x := (n, m)) Z5s rfl (.tmp 42) (.tmp 44) rfl rfl HC6.o.own [.int .i64 n, .int .i64 m] rfl rfl (fun _ => False) ⟨rfl, HNI.o.1, HNI.o.2⟩ (fun _ h => h.elim) HBY.o HC6.o.hB ?_; intro v7 w7 hown7 hb7 _ _; obtain ⟨A7, l7, rfl⟩ : ∃ A7 l7, v7 = .slice A7 (acc.length + 1) l7 := (by (obtain ⟨A7, l7, h⟩ := hown7.value; exact ⟨A7, l7, by rw [h, L0i, L0p]⟩)); obtain ⟨hc8, k8, z8⟩ := HC6.o.grow hb7 hown7; obtain ⟨W8, e8, HC8⟩ : ∃ W8, w7.setCell ⟨q3, 1, none⟩ (.slice A7 (acc.length + 1) l7) = W8 /\ Hid (CellI w q q2 q3 B0 no ⟨l4, false⟩ (.slice A7 (acc.length + 1) l7) (acc ++ [(n, m)]) W8) := ⟨_, rfl, L0 hc8⟩; clear hc8 hown7 hb7))
     refine bodyPost_ret (by simp [results, Tryz.results143, go_sem, n0, n1]; rfl) rfl ?_
     have hz := HCE2.o
     injection hz with hz1 hz2
     exact ⟨_, rfl, by rw [<- hz1]; exact H9.o.1, by rw [<- hz2]; exact H9.o.2.1, H9.o.2.2⟩
    have HCE2 := L0 ((Z5j acc rfl hx hp2).symm.trans HCE.o)
    have HLT : Hid (r6.l.length < l1.length) := L0 (by have h := Z40 (r := ⟨l4, false⟩) (s := [124]) (by rw [hp2]); rw [hp2] at h; dsimp only at h hlen1 hlen2 hlen3; omega)
    clear hn hp1 hp2 hx hm hli hmi hlen1 hlen2 hlen3
    go_wp2_with (first | (go_at_call 95; first | ((with_reducible refine HN1.o.mono ?_); rintro e w1 ⟨rfl, hr1, o1⟩; have o1' := HCI.o.only.trans o1; obtain ⟨W2, e2, HC2, y2, HS2⟩ : ∃ W2, w1.alloc (.cells #[.int .i64 n, .int .i64 n] 123) = W2 /\ Hid (CellI w q q2 q3 B0 no r2' (.slice Au acc.length lu) acc W2) /\ W2.frozen? ⟨w1.heap.size, 1, none⟩ = false /\ Hid (w1.heap.size < W2.heap.size /\ B0 <= w1.heap.size /\ q < w1.heap.size /\ w.heap.size <= w1.heap.size /\ ∀ g, (Value.slice Au acc.length lu).ownBlock = some g -> g ≠ w1.heap.size) := ⟨_, rfl, L0 ((HCI.o.step o1 hr1).step (Only.alloc _ _) (hr1.alloc _)), by simp, L0 ⟨by simp, L0h HCI.o.hB o1.size, hr1.lt, o1'.size, fun g hg => (by (have := (HCI.o.own.lt g hg).2; have := o1.size; omega))⟩⟩; have j0 := ac0 e2; have j1 := ac1 e2; clear hr1 o1 o1') | ((with_reducible refine (HN2.o w3 HC3.o.rd HC3.o.only).mono ?_); rintro e w4 ⟨rfl, hr4, o4⟩; have HC4 := L0 (HC3.o.step o4 hr4); have p1 := (o4.cell HS3'.o (L0v HS2.o.2.2.1) 1).trans i1; have p0 := (o4.cell HS3'.o (L0v HS2.o.2.2.1) 0).trans i0; have pz := (o4.frozen HS3'.o (L0v HS2.o.2.2.1) 1).trans iz; obtain ⟨W5, e5, HC5, m0, m1, hbd, hbz⟩ := HC4.o.second HS2.o.2.1 HS2.o.2.2.1 HS2.o.2.2.2.1 HS2.o.2.2.2.2 (.int .i64 m) p0 p1; obtain ⟨W6, e6, HC6, t0, t1, t2⟩ := HC5.o.mark false HS2.o.2.2.1 m0 m1; clear hr4 o4)) | (go_at_call 93; first | ((with_reducible refine (HP1.o W2 HC2.o.rd).mono ?_); rintro e w3 ⟨rfl, hr3, o3⟩; have HC3 := L0 (HC2.o.step o3 hr3); have i0 := (o3.cell HS2.o.1 (L0v HS2.o.2.2.1) 0).trans j0; have i1 := (o3.cell HS2.o.1 (L0v HS2.o.2.2.1) 1).trans j1; have iz := (o3.frozen HS2.o.1 (L0v HS2.o.2.2.1) 1).trans y2; have kk := HC3.o.c1; have HS3' : Hid (w1.heap.size < w3.heap.size) := L0 (L0c HS2.o.1 o3.size); clear hr3 o3) | ((with_reducible refine (HP2.o W8 HC8.o.rd).mono ?_); rintro e w9 ⟨rfl, hr9, o9⟩; have HC9 := L0 (HC8.o.step o9 hr9); clear hr9 o9)) | (at_builtin; refine Z0a (R := rRg) (x := (n, m)) Z5s rfl (.tmp 42) (.tmp 44) rfl rfl HC6.o.own [.int .i64 n, .int .i64 m] rfl rfl (fun _ => False) ⟨rfl, HNI.o.1, HNI.o.2⟩ (fun _ h => h.elim) HBY.o HC6.o.hB ?_; intro v7 w7 hown7 hb7 _ _; obtain ⟨A7, l7, rfl⟩ : ∃ A7 l7, v7 = .slice A7 (acc.length + 1) l7 := (by (obtain ⟨A7, l7, h⟩ := hown7.value; exact ⟨A7, l7, by rw [h, L0i, L0p]⟩)); obtain ⟨hc8, k8, z8⟩ := HC6.o.grow hb7 hown7; obtain ⟨W8, e8, HC8⟩ : ∃ W8, w7.setCell ⟨q3, 1, none⟩ (.slice A7 (acc.length + 1) l7) = W8 /\ Hid (CellI w q q2 q3 B0 no ⟨l4, false⟩ (.slice A7 (acc.length + 1) l7) (acc ++ [(n, m)]) W8) := ⟨_, rfl, L0 hc8⟩; clear hc8 hown7 hb7))
    go_roundw
    exact ⟨r6, acc ++ [(n, m)], _, HC9.o.rd.bad.1, HC9.o.c0, HC9.o.c1, HC9, HCE2, L0 (by have := HLT.o; have h2 : acc.length + l1.length <= 4000 := HLA.o; rw [L0i, L0p]; omega)⟩
    rw [HC9.o.rd.len, HCI.o.rd.len]; exact HLT.o
   have hx : Z1m ⟨l1, false⟩ = ((n, m), ⟨l4, true⟩) := hx
   obtain ⟨⟨p, r6⟩, hp2⟩ : ∃ x, atR ⟨l4, true⟩ [124] = x := ⟨_, rfl⟩
   have HP2 : Hid (∀ w, RdAt w q ⟨l4, true⟩ -> Calls Tryz.prog 93 #[.pointer (some ⟨q, 0, none⟩), .string ⟨#[124]⟩] w fun e w' => e = .returned (.bool p) /\ RdAt w' q r6 /\ Only q w w') := L0 fun w hr => by have := Z3i [124] w hr; rw [hp2] at this; exact this
   cases p
   ·have HCE2 := L0 ((Z4c acc rfl hx hp2).symm.trans HCE.o)
    clear hn hp1 hp2 hx hm hli hmi hlen1 hlen2 hlen3
    go_wp2_with (first | (go_at_call 95; first | ((with_reducible refine HN1.o.mono ?_); rintro e w1 ⟨rfl, hr1, o1⟩; have o1' := HCI.o.only.trans o1; obtain ⟨W2, e2, HC2, y2, HS2⟩ : ∃ W2, w1.alloc (.cells #[.int .i64 n, .int .i64 n] 123) = W2 /\ Hid (CellI w q q2 q3 B0 no r2' (.slice Au acc.length lu) acc W2) /\ W2.frozen? ⟨w1.heap.size, 1, none⟩ = false /\ Hid (w1.heap.size < W2.heap.size /\ B0 <= w1.heap.size /\ q < w1.heap.size /\ w.heap.size <= w1.heap.size /\ ∀ g, (Value.slice Au acc.length lu).ownBlock = some g -> g ≠ w1.heap.size) := ⟨_, rfl, L0 ((HCI.o.step o1 hr1).step (Only.alloc _ _) (hr1.alloc _)), by simp, L0 ⟨by simp, L0h HCI.o.hB o1.size, hr1.lt, o1'.size, fun g hg => (by (have := (HCI.o.own.lt g hg).2; have := o1.size; omega))⟩⟩; have j0 := ac0 e2; have j1 := ac1 e2; clear hr1 o1 o1') | ((with_reducible refine (HN2.o w3 HC3.o.rd HC3.o.only).mono ?_); rintro e w4 ⟨rfl, hr4, o4⟩; have HC4 := L0 (HC3.o.step o4 hr4); have p1 := (o4.cell HS3'.o (L0v HS2.o.2.2.1) 1).trans i1; have p0 := (o4.cell HS3'.o (L0v HS2.o.2.2.1) 0).trans i0; have pz := (o4.frozen HS3'.o (L0v HS2.o.2.2.1) 1).trans iz; obtain ⟨W5, e5, HC5, m0, m1, hbd, hbz⟩ := HC4.o.second HS2.o.2.1 HS2.o.2.2.1 HS2.o.2.2.2.1 HS2.o.2.2.2.2 (.int .i64 m) p0 p1; obtain ⟨W6, e6, HC6, t0, t1, t2⟩ := HC5.o.mark true HS2.o.2.2.1 m0 m1; clear hr4 o4)) | (go_at_call 93; first | ((with_reducible refine (HP1.o W2 HC2.o.rd).mono ?_); rintro e w3 ⟨rfl, hr3, o3⟩; have HC3 := L0 (HC2.o.step o3 hr3); have i0 := (o3.cell HS2.o.1 (L0v HS2.o.2.2.1) 0).trans j0; have i1 := (o3.cell HS2.o.1 (L0v HS2.o.2.2.1) 1).trans j1; have iz := (o3.frozen HS2.o.1 (L0v HS2.o.2.2.1) 1).trans y2; have kk := HC3.o.c1; have HS3' : Hid (w1.heap.size < w3.heap.size) := L0 (L0c HS2.o.1 o3.size); clear hr3 o3) | ((with_reducible refine (HP2.o W8 HC8.o.rd).mono ?_); rintro e w9 ⟨rfl, hr9, o9⟩; have HC9 := L0 (HC8.o.step o9 hr9); obtain ⟨W9, e9, n0, n1, H9⟩ := HC9.o.done; have g0 := HC9.o.f0; have g1 := HC9.o.f1; have x0 := HC9.o.y 0; have x1 := HC9.o.y 1; have d0 := HC9.o.c0; have d1 := HC9.o.c1; clear hr9 o9)) | (at_builtin; refine Z0a (R := rRg) (x := (n, m)) Z5s rfl (.tmp 42) (.tmp 44) rfl rfl HC6.o.own [.int .i64 n, .int .i64 m] rfl rfl (fun _ => False) ⟨rfl, HNI.o.1, HNI.o.2⟩ (fun _ h => h.elim) HBY.o HC6.o.hB ?_; intro v7 w7 hown7 hb7 _ _; obtain ⟨A7, l7, rfl⟩ : ∃ A7 l7, v7 = .slice A7 (acc.length + 1) l7 := (by (obtain ⟨A7, l7, h⟩ := hown7.value; exact ⟨A7, l7, by rw [h, L0i, L0p]⟩)); obtain ⟨hc8, k8, z8⟩ := HC6.o.grow hb7 hown7; obtain ⟨W8, e8, HC8⟩ : ∃ W8, w7.setCell ⟨q3, 1, none⟩ (.slice A7 (acc.length + 1) l7) = W8 /\ Hid (CellI w q q2 q3 B0 no ⟨l4, true⟩ (.slice A7 (acc.length + 1) l7) (acc ++ [(n, m)]) W8) := ⟨_, rfl, L0 hc8⟩; clear hc8 hown7 hb7))
    refine bodyPost_ret (by simp [results, Tryz.results143, go_sem, n0, n1]; rfl) rfl ?_
    have hz := HCE2.o
    injection hz with hz1 hz2
    exact ⟨_, rfl, by rw [<- hz1]; exact H9.o.1, by rw [<- hz2]; exact H9.o.2.1, H9.o.2.2⟩
   have HCE2 := L0 ((Z5j acc rfl hx hp2).symm.trans HCE.o)
   have HLT : Hid (r6.l.length < l1.length) := L0 (by have h := Z40 (r := ⟨l4, true⟩) (s := [124]) (by rw [hp2]); rw [hp2] at h; dsimp only at h hlen1 hlen2 hlen3; omega)
   clear hn hp1 hp2 hx hm hli hmi hlen1 hlen2 hlen3
   go_wp2_with (first | (go_at_call 95; first | ((with_reducible refine HN1.o.mono ?_); rintro e w1 ⟨rfl, hr1, o1⟩; have o1' := HCI.o.only.trans o1; obtain ⟨W2, e2, HC2, y2, HS2⟩ : ∃ W2, w1.alloc (.cells #[.int .i64 n, .int .i64 n] 123) = W2 /\ Hid (CellI w q q2 q3 B0 no r2' (.slice Au acc.length lu) acc W2) /\ W2.frozen? ⟨w1.heap.size, 1, none⟩ = false /\ Hid (w1.heap.size < W2.heap.size /\ B0 <= w1.heap.size /\ q < w1.heap.size /\ w.heap.size <= w1.heap.size /\ ∀ g, (Value.slice Au acc.length lu).ownBlock = some g -> g ≠ w1.heap.size) := ⟨_, rfl, L0 ((HCI.o.step o1 hr1).step (Only.alloc _ _) (hr1.alloc _)), by simp, L0 ⟨by simp, L0h HCI.o.hB o1.size, hr1.lt, o1'.size, fun g hg => (by (have := (HCI.o.own.lt g hg).2; have := o1.size; omega))⟩⟩; have j0 := ac0 e2; have j1 := ac1 e2; clear hr1 o1 o1') | ((with_reducible refine (HN2.o w3 HC3.o.rd HC3.o.only).mono ?_); rintro e w4 ⟨rfl, hr4, o4⟩; have HC4 := L0 (HC3.o.step o4 hr4); have p1 := (o4.cell HS3'.o (L0v HS2.o.2.2.1) 1).trans i1; have p0 := (o4.cell HS3'.o (L0v HS2.o.2.2.1) 0).trans i0; have pz := (o4.frozen HS3'.o (L0v HS2.o.2.2.1) 1).trans iz; obtain ⟨W5, e5, HC5, m0, m1, hbd, hbz⟩ := HC4.o.second HS2.o.2.1 HS2.o.2.2.1 HS2.o.2.2.2.1 HS2.o.2.2.2.2 (.int .i64 m) p0 p1; obtain ⟨W6, e6, HC6, t0, t1, t2⟩ := HC5.o.mark true HS2.o.2.2.1 m0 m1; clear hr4 o4)) | (go_at_call 93; first | ((with_reducible refine (HP1.o W2 HC2.o.rd).mono ?_); rintro e w3 ⟨rfl, hr3, o3⟩; have HC3 := L0 (HC2.o.step o3 hr3); have i0 := (o3.cell HS2.o.1 (L0v HS2.o.2.2.1) 0).trans j0; have i1 := (o3.cell HS2.o.1 (L0v HS2.o.2.2.1) 1).trans j1; have iz := (o3.frozen HS2.o.1 (L0v HS2.o.2.2.1) 1).trans y2; have kk := HC3.o.c1; have HS3' : Hid (w1.heap.size < w3.heap.size) := L0 (L0c HS2.o.1 o3.size); clear hr3 o3) | ((with_reducible refine (HP2.o W8 HC8.o.rd).mono ?_); rintro e w9 ⟨rfl, hr9, o9⟩; have HC9 := L0 (HC8.o.step o9 hr9); clear hr9 o9)) | (at_builtin; refine Z0a (R := rRg) (x := (n, m)) Z5s rfl (.tmp 42) (.tmp 44) rfl rfl HC6.o.own [.int .i64 n, .int .i64 m] rfl rfl (fun _ => False) ⟨rfl, HNI.o.1, HNI.o.2⟩ (fun _ h => h.elim) HBY.o HC6.o.hB ?_; intro v7 w7 hown7 hb7 _ _; obtain ⟨A7, l7, rfl⟩ : ∃ A7 l7, v7 = .slice A7 (acc.length + 1) l7 := (by (obtain ⟨A7, l7, h⟩ := hown7.value; exact ⟨A7, l7, by rw [h, L0i, L0p]⟩)); obtain ⟨hc8, k8, z8⟩ := HC6.o.grow hb7 hown7; obtain ⟨W8, e8, HC8⟩ : ∃ W8, w7.setCell ⟨q3, 1, none⟩ (.slice A7 (acc.length + 1) l7) = W8 /\ Hid (CellI w q q2 q3 B0 no ⟨l4, true⟩ (.slice A7 (acc.length + 1) l7) (acc ++ [(n, m)]) W8) := ⟨_, rfl, L0 hc8⟩; clear hc8 hown7 hb7))
   go_roundw
   exact ⟨r6, acc ++ [(n, m)], _, HC9.o.rd.bad.1, HC9.o.c0, HC9.o.c1, HC9, HCE2, L0 (by have := HLT.o; have h2 : acc.length + l1.length <= 4000 := HLA.o; rw [L0i, L0p]; omega)⟩
   rw [HC9.o.rd.len, HCI.o.rd.len]; exact HLT.o
  have hfin := (Y3i acc rfl).symm.trans HCE.o
  obtain ⟨Au, lu, rfl⟩ := HCI.o.own.value
  obtain ⟨W9, e9, n0, n1, H9⟩ := HCI.o.done
  have g0 := HCI.o.f0
  have g1 := HCI.o.f1
  have x0 := HCI.o.y 0
  have x1 := HCI.o.y 1
  have d0 := HCI.o.c0
  have d1 := HCI.o.c1
  have HZ := L0 hfin
  clear hfin
  go_wp2
  refine bodyPost_ret (by simp [results, Tryz.results143, go_sem, n0, n1]; rfl) rfl ?_
  have hz := HZ.o
  injection hz with hz1 hz2
  exact ⟨_, rfl, by rw [<- hz1]; exact H9.o.1, by rw [<- hz2]; exact H9.o.2.1, H9.o.2.2⟩
 have HCR : Hid (Z3f r = (⟨false, []⟩, r1)) := L0 (by unfold Z3f; rw [h1]; rfl)
 rw [HCR.o]
 clear h1
 go_wp2_with (go_at_call 93; (with_reducible refine HAT1.o.mono ?_); rintro e w1 ⟨rfl, hr1, o1⟩; have g0 := (o1.cell HS0.o (L0v HQL.o) 0).trans HF0.o; have g1 := (o1.cell HS0.o (L0v HQL.o) 1).trans HF1.o; have x0 := (o1.frozen HS0.o (L0v HQL.o) 0).trans (HY0.o 0); have x1 := (o1.frozen HS0.o (L0v HQL.o) 1).trans (HY0.o 1); obtain ⟨W9, e9, n0, n1⟩ := Y8c (.bool false) (.slice none 0 0) g0 g1; have H9 : Hid (RdAt W9 q r1 /\ Only q w W9) := L0 (by (rw [<- e9]; exact ⟨(hr1.other HQL.o _ _).other HQL.o _ _, ((HO0.o.trans o1).new (L0f _) _ _).new (L0f _) _ _⟩)); clear hr1 o1)
 refine bodyPost_ret (by simp [results, Tryz.results143, go_sem, n0, n1]; rfl) rfl ?_
 exact ⟨_, rfl, Own.nil _ _ _ _ _, H9.o.1, H9.o.2⟩
def Z11 {α : Type} (item : Rs -> α × Rs) (sep : Txt) : Nat -> Rs -> List α -> List α × Rs
 | 0, r, acc => (acc, r)
 | f + 1, r, acc => if r.bad then (acc, r) else if (atR (item r).2 sep).1 then Z11 item sep f (atR (item r).2 sep).2 (acc ++ [(item r).1]) else (acc ++ [(item r).1], (atR (item r).2 sep).2)
def Z0o {α : Type} (item : Rs -> α × Rs) (sep : Txt) (r : Rs) (acc : List α) : List α × Rs := Z11 item sep (r.l.length + 1) r acc
section
variable {α : Type} {item : Rs -> α × Rs} {sep : Txt} (hi : ∀ r, (item r).2.l.length <= r.l.length)
include hi
theorem Y3u : ∀ (f g : Nat) (r : Rs) (acc : List α), r.l.length < f -> r.l.length < g -> Z11 item sep f r acc = Z11 item sep g r acc := by
 intro f
 induction f with
 | zero => intro g r acc h; omega
 | succ f ih =>
  intro g r acc h hg
  cases g with
  | zero => omega
  | succ g =>
   simp only [Z11]
   split
   ·rfl
   split
   ·rename_i h1
    have h2 := Z40 h1
    have h3 := hi r
    exact ih g _ _ (by omega) (by omega)
   rfl
theorem Z53 {r r5 r6 : Rs} {x : α} (acc : List α) (h : r.bad = false) (h1 : item r = (x, r5)) (h2 : atR r5 sep = (true, r6)) : Z0o item sep r acc = Z0o item sep r6 (acc ++ [x]) := by
 have e1 : Z0o item sep r acc = Z11 item sep r.l.length (atR (item r).2 sep).2 (acc ++ [(item r).1]) := by
  unfold Z0o
  simp only [Z11]
  rw [if_neg (by simp [h]), if_pos (by rw [h1, h2])]
 rw [e1, h1, h2]
 have h4 : (atR r5 sep).2.l.length < r5.l.length := Z40 (by rw [h2])
 have h3 := hi r
 rw [h1] at h3
 rw [h2] at h4
 dsimp only at h3 h4
 show Z11 item sep r.l.length r6 (acc ++ [x]) = Z11 item sep (r6.l.length + 1) r6 (acc ++ [x])
 exact Y3u hi _ _ _ _ (by omega) (by omega)
theorem Z8u : ∀ (f : Nat) (r : Rs) (acc : List α), (Z11 item sep f r acc).2.l.length <= r.l.length := by
 intro f
 induction f with
 | zero => intro r acc; exact L0f _
 | succ f ih =>
  intro r acc
  simp only [Z11]
  have h3 := hi r
  have h4 := Z2a (item r).2 sep
  split
  ·exact L0f _
  split
  ·exact L0h (ih _ _) (by omega)
  dsimp only; omega
end
theorem Z7l {α : Type} {item : Rs -> α × Rs} {sep : Txt} {r : Rs} (acc : List α) (h : r.bad = true) : Z0o item sep r acc = (acc, r) := by
 unfold Z0o
 simp only [Z11]
 rw [if_pos h]
theorem Z5a {α : Type} {item : Rs -> α × Rs} {sep : Txt} {r r5 r6 : Rs} {x : α} (acc : List α) (h : r.bad = false) (h1 : item r = (x, r5)) (h2 : atR r5 sep = (false, r6)) : Z0o item sep r acc = (acc ++ [x], r6) := by
 unfold Z0o
 simp only [Z11]
 rw [if_neg (by simp [h]), if_neg (by rw [h1, h2]; simp), h1, h2]
theorem Y3j (r : Rs) (acc : List Rg) : (Z1v r acc).2.l.length <= r.l.length := by
 have key : ∀ (f : Nat) (r : Rs) (acc : List Rg), (Z29 f r acc).2.l.length <= r.l.length := by
  intro f
  induction f with
  | zero => intro r acc; exact L0f _
  | succ f ih =>
   intro r acc
   simp only [Z29]
   have h3 := Z5q r
   have h4 := Z2a (Z1m r).2 [124]
   split
   ·exact L0f _
   split
   ·exact L0h (ih _ _) (by omega)
   dsimp only; omega
 exact key _ _ _
theorem Z6d (r : Rs) : (Z3f r).2.l.length <= r.l.length := by
 unfold Z3f
 have h1 := Z2a r [42]
 have h2 := Z2a (atR r [42]).2 [110, 111, 116]
 have h3 := Y3j (atR (atR r [42]).2 [110, 111, 116]).2 []
 split <;> dsimp only <;> omega
theorem Z6o (r : Rs) : (Z3a r).2.l.length <= r.l.length := Z80 r
theorem Z6w (r : Rs) (s : Txt) : (Z2y r s).l.length <= r.l.length := by
 unfold Z2y
 have := Z2a r s
 split
 ·exact this
 exact this
theorem Y98 {r : Rs} {s : Txt} (h : (Z2y r s).bad = false) : (Z2y r s).l.length < r.l.length := by
 unfold Z2y at h ⊢
 split
 ·rename_i h1; exact Z40 h1
 rename_i h1; rw [if_neg h1] at h; cases h
def pols : List Txt := [[], [117, 110, 105, 113, 117, 101], [97, 110, 121], [102, 105, 114, 115, 116], [108, 101, 97, 115, 116], [109, 111, 115, 116], [115, 117, 109], [99, 111, 117, 110, 116]]
def Z7e (r : Rs) : Rl × Rs :=
 (⟨(Z0o Z3f [44] r []).1, (Z0k (Z2y (Z0o Z3f [44] r []).2 [61, 62])).1⟩, Z2y (Z0k (Z2y (Z0o Z3f [44] r []).2 [61, 62])).2 [59])
theorem Y1g {r : Rs} (h : (Z7e r).2.bad = false) : (Z7e r).2.l.length < r.l.length := by
 unfold Z7e at h ⊢
 dsimp only at h ⊢
 have h1 : (Z0o Z3f [44] r []).2.l.length <= r.l.length := Z8u Z6d _ _ _
 have h2 := Z6w (Z0o Z3f [44] r []).2 [61, 62]
 have h3 := Z3b (Z2y (Z0o Z3f [44] r []).2 [61, 62])
 have h4 := Y98 h
 omega
def Z32 : Nat -> Rs -> List Rl -> List Rl × Rs
 | 0, r, acc => (acc, r)
 | f + 1, r, acc => if r.bad then (acc, r) else if (atR r [125]).1 then (acc, (atR r [125]).2) else Z32 f (Z7e (atR r [125]).2).2 (acc ++ [(Z7e (atR r [125]).2).1])
def Z2q (r : Rs) (acc : List Rl) : List Rl × Rs := Z32 (r.l.length + 1) r acc
theorem Z4k (f : Nat) {r : Rs} (acc : List Rl) (h : r.bad = true) : Z32 f r acc = (acc, r) := by
 cases f with
 | zero => rfl
 | succ f => simp only [Z32]; rw [if_pos h]
theorem Y36 : ∀ (f g : Nat) (r : Rs) (acc : List Rl), r.l.length < f -> r.l.length < g -> Z32 f r acc = Z32 g r acc := by
 intro f
 induction f with
 | zero => intro g r acc h; omega
 | succ f ih =>
  intro g r acc h hg
  cases g with
  | zero => omega
  | succ g =>
   simp only [Z32]
   split
   ·rfl
   split
   ·rfl
   cases hb : (Z7e (atR r [125]).2).2.bad
   ·have h1 := Y1g hb
    have h2 := Z2a r [125]
    exact ih g _ _ (by omega) (by omega)
   rw [Z4k _ _ hb, Z4k _ _ hb]
theorem Z7n {r : Rs} (acc : List Rl) (h : r.bad = true) : Z2q r acc = (acc, r) := Z4k _ _ h
theorem Y2y {r r1 : Rs} (acc : List Rl) (h : r.bad = false) (h1 : atR r [125] = (true, r1)) : Z2q r acc = (acc, r1) := by
 unfold Z2q
 simp only [Z32]
 rw [if_neg (by simp [h]), if_pos (by rw [h1]), h1]
theorem Y35 {r r1 r5 : Rs} {x : Rl} (acc : List Rl) (h : r.bad = false) (h1 : atR r [125] = (false, r1)) (h2 : Z7e r1 = (x, r5)) : Z2q r acc = Z2q r5 (acc ++ [x]) := by
 have e1 : Z2q r acc = Z32 r.l.length (Z7e (atR r [125]).2).2 (acc ++ [(Z7e (atR r [125]).2).1]) := by
  unfold Z2q
  simp only [Z32]
  rw [if_neg (by simp [h]), if_neg (by rw [h1]; simp)]
 rw [e1, h1]
 dsimp only
 rw [h2]
 dsimp only
 cases hb : r5.bad
 ·have h3 := Y1g (r := r1) (by rw [h2]; exact hb)
  have h4 := Z2a r [125]
  rw [h1] at h4
  rw [h2] at h3
  dsimp only at h3 h4
  exact Y36 _ _ _ _ (by omega) (by omega)
 rw [Z4k _ _ hb, Z7n _ hb]
def Z3e (r : Rs) : Tb × Rs :=
 let a1 := Z3a r
 let a2 := Z30 a1.2
 let a3 := atR a2.2 [99, 111, 109, 112, 108, 101, 116, 101]
 let a4 := Z2y a3.2 [40]
 let a5 := Z0o Z3a [44] a4 []
 let a6 := Z2y a5.2 [41]
 let a7 := Z2y a6 [123]
 let a8 := Z2q a7 []
 (⟨a1.1, Z8r pols a2.1, a3.1, a5.1, a8.1⟩, a8.2)
