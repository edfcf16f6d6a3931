import Derived.Test.YtlopccnehgolnacGreatDoorRdrE
import Derived.Test.YtlopccnehgolnacGreatDoorSplit
import Derived.Test.YtlopccnehgolnacGreatDoorGL11
import Derived.Test.YtlopccnehgolnacGreatDoorGL0
namespace Go.Proofs.YtlopccnehgolnacGreatDoor
open Go.RowKit Rb
set_option maxRecDepth 100000
set_option maxHeartbeats 6400000
structure Pr where
 d : Dm
 t : Tb
 is : Bool
 e : Int
def prNo (e : Int) : Pr := ⟨dm0, tb0, false, e⟩
def Z89 (r : Rs) : Dm × Rs := (⟨(Z27 r).1, (Z0i (Z27 r).2).1, (Z0i (Z2v (Z0i (Z27 r).2).2 [46, 46])).1⟩, (Z0i (Z2v (Z0i (Z27 r).2).2 [46, 46])).2)
def rd0 (s : Txt) : Rs := ⟨(Z07 s []).getD [], !(Z07 s []).isSome⟩
def kwD : Txt := [100, 111, 109, 97, 105, 110]
def kwT : Txt := [116, 97, 98, 108, 101]
def Z0e (s : Txt) : Pr :=
 if 2000 < s.length then prNo 5
 else if (atR (rd0 s) kwD).1 then
  (if (Z89 (atR (rd0 s) kwD).2).2.bad = true \/ 0 < (Z89 (atR (rd0 s) kwD).2).2.l.length \/ Z5j (Z89 (atR (rd0 s) kwD).2).1 = false then prNo 1 else ⟨(Z89 (atR (rd0 s) kwD).2).1, tb0, false, 0⟩)
 else if (atR (atR (rd0 s) kwD).2 kwT).1 then
  (if (Z3b (atR (atR (rd0 s) kwD).2 kwT).2).2.bad = true \/ 0 < (Z3b (atR (atR (rd0 s) kwD).2 kwT).2).2.l.length \/ Z0r (Z3b (atR (atR (rd0 s) kwD).2 kwT).2).1 = false then prNo 1 else ⟨dm0, (Z3b (atR (atR (rd0 s) kwD).2 kwT).2).1, true, 0⟩)
 else prNo 1
structure PrB (w : World) (q2 q3 : Nat) : Prop where
 a0 : w.cell? ⟨q2, 0, none⟩ = some (.string ⟨#[]⟩)
 a1 : w.cell? ⟨q2, 1, none⟩ = some (.int .i64 0)
 a2 : w.cell? ⟨q2, 2, none⟩ = some (.int .i64 0)
 b0 : w.cell? ⟨q3, 0, none⟩ = some (.string ⟨#[]⟩)
 b1 : w.cell? ⟨q3, 1, none⟩ = some (.int .i64 0)
 b2 : w.cell? ⟨q3, 2, none⟩ = some (.bool false)
 b3 : w.cell? ⟨q3, 3, none⟩ = some (.slice none 0 0)
 b4 : w.cell? ⟨q3, 4, none⟩ = some (.slice none 0 0)
 x : ∀ i, w.frozen? ⟨q2, i, none⟩ = false
 y : ∀ i, w.frozen? ⟨q3, i, none⟩ = false
 lt : q2 < q3 /\ q3 < w.heap.size
theorem PrB.below {w w' : World} {q2 q3 B : Nat} (h : PrB w q2 q3) (hb : Below B w w') (hB : q3 < B) : PrB w' q2 q3 := by
 have h2 : q2 < B := by have := h.lt; omega
 exact ⟨(hb.ce 0 h2).trans h.a0, (hb.ce 1 h2).trans h.a1, (hb.ce 2 h2).trans h.a2, (hb.ce 0 hB).trans h.b0, (hb.ce 1 hB).trans h.b1, (hb.ce 2 hB).trans h.b2, (hb.ce 3 hB).trans h.b3, (hb.ce 4 hB).trans h.b4,
  fun i => (hb.fr i h2).trans (h.x i), fun i => (hb.fr i hB).trans (h.y i), h.lt.1, L0c h.lt.2 hb.size⟩
theorem PrB.start (w : World) (td tt : TypeId) : ∃ W, (w.alloc (.cells #[.string ⟨#[]⟩, .int .i64 0, .int .i64 0] td)).alloc (.cells #[.string ⟨#[]⟩, .int .i64 0, .bool false, .slice none 0 0, .slice none 0 0] tt) = W /\ Hid (PrB W w.heap.size (w.heap.size + 1)) /\ Hid (Below w.heap.size w W) /\ Hid (W.heap.size = w.heap.size + 2) := by
 obtain ⟨W, e, hb, hs, f, g, z, z'⟩ := Y1k w #[.string ⟨#[]⟩, .int .i64 0, .int .i64 0] #[.string ⟨#[]⟩, .int .i64 0, .bool false, .slice none 0 0, .slice none 0 0] td tt
 exact ⟨W, e, L0 ⟨f 0, f 1, f 2, g 0, g 1, g 2, g 3, g 4, z, z', L2f _, by omega⟩, L0 hb, L0 hs⟩
theorem PrB.store {w : World} {q2 q3 : Nat} (h : PrB w q2 q3) (d : Dm) (nm : Txt) (pol : Int) (cm : Bool) (v u : Value) :
  ∃ W, (((((((w.setCell ⟨q2, 0, none⟩ (.string ⟨d.name.toArray⟩)).setCell ⟨q2, 1, none⟩ (.int .i64 d.lo)).setCell ⟨q2, 2, none⟩ (.int .i64 d.hi)).setCell ⟨q3, 0, none⟩ (.string ⟨nm.toArray⟩)).setCell ⟨q3, 1, none⟩ (.int .i64 pol)).setCell ⟨q3, 2, none⟩ (.bool cm)).setCell ⟨q3, 3, none⟩ v).setCell ⟨q3, 4, none⟩ u = W /\
   W.cell? ⟨q2, 0, none⟩ = some (.string ⟨d.name.toArray⟩) /\ W.cell? ⟨q2, 1, none⟩ = some (.int .i64 d.lo) /\ W.cell? ⟨q2, 2, none⟩ = some (.int .i64 d.hi) /\ W.cell? ⟨q3, 0, none⟩ = some (.string ⟨nm.toArray⟩) /\ W.cell? ⟨q3, 1, none⟩ = some (.int .i64 pol) /\ W.cell? ⟨q3, 2, none⟩ = some (.bool cm) /\ W.cell? ⟨q3, 3, none⟩ = some v /\ W.cell? ⟨q3, 4, none⟩ = some u /\
   Hid (∀ B, B <= q2 -> ∀ w0, Below B w0 w -> Below B w0 W) /\ Hid (∀ S : Nat -> Prop, ¬ S q2 -> ¬ S q3 -> Keeps S w W) := by
 have hlt := h.lt.1
 obtain ⟨W1, e1, hB1, hc0, hc1, hc2⟩ := Y74 (.string ⟨d.name.toArray⟩) (.int .i64 d.lo) (.int .i64 d.hi) h.a0 h.a1 h.a2
 have n : ∀ (w : World) (i j : Nat) (v : Value), (w.setCell ⟨q2, i, none⟩ v).cell? ⟨q3, j, none⟩ = w.cell? ⟨q3, j, none⟩ := fun w i j v => L0a _ _ _ _ (by simp <;> omega)
 have k : ∀ j, W1.cell? ⟨q3, j, none⟩ = w.cell? ⟨q3, j, none⟩ := fun j => by rw [<- e1, n, n, n]
 obtain ⟨W, e, hB, hK, n0, n1, n2, n3, n4⟩ := Y76 (.string ⟨nm.toArray⟩) (.int .i64 pol) (.bool cm) v u ((k 0).trans h.b0) ((k 1).trans h.b1) ((k 2).trans h.b2) ((k 3).trans h.b3) ((k 4).trans h.b4)
 have m : ∀ (w : World) (i j : Nat) (v : Value), (w.setCell ⟨q3, i, none⟩ v).cell? ⟨q2, j, none⟩ = w.cell? ⟨q2, j, none⟩ := fun w i j v => L0a _ _ _ _ (by simp <;> omega)
 have k2 : ∀ j, W.cell? ⟨q2, j, none⟩ = W1.cell? ⟨q2, j, none⟩ := fun j => by rw [<- e, m, m, m, m, m]
 refine ⟨W, by rw [<- e, <- e1], (k2 0).trans hc0, (k2 1).trans hc1, (k2 2).trans hc2, n0, n1, n2, n3, n4, L0 fun B hBq w0 hb => hB B (by omega) w0 (hB1 B hBq w0 hb), L0 fun S h2 h3 => ?_⟩
 refine Keeps.trans ?_ (hK S h3)
 rw [<- e1]
 exact ((Keeps.setCell (p := ⟨q2, 0, none⟩) h2 _).trans (Keeps.setCell (p := ⟨q2, 1, none⟩) h2 _)).trans (Keeps.setCell (p := ⟨q2, 2, none⟩) h2 _)
theorem Z3l (e : Int) (w : World) : Calls Tryz.prog 71 #[.int .i64 e] w fun x w' => x = .returned (.tuple #[.agg #[.string ⟨#[]⟩, .int .i64 0, .int .i64 0], .agg #[.string ⟨#[]⟩, .int .i64 0, .bool false, .slice none 0 0, .slice none 0 0], .bool false, .int .i64 e]) /\ Below w.heap.size w w' := by
 obtain ⟨W, e0, HP, HB, HS⟩ := PrB.start w 63 66
 obtain ⟨W1, e1, n0, n1, n2, m0, m1, m2, m3, m4, HB1, _⟩ := HP.out.store dm0 [] 0 false (.slice none 0 0) (.slice none 0 0)
 have a0 := HP.out.a0
 have a1 := HP.out.a1
 have a2 := HP.out.a2
 have b0 := HP.out.b0
 have b1 := HP.out.b1
 have b2 := HP.out.b2
 have b3 := HP.out.b3
 have b4 := HP.out.b4
 have x0 := HP.out.x 0
 have x1 := HP.out.x 1
 have x2 := HP.out.x 2
 have y0 := HP.out.y 0
 have y1 := HP.out.y 1
 have y2 := HP.out.y 2
 have y3 := HP.out.y 3
 have y4 := HP.out.y 4
 simp only [dm0] at e1 n0 n1 n2
 go_enter Tryz.func71, Tryz.ntmps71
 go_wp2
 refine bodyPost_ret (by simp [results, Tryz.results71, go_sem, n0, n1, n2, m0, m1, m2, m3, m4]; rfl) rfl ?_
 exact ⟨rfl, HB1.out _ (L0f _) _ HB.out⟩
theorem X14 {r r1 : Rs} {s : Txt} (h : atR r s = (false, r1)) : r1 = r := by
 unfold atR at h
 split at h
 ·injection h with _ h; exact h.symm
 ·split at h
  ·injection h with h _; cases h
  ·injection h with _ h; exact h.symm
theorem Y83 (s : Txt) : -1 <= Z8i pols s /\ Z8i pols s <= 7 := by
 unfold Z8i
 cases h : pols.findIdx? (· == s) with
 | none => exact ⟨by dsimp only; omega, by dsimp only; omega⟩
 | some i =>
  have h1 := (List.findIdx?_eq_some_iff_findIdx_eq.1 h).1
  have : pols.length = 8 := rfl
  exact ⟨by dsimp only; omega, by dsimp only; omega⟩
theorem PolW.below {w w' : World} (h : PolW w) (hb : Below w.heap.size w w') : PolW w' :=
 ⟨L0c h.1 hb.size, fun i s hs => (hb.ce i h.1).trans (h.2 i s hs)⟩
theorem Z7a {d : Dm} {g : Bool} (w : World) (hs : d.name.length <= 140737488355328) (h : Z5j d = g) : Calls Tryz.prog 77 #[.agg #[.string ⟨d.name.toArray⟩, .int .i64 d.lo, .int .i64 d.hi]] w fun e w' => e = .returned (.bool g) /\ Below w.heap.size w w' := h ▸ Z3q d w hs
theorem Y0f {S : Nat -> Prop} {cs : List Value} {t : Tb} {g : Bool} (w : World) (hl : rTb.rel w S cs t) (h : Z0r t = g) : Calls Tryz.prog 79 #[.agg cs.toArray] w fun e w' => e = .returned (.bool g) /\ Below w.heap.size w w' := h ▸ Z5z w hl
theorem Y70 : ∀ (f : Nat) (s : Txt) (acc : List Txt), ((Z2f f s acc).getD []).length <= acc.length + s.length := by
 intro f
 induction f with
 | zero => intro s acc; simp [Z2f]
 | succ f ih =>
  intro s acc
  cases s with
  | nil => simp [Z2f]
  | cons c t =>
   simp only [Z2f]
   split
   ·have := ih t acc
    simp only [L0r]
    omega
   ·split
    ·rename_i n hn
     have h1 : 1 <= n := by
      unfold Z04 at hn
      dsimp only at hn
      split at hn
      ·injection hn with hn; omega
      ·split at hn
       ·injection hn with hn; omega
       ·split at hn
        ·injection hn with hn; omega
        ·split at hn
         ·injection hn with hn; omega
         ·cases hn
     have := ih ((c :: t).drop n) (acc ++ [(c :: t).take n])
     rw [L0h, L0p, L1a, L0r] at this
     simp only [L0r]
     omega
    ·simp
structure PSt (w : World) (q : Nat) (r : Rs) (wr : World) : Prop where
 rd : RdAt wr q r
 pb : PrB wr w.heap.size (w.heap.size + 1)
 bel : Below w.heap.size w wr
 hq : w.heap.size + 1 < q
theorem PSt.step {w : World} {q : Nat} {r r' : Rs} {wr wr' : World} (h : PSt w q r wr) (ho : Only q wr wr') (hr : RdAt wr' q r') : PSt w q r' wr' := by
 have h1 := h.hq
 have h2 := h.rd.lt
 exact ⟨hr, h.pb.below (ho.toBelow (L0f q) (L1r h2)) h1, h.bel.trans (ho.toBelow (by omega) h.bel.size), h1⟩
theorem PSt.belowS {w : World} {q : Nat} {r : Rs} {wr wr' : World} (h : PSt w q r wr) (hb : Below wr.heap.size wr wr') : PSt w q r wr' := h.step (Only.below hb) (h.rd.below hb)
theorem PSt.all {w : World} {q : Nat} {r : Rs} {wr : World} (h : PSt w q r wr) : ∀ w', Only q wr w' -> Below w.heap.size w w' := fun _ ho => h.bel.trans (ho.toBelow (by have := h.hq; omega) h.bel.size)
theorem PSt.start {w w1 : World} {B : Nat} {A : Option Addr} {l : Nat} {ws : List Txt} {b : Bool} {ty : TypeId} (hp : PrB w1 w.heap.size (w.heap.size + 1)) (hb : Below w.heap.size w w1) (hown : Own rStr 9 w1 B (fun _ => False) (.slice A ws.length l) ws) :
  ∃ W2, w1.alloc (.cells #[.slice A ws.length l, .bool b] ty) = W2 /\ Hid (PSt w w1.heap.size ⟨ws, b⟩ W2) := by
 refine ⟨_, rfl, L0 ⟨⟨A, l, L0b _ _ _ _, L0b _ _ _ _, by simp, by simp, ?_⟩, hp.below bA hp.lt.2, hb.alloc hb.size _, hp.lt.2⟩⟩
 exact Rd.alloc ((rSl rStr).mono (hown.rel (by decide)) fun g _ hlt => hlt) _
theorem PSt.box3 {w : World} {q : Nat} {r : Rs} {wr : World} (h : PSt w q r wr) (nm : Txt) (lo : Int) (ty : TypeId) : ∃ W6, wr.alloc (.cells #[.string ⟨nm.toArray⟩, .int .i64 lo, .int .i64 0] ty) = W6 /\ W6.frozen? ⟨wr.heap.size, 2, none⟩ = false /\ W6.cell? ⟨wr.heap.size, 2, none⟩ = some (.int .i64 0) /\
  ∃ W7, W6.setCell ⟨wr.heap.size, 2, none⟩ (.int .i64 0) = W7 /\ Hid (PSt w q r W7) /\ Hid (W7.cell? ⟨wr.heap.size, 0, none⟩ = some (.string ⟨nm.toArray⟩) /\ W7.cell? ⟨wr.heap.size, 1, none⟩ = some (.int .i64 lo) /\ W7.cell? ⟨wr.heap.size, 2, none⟩ = some (.int .i64 0) /\ W7.frozen? ⟨wr.heap.size, 2, none⟩ = false) /\ Hid (q < wr.heap.size /\ wr.heap.size < W7.heap.size) := by
 have hq := h.rd.lt
 have k2 : (wr.alloc (.cells #[.string ⟨nm.toArray⟩, .int .i64 lo, .int .i64 0] ty)).cell? ⟨wr.heap.size, 2, none⟩ = some (.int .i64 0) := L0b _ _ _ _
 refine ⟨_, rfl, by simp, k2, _, rfl, L0 ?_, L0 ⟨?_, ?_, L0d _ _ _ k2, by rw [L0l]; simp⟩, L0 ⟨hq, by simp⟩⟩
 ·exact h.step ((Only.alloc _ _).new (L0f _) _ _) ((h.rd.alloc _).other hq _ _)
 ·exact (L0a _ _ _ _ (by simp)).trans (L0b _ _ _ _)
 ·exact (L0a _ _ _ _ (by simp)).trans (L0b _ _ _ _)
theorem PSt.hi {w : World} {q b : Nat} {r : Rs} {wr : World} (h : PSt w q r wr) (hb : q < b) {x y z : Value} (v : Value) (k0 : wr.cell? ⟨b, 0, none⟩ = some x) (k1 : wr.cell? ⟨b, 1, none⟩ = some y) (k2 : wr.cell? ⟨b, 2, none⟩ = some z) : ∃ W, wr.setCell ⟨b, 2, none⟩ v = W /\ Hid (PSt w q r W) /\ W.cell? ⟨b, 0, none⟩ = some x /\ W.cell? ⟨b, 1, none⟩ = some y /\ W.cell? ⟨b, 2, none⟩ = some v := by
 have h1 := h.hq
 have h2 := h.pb.lt
 have hlt : b < wr.heap.size := L0e _ _ k0
 have hbel : Below (q + 1) wr (wr.setCell ⟨b, 2, none⟩ v) := (L0m _ _).setCell (show q + 1 <= b by omega) v
 refine ⟨_, rfl, L0 ⟨h.rd.other hb _ _, h.pb.below hbel (by omega), h.bel.trans (hbel.mono (by omega)), h1⟩, (L0a _ _ _ _ (by simp)).trans k0, (L0a _ _ _ _ (by simp)).trans k1, L0d _ _ _ k2⟩
theorem Y6u {B : Nat} {a w : World} (h : Below B a w) : Below B a w.drew := ⟨h.os, h.tape, h.output, h.size, h.block⟩
theorem PSt.box5 {w : World} {q : Nat} {r : Rs} {wr : World} (h : PSt w q r wr) {B : Nat} {t : Tb} {A C : Option Addr} {l m : Nat} (ty : TypeId) (hn : t.name.length <= 140737488355328) (hp : InI t.pol) (h1 : Own rStr 9 wr B (fun _ => False) (.slice A t.ins.length l) t.ins) (h2 : Own rRl 69 wr B (fun _ => False) (.slice C t.rules.length m) t.rules) :
  ∃ W, wr.alloc (.cells #[.string ⟨t.name.toArray⟩, .int .i64 t.pol, .bool t.comp, .slice A t.ins.length l, .slice C t.rules.length m] ty) = W /\ Hid (PSt w q r W) /\ Hid (rTb.rel W (Up (fun _ => False) B) [.string ⟨t.name.toArray⟩, .int .i64 t.pol, .bool t.comp, .slice A t.ins.length l, .slice C t.rules.length m] t) /\
   Hid (W.cell? ⟨wr.heap.size, 0, none⟩ = some (.string ⟨t.name.toArray⟩) /\ W.cell? ⟨wr.heap.size, 1, none⟩ = some (.int .i64 t.pol) /\ W.cell? ⟨wr.heap.size, 2, none⟩ = some (.bool t.comp) /\ W.cell? ⟨wr.heap.size, 3, none⟩ = some (.slice A t.ins.length l) /\ W.cell? ⟨wr.heap.size, 4, none⟩ = some (.slice C t.rules.length m)) /\ Hid (wr.heap.size < W.heap.size) /\ W.cell? ⟨q, 1, none⟩ = some (.bool r.bad) /\ ∃ A9 c9, W.cell? ⟨q, 0, none⟩ = some (.slice A9 r.l.length c9) := by
 have h3 := h.step (Only.alloc wr (.cells #[.string ⟨t.name.toArray⟩, .int .i64 t.pol, .bool t.comp, .slice A t.ins.length l, .slice C t.rules.length m] ty)) (h.rd.alloc _)
 have h4 := h3.rd
 obtain ⟨A9, c9, k0, k1, _⟩ := h4
 refine ⟨_, rfl, L0 h3, L0 ⟨_, _, rfl, hn, hp, ?_, ?_⟩, L0 ⟨L0b _ _ _ _, L0b _ _ _ _, L0b _ _ _ _, L0b _ _ _ _, L0b _ _ _ _⟩, L0 (by simp), k1, A9, c9, k0⟩
 ·exact Rd.alloc (h1.rel (by decide)) _
 ·exact Rd.alloc (h2.rel (by decide)) _
theorem Y77 {w w' : World} {b : Nat} {x0 x1 x2 x3 x4 : Value} (h : w.cell? ⟨b, 0, none⟩ = some x0 /\ w.cell? ⟨b, 1, none⟩ = some x1 /\ w.cell? ⟨b, 2, none⟩ = some x2 /\ w.cell? ⟨b, 3, none⟩ = some x3 /\ w.cell? ⟨b, 4, none⟩ = some x4) (hb : Below w.heap.size w w') (hl : b < w.heap.size) : w'.cell? ⟨b, 0, none⟩ = some x0 /\ w'.cell? ⟨b, 1, none⟩ = some x1 /\ w'.cell? ⟨b, 2, none⟩ = some x2 /\ w'.cell? ⟨b, 3, none⟩ = some x3 /\ w'.cell? ⟨b, 4, none⟩ = some x4 :=
 ⟨(hb.ce 0 hl).trans h.1, (hb.ce 1 hl).trans h.2.1, (hb.ce 2 hl).trans h.2.2.1, (hb.ce 3 hl).trans h.2.2.2.1, (hb.ce 4 hl).trans h.2.2.2.2⟩
theorem Z4z {W w' : World} {b q : Nat} {x0 x1 x2 : Value} (h : W.cell? ⟨b, 0, none⟩ = some x0 /\ W.cell? ⟨b, 1, none⟩ = some x1 /\ W.cell? ⟨b, 2, none⟩ = some x2 /\ W.frozen? ⟨b, 2, none⟩ = false) (ho : Only q W w') (hq : q < b /\ b < W.heap.size) :
  (w'.cell? ⟨b, 0, none⟩ = some x0 /\ w'.cell? ⟨b, 1, none⟩ = some x1 /\ w'.cell? ⟨b, 2, none⟩ = some x2 /\ w'.frozen? ⟨b, 2, none⟩ = false) /\ (q < b /\ b < w'.heap.size) := by
 have n : b ≠ q := by omega
 exact ⟨⟨(ho.cell hq.2 n 0).trans h.1, (ho.cell hq.2 n 1).trans h.2.1, (ho.cell hq.2 n 2).trans h.2.2.1, (ho.frozen hq.2 n 2).trans h.2.2.2⟩, hq.1, L0c hq.2 ho.size⟩
theorem Z9t {w : World} {q : Nat} {r : Rs} (h : RdAt w q r) : (Z27 r).1.length <= 140737488355328 := h.wlen
theorem Y6g (s : Txt) (w : World) (hs : s.length <= 140737488355328) (hw : LibW w) (hp : PolW w) :
  Calls Tryz.prog 44 #[.string ⟨s.toArray⟩] w fun e w' => ∃ v u, e = .returned (.tuple #[.agg #[.string ⟨(Z0e s).d.name.toArray⟩, .int .i64 (Z0e s).d.lo, .int .i64 (Z0e s).d.hi], .agg #[.string ⟨(Z0e s).t.name.toArray⟩, .int .i64 (Z0e s).t.pol, .bool (Z0e s).t.comp, v, u], .bool (Z0e s).is, .int .i64 (Z0e s).e]) /\
   rTb.rel w' (Up (fun _ => False) w.heap.size) [.string ⟨(Z0e s).t.name.toArray⟩, .int .i64 (Z0e s).t.pol, .bool (Z0e s).t.comp, v, u] (Z0e s).t /\ Below w.heap.size w w' := by
 have HW := L0 hw
 have HPO := L0 hp
 obtain ⟨W, e0, HP, HB, HS⟩ := PrB.start w 63 66
 have HZ : Hid (∀ (e : Int) (x : Ending) (w' : World), Z0e s = prNo e -> x = .returned (.tuple #[.agg #[.string ⟨#[]⟩, .int .i64 0, .int .i64 0], .agg #[.string ⟨#[]⟩, .int .i64 0, .bool false, .slice none 0 0, .slice none 0 0], .bool false, .int .i64 e]) -> Below w.heap.size w w' -> ∃ v u, x = .returned (.tuple #[.agg #[.string ⟨(Z0e s).d.name.toArray⟩, .int .i64 (Z0e s).d.lo, .int .i64 (Z0e s).d.hi], .agg #[.string ⟨(Z0e s).t.name.toArray⟩, .int .i64 (Z0e s).t.pol, .bool (Z0e s).t.comp, v, u], .bool (Z0e s).is, .int .i64 (Z0e s).e]) /\
   rTb.rel w' (Up (fun _ => False) w.heap.size) [.string ⟨(Z0e s).t.name.toArray⟩, .int .i64 (Z0e s).t.pol, .bool (Z0e s).t.comp, v, u] (Z0e s).t /\ Below w.heap.size w w') := L0 (by
  intro e x w' h rfl hb
  rw [h]
  exact ⟨_, _, rfl, ⟨_, _, rfl, by show ([] : Txt).length <= _; decide, by show InI 0; unfold InI; decide, (Own.nil rStr 9 w' w.heap.size (fun _ => False)).rel (by decide), (Own.nil rRl 69 w' w.heap.size (fun _ => False)).rel (by decide)⟩, hb⟩)
 clear hw hp
 go_enter Tryz.func44, Tryz.ntmps44
 by_cases hl : 2000 < s.length
 ·have hi : (2000 : Int) < (s.length : Int) := by omega
  have HE : Hid (Z0e s = prNo 5) := L0 (by unfold Z0e; rw [if_pos hl])
  clear hl
  go_wp2_with (go_at_call 71; (with_reducible refine (Z3l 5 W).mono ?_); rintro e wz ⟨rfl, hbz⟩; have HPZ := L0 (HP.out.below hbz HP.out.lt.2); obtain ⟨WZ, eZ, n0, n1, n2, m0, m1, m2, m3, m4, HBZ, _⟩ := HPZ.out.store dm0 [] 0 false (.slice none 0 0) (.slice none 0 0); simp only [dm0] at eZ n0 n1 n2; have HBF : Hid (Below w.heap.size w WZ) := L0 (HBZ.out _ (L0f _) _ (HB.out.trans (hbz.mono HB.out.size))); have a0 := HPZ.out.a0; have a1 := HPZ.out.a1; have a2 := HPZ.out.a2; have b0 := HPZ.out.b0; have b1 := HPZ.out.b1; have b2 := HPZ.out.b2; have b3 := HPZ.out.b3; have b4 := HPZ.out.b4; have x0 := HPZ.out.x 0; have x1 := HPZ.out.x 1; have x2 := HPZ.out.x 2; have y0 := HPZ.out.y 0; have y1 := HPZ.out.y 1; have y2 := HPZ.out.y 2; have y3 := HPZ.out.y 3; have y4 := HPZ.out.y 4; clear hbz)
  trace_state
  refine bodyPost_ret (by simp [results, Tryz.results44, go_sem, n0, n1, n2, m0, m1, m2, m3, m4]; rfl) rfl ?_
  exact HZ.out _ _ _ HE.out rfl HBF.out
 ·have hi : ¬ (2000 : Int) < (s.length : Int) := by omega
  have HSL : Hid (s.length <= 4000) := L0 (by omega)
  obtain ⟨f, hf⟩ : ∃ x, (Z07 s []).isSome = x := ⟨_, rfl⟩
  obtain ⟨ws, hws⟩ : ∃ x, (Z07 s []).getD [] = x := ⟨_, rfl⟩
  have HSP : Hid (Calls Tryz.prog 72 #[.string ⟨s.toArray⟩] W fun e w' => ∃ v, e = .returned (.tuple #[v, .bool f]) /\ Own rStr 9 w' W.heap.size (fun _ => False) v ws /\ Below W.heap.size W w') := L0 (by have := Y7z s W HSL.out; rw [hf, hws] at this; exact this)
  have HR0 : Hid (rd0 s = ⟨ws, !f⟩) := L0 (by unfold rd0; rw [hf, hws])
  obtain ⟨⟨b, r1⟩, h1⟩ : ∃ x, atR ⟨ws, !f⟩ kwD = x := ⟨_, rfl⟩
  have HLN0 : Hid (ws.length <= 4000) := L0 (by have h := Y70 s.length s []; have e : Z2f s.length s [] = Z07 s [] := rfl; rw [e, hws] at h; simp only [L0u] at h; have := HSL.out; omega)
  have HAT1 : Hid (∀ w q, RdAt w q ⟨ws, !f⟩ -> Calls Tryz.prog 73 #[.pointer (some ⟨q, 0, none⟩), .string ⟨#[100, 111, 109, 97, 105, 110]⟩] w fun e w' => e = .returned (.bool b) /\ RdAt w' q r1 /\ Only q w w') := L0 fun w q hr => by have := Z3g kwD w hr; rw [h1] at this; exact this
  have HPR : Hid (Z0e s = if b then (if (Z89 r1).2.bad = true \/ 0 < (Z89 r1).2.l.length \/ Z5j (Z89 r1).1 = false then prNo 1 else ⟨(Z89 r1).1, tb0, false, 0⟩) else if (atR r1 kwT).1 then (if (Z3b (atR r1 kwT).2).2.bad = true \/ 0 < (Z3b (atR r1 kwT).2).2.l.length \/ Z0r (Z3b (atR r1 kwT).2).1 = false then prNo 1 else ⟨dm0, (Z3b (atR r1 kwT).2).1, true, 0⟩) else prNo 1) := L0 (by unfold Z0e; rw [if_neg hl, HR0.out, h1])
  have H1 := L0 h1
  clear hf hws h1 hl
  cases b
  ·obtain rfl := X14 H1.out
   obtain ⟨⟨b2, r2⟩, h2⟩ : ∃ x, atR ⟨ws, !f⟩ kwT = x := ⟨_, rfl⟩
   have HAT2 : Hid (∀ w q, RdAt w q ⟨ws, !f⟩ -> Calls Tryz.prog 73 #[.pointer (some ⟨q, 0, none⟩), .string ⟨#[116, 97, 98, 108, 101]⟩] w fun e w' => e = .returned (.bool b2) /\ RdAt w' q r2 /\ Only q w w') := L0 fun w q hr => by have := Z3g kwT w hr; rw [h2] at this; exact this
   have HLN2 : Hid (r2.l.length <= 4000) := L0 (by have h := Z15 ⟨ws, !f⟩ kwT; rw [h2] at h; have := HLN0.out; dsimp only at h; omega)
   have HPS : Hid (Z0e s = if b2 then (if (Z3b r2).2.bad = true \/ 0 < (Z3b r2).2.l.length \/ Z0r (Z3b r2).1 = false then prNo 1 else ⟨dm0, (Z3b r2).1, true, 0⟩) else prNo 1) := L0 (by rw [HPR.out, if_neg (by decide), h2])
   clear h2
   cases b2
   ·have HE : Hid (Z0e s = prNo 1) := L0 (by rw [HPS.out]; rfl)
    go_wp2_with (first | (go_at_call 72; (with_reducible refine HSP.out.mono ?_); rintro e w1 ⟨v1, rfl, hown1, hb1⟩; obtain ⟨A1, l1, rfl⟩ := hown1.value; obtain ⟨W2, e2, HS2⟩ := PSt.start (b := !f) (ty := 141) (HP.out.below hb1 HP.out.lt.2) (HB.out.trans (hb1.mono HB.out.size)) hown1; clear hown1 hb1) | (go_at_call 73; first | ((with_reducible refine (HAT1.out W2 _ HS2.out.rd).mono ?_); rintro e w3 ⟨rfl, hr3, o3⟩; have HS3 := L0 (HS2.out.step o3 hr3); clear hr3 o3) | ((with_reducible refine (HAT2.out w3 _ HS3.out.rd).mono ?_); rintro e w4 ⟨rfl, hr4, o4⟩; have HS4 := L0 (HS3.out.step o4 hr4); clear hr4 o4)) | (go_at_call 71; (with_reducible refine (Z3l 1 w4).mono ?_); rintro e wz ⟨rfl, hbz⟩; have HPZ := L0 ((L0 HS4.out.pb).out.below hbz (L0 HS4.out.pb).out.lt.2); obtain ⟨WZ, eZ, n0, n1, n2, m0, m1, m2, m3, m4, HBZ, _⟩ := HPZ.out.store dm0 [] 0 false (.slice none 0 0) (.slice none 0 0); simp only [dm0] at eZ n0 n1 n2; have HBF : Hid (Below w.heap.size w WZ) := L0 (HBZ.out _ (L0f _) _ ((L0 HS4.out.bel).out.trans (hbz.mono (L0 HS4.out.bel).out.size))); have a0 := HPZ.out.a0; have a1 := HPZ.out.a1; have a2 := HPZ.out.a2; have b0 := HPZ.out.b0; have b1 := HPZ.out.b1; have b2 := HPZ.out.b2; have b3 := HPZ.out.b3; have b4 := HPZ.out.b4; have x0 := HPZ.out.x 0; have x1 := HPZ.out.x 1; have x2 := HPZ.out.x 2; have y0 := HPZ.out.y 0; have y1 := HPZ.out.y 1; have y2 := HPZ.out.y 2; have y3 := HPZ.out.y 3; have y4 := HPZ.out.y 4; clear hbz))
    refine bodyPost_ret (by simp [results, Tryz.results44, go_sem, n0, n1, n2, m0, m1, m2, m3, m4]; rfl) rfl ?_
    exact HZ.out _ _ _ HE.out rfl HBF.out
   ·obtain ⟨⟨tt, ⟨l5, b5⟩⟩, htb⟩ : ∃ x, Z3b r2 = x := ⟨_, rfl⟩
    have HTAB : Hid (∀ {q : Nat} w', RdAt w' q r2 -> (∀ w'', Only q w' w'' -> Below w.heap.size w w'') -> Calls Tryz.prog 78 #[.pointer (some ⟨q, 0, none⟩)] w' fun e w'' => ∃ v u, e = .returned (.agg #[.string ⟨tt.name.toArray⟩, .int .i64 tt.pol, .bool tt.comp, v, u]) /\ Own rStr 9 w'' w'.heap.size (fun _ => False) v tt.ins /\ Own rRl 69 w'' w'.heap.size (fun _ => False) u tt.rules /\ RdAt w'' q ⟨l5, b5⟩ /\ Only q w' w'') := L0 fun w' hr ho => by have := Y5s w' hr HLN2.out (fun w'' h => HW.out.below (ho w'' h)) (fun w'' h => HPO.out.below (ho w'' h)); rw [htb] at this; exact this
    have HTN : Hid (∀ {q : Nat} w', RdAt w' q r2 -> tt.name.length <= 140737488355328) := L0 fun w' hr => by have h := Z9t hr; have e : (Z3b r2).1.name = (Z27 r2).1 := rfl; rw [htb] at e; dsimp only at e; rw [e]; exact h
    have HTP : Hid (InI tt.pol) := L0 (by have h := Y83 (Z3w (Z27 r2).2).1; have e : (Z3b r2).1.pol = Z8i pols (Z3w (Z27 r2).2).1 := rfl; rw [htb] at e; dsimp only at e; rw [e]; unfold InI; omega)
    have HPT : Hid (Z0e s = if b5 = true \/ 0 < l5.length \/ Z0r tt = false then prNo 1 else ⟨dm0, tt, true, 0⟩) := L0 (by rw [HPS.out, if_pos rfl, htb])
    clear htb
    cases b5
    ·by_cases h5 : l5 = []
     ·subst h5
      obtain ⟨g, hg⟩ : ∃ x, Z0r tt = x := ⟨_, rfl⟩
      have HG := L0 hg
      cases g
      ·have HE : Hid (Z0e s = prNo 1) := L0 (by rw [HPT.out, if_pos (.inr (.inr hg))])
       clear hg
       go_wp2_with (first | (go_at_call 72; (with_reducible refine HSP.out.mono ?_); rintro e w1 ⟨v1, rfl, hown1, hb1⟩; obtain ⟨A1, l1, rfl⟩ := hown1.value; obtain ⟨W2, e2, HS2⟩ := PSt.start (b := !f) (ty := 141) (HP.out.below hb1 HP.out.lt.2) (HB.out.trans (hb1.mono HB.out.size)) hown1; clear hown1 hb1) | (go_at_call 73; first | ((with_reducible refine (HAT1.out W2 _ HS2.out.rd).mono ?_); rintro e w3 ⟨rfl, hr3, o3⟩; have HS3 := L0 (HS2.out.step o3 hr3); clear hr3 o3) | ((with_reducible refine (HAT2.out w3 _ HS3.out.rd).mono ?_); rintro e w4 ⟨rfl, hr4, o4⟩; have HS4 := L0 (HS3.out.step o4 hr4); clear hr4 o4)) | (go_at_call 78; (with_reducible refine (HTAB.out w4 HS4.out.rd HS4.out.all).mono ?_); rintro e w5 ⟨v5, u5, rfl, hv5, hu5, hr5, o5⟩; obtain ⟨Av, lv, rfl⟩ := hv5.value; obtain ⟨Au, lu, rfl⟩ := hu5.value; obtain ⟨W6, e6, HS6, HT6, HC6, HL6, k1, A9, c9, k0⟩ := (HS4.out.step o5 hr5).box5 66 (HTN.out w4 HS4.out.rd) HTP.out hv5 hu5; have j0 := HC6.out.1; have j1 := HC6.out.2.1; have j2 := HC6.out.2.2.1; have j3 := HC6.out.2.2.2.1; have j4 := HC6.out.2.2.2.2; have HO45 : Hid (w4.heap.size <= w5.heap.size) := L0 o5.size; clear hv5 hu5 hr5 o5) | (go_at_call 79; (with_reducible refine (Y0f W6 HT6.out HG.out).mono ?_); rintro e w7 ⟨rfl, hb7⟩; have HS7 := L0 (HS6.out.belowS hb7); have HT7 := L0 (Rd.below HT6.out hb7); obtain ⟨t0, t1, t2, t3, t4⟩ := Y77 HC6.out hb7 HL6.out; clear hb7) | (go_at_call 71; (with_reducible refine (Z3l 1 w7).mono ?_); rintro e wz ⟨rfl, hbz⟩; have HPZ := L0 ((L0 HS7.out.pb).out.below hbz (L0 HS7.out.pb).out.lt.2); obtain ⟨WZ, eZ, n0, n1, n2, m0, m1, m2, m3, m4, HBZ, _⟩ := HPZ.out.store dm0 [] 0 false (.slice none 0 0) (.slice none 0 0); simp only [dm0] at eZ n0 n1 n2; have HBF : Hid (Below w.heap.size w WZ) := L0 (HBZ.out _ (L0f _) _ ((L0 HS7.out.bel).out.trans (hbz.mono (L0 HS7.out.bel).out.size))); have a0 := HPZ.out.a0; have a1 := HPZ.out.a1; have a2 := HPZ.out.a2; have b0 := HPZ.out.b0; have b1 := HPZ.out.b1; have b2 := HPZ.out.b2; have b3 := HPZ.out.b3; have b4 := HPZ.out.b4; have x0 := HPZ.out.x 0; have x1 := HPZ.out.x 1; have x2 := HPZ.out.x 2; have y0 := HPZ.out.y 0; have y1 := HPZ.out.y 1; have y2 := HPZ.out.y 2; have y3 := HPZ.out.y 3; have y4 := HPZ.out.y 4; clear hbz))
       refine bodyPost_ret (by simp [results, Tryz.results44, go_sem, n0, n1, n2, m0, m1, m2, m3, m4]; rfl) rfl ?_
       exact HZ.out _ _ _ HE.out rfl HBF.out
      ·have HE : Hid (Z0e s = ⟨dm0, tt, true, 0⟩) := L0 (by rw [HPT.out, if_neg (by simp [hg])])
       clear hg
       go_wp2_with (first | (go_at_call 72; (with_reducible refine HSP.out.mono ?_); rintro e w1 ⟨v1, rfl, hown1, hb1⟩; obtain ⟨A1, l1, rfl⟩ := hown1.value; obtain ⟨W2, e2, HS2⟩ := PSt.start (b := !f) (ty := 141) (HP.out.below hb1 HP.out.lt.2) (HB.out.trans (hb1.mono HB.out.size)) hown1; clear hown1 hb1) | (go_at_call 73; first | ((with_reducible refine (HAT1.out W2 _ HS2.out.rd).mono ?_); rintro e w3 ⟨rfl, hr3, o3⟩; have HS3 := L0 (HS2.out.step o3 hr3); clear hr3 o3) | ((with_reducible refine (HAT2.out w3 _ HS3.out.rd).mono ?_); rintro e w4 ⟨rfl, hr4, o4⟩; have HS4 := L0 (HS3.out.step o4 hr4); clear hr4 o4)) | (go_at_call 78; (with_reducible refine (HTAB.out w4 HS4.out.rd HS4.out.all).mono ?_); rintro e w5 ⟨v5, u5, rfl, hv5, hu5, hr5, o5⟩; obtain ⟨Av, lv, rfl⟩ := hv5.value; obtain ⟨Au, lu, rfl⟩ := hu5.value; obtain ⟨W6, e6, HS6, HT6, HC6, HL6, k1, A9, c9, k0⟩ := (HS4.out.step o5 hr5).box5 66 (HTN.out w4 HS4.out.rd) HTP.out hv5 hu5; have j0 := HC6.out.1; have j1 := HC6.out.2.1; have j2 := HC6.out.2.2.1; have j3 := HC6.out.2.2.2.1; have j4 := HC6.out.2.2.2.2; have HO45 : Hid (w4.heap.size <= w5.heap.size) := L0 o5.size; clear hv5 hu5 hr5 o5) | (go_at_call 79; (with_reducible refine (Y0f W6 HT6.out HG.out).mono ?_); rintro e w7 ⟨rfl, hb7⟩; have HS7 := L0 (HS6.out.belowS hb7); have HT7 := L0 (Rd.below HT6.out hb7); obtain ⟨t0, t1, t2, t3, t4⟩ := Y77 HC6.out hb7 HL6.out; clear hb7))
       obtain ⟨WZ, eZ, n0, n1, n2, m0, m1, m2, m3, m4, HBZ, HKZ⟩ := HS7.out.pb.store dm0 tt.name tt.pol tt.comp (.slice Av tt.ins.length lv) (.slice Au tt.rules.length lu)
       simp only [dm0] at eZ n0 n1 n2
       have HBF : Hid (Below w.heap.size w WZ.drew) := L0 (Y6u (HBZ.out _ (L0f _) _ HS7.out.bel))
       have hlts : w.heap.size + 1 < w4.heap.size /\ w4.heap.size <= w5.heap.size := ⟨Nat.lt_trans HS4.out.hq HS4.out.rd.lt, HO45.out⟩
       have HTZ : Hid (rTb.rel WZ.drew (Up (fun _ => False) w.heap.size) [.string ⟨tt.name.toArray⟩, .int .i64 tt.pol, .bool tt.comp, .slice Av tt.ins.length lv, .slice Au tt.rules.length lu] tt) := L0 (Rd.drew (Rd.upup (rTb.keep HT7.out (HKZ.out _ (fun h => h.elim id fun h => by omega) (fun h => h.elim id fun h => by omega))) (by omega)))
       have hne1 : ¬ (w.heap.size = w5.heap.size) := by omega
       have hne2 : ¬ (w5.heap.size = w.heap.size) := by omega
       have a0 := HS7.out.pb.a0
       have a1 := HS7.out.pb.a1
       have a2 := HS7.out.pb.a2
       have b0 := HS7.out.pb.b0
       have b1 := HS7.out.pb.b1
       have b2 := HS7.out.pb.b2
       have b3 := HS7.out.pb.b3
       have b4 := HS7.out.pb.b4
       have x0 := HS7.out.pb.x 0
       have x1 := HS7.out.pb.x 1
       have x2 := HS7.out.pb.x 2
       have y0 := HS7.out.pb.y 0
       have y1 := HS7.out.pb.y 1
       have y2 := HS7.out.pb.y 2
       have y3 := HS7.out.pb.y 3
       have y4 := HS7.out.pb.y 4
       clear hlts
       go_region
       all_goals
        go_wp2
        refine bodyPost_ret (by simp [results, Tryz.results44, go_sem, n0, n1, n2, m0, m1, m2, m3, m4]; rfl) rfl ?_
        exact ⟨_, _, by rw [HE.out]; rfl, by rw [HE.out]; exact HTZ.out, HBF.out⟩
     ·have hl5 : (0 : Int) < (l5.length : Int) := by have := L3w.2 h5; omega
      have HE : Hid (Z0e s = prNo 1) := L0 (by rw [HPT.out, if_pos (.inr (.inl (by omega)))])
      have hl6 : 0 < l5.length := L3w.2 h5
      go_wp2_with (first | (go_at_call 72; (with_reducible refine HSP.out.mono ?_); rintro e w1 ⟨v1, rfl, hown1, hb1⟩; obtain ⟨A1, l1, rfl⟩ := hown1.value; obtain ⟨W2, e2, HS2⟩ := PSt.start (b := !f) (ty := 141) (HP.out.below hb1 HP.out.lt.2) (HB.out.trans (hb1.mono HB.out.size)) hown1; clear hown1 hb1) | (go_at_call 73; first | ((with_reducible refine (HAT1.out W2 _ HS2.out.rd).mono ?_); rintro e w3 ⟨rfl, hr3, o3⟩; have HS3 := L0 (HS2.out.step o3 hr3); clear hr3 o3) | ((with_reducible refine (HAT2.out w3 _ HS3.out.rd).mono ?_); rintro e w4 ⟨rfl, hr4, o4⟩; have HS4 := L0 (HS3.out.step o4 hr4); clear hr4 o4)) | (go_at_call 78; (with_reducible refine (HTAB.out w4 HS4.out.rd HS4.out.all).mono ?_); rintro e w5 ⟨v5, u5, rfl, hv5, hu5, hr5, o5⟩; obtain ⟨Av, lv, rfl⟩ := hv5.value; obtain ⟨Au, lu, rfl⟩ := hu5.value; obtain ⟨W6, e6, HS6, HT6, HC6, HL6, k1, A9, c9, k0⟩ := (HS4.out.step o5 hr5).box5 66 (HTN.out w4 HS4.out.rd) HTP.out hv5 hu5; have j0 := HC6.out.1; have j1 := HC6.out.2.1; have j2 := HC6.out.2.2.1; have j3 := HC6.out.2.2.2.1; have j4 := HC6.out.2.2.2.2; have HO45 : Hid (w4.heap.size <= w5.heap.size) := L0 o5.size; clear hv5 hu5 hr5 o5) | (go_at_call 71; (with_reducible refine (Z3l 1 W6).mono ?_); rintro e wz ⟨rfl, hbz⟩; have HPZ := L0 ((L0 HS6.out.pb).out.below hbz (L0 HS6.out.pb).out.lt.2); obtain ⟨WZ, eZ, n0, n1, n2, m0, m1, m2, m3, m4, HBZ, _⟩ := HPZ.out.store dm0 [] 0 false (.slice none 0 0) (.slice none 0 0); simp only [dm0] at eZ n0 n1 n2; have HBF : Hid (Below w.heap.size w WZ) := L0 (HBZ.out _ (L0f _) _ ((L0 HS6.out.bel).out.trans (hbz.mono (L0 HS6.out.bel).out.size))); have a0 := HPZ.out.a0; have a1 := HPZ.out.a1; have a2 := HPZ.out.a2; have b0 := HPZ.out.b0; have b1 := HPZ.out.b1; have b2 := HPZ.out.b2; have b3 := HPZ.out.b3; have b4 := HPZ.out.b4; have x0 := HPZ.out.x 0; have x1 := HPZ.out.x 1; have x2 := HPZ.out.x 2; have y0 := HPZ.out.y 0; have y1 := HPZ.out.y 1; have y2 := HPZ.out.y 2; have y3 := HPZ.out.y 3; have y4 := HPZ.out.y 4; clear hbz))
      refine bodyPost_ret (by simp [results, Tryz.results44, go_sem, n0, n1, n2, m0, m1, m2, m3, m4]; rfl) rfl ?_
      exact HZ.out _ _ _ HE.out rfl HBF.out
    ·have HE : Hid (Z0e s = prNo 1) := L0 (by rw [HPT.out, if_pos (.inl rfl)])
     go_wp2_with (first | (go_at_call 72; (with_reducible refine HSP.out.mono ?_); rintro e w1 ⟨v1, rfl, hown1, hb1⟩; obtain ⟨A1, l1, rfl⟩ := hown1.value; obtain ⟨W2, e2, HS2⟩ := PSt.start (b := !f) (ty := 141) (HP.out.below hb1 HP.out.lt.2) (HB.out.trans (hb1.mono HB.out.size)) hown1; clear hown1 hb1) | (go_at_call 73; first | ((with_reducible refine (HAT1.out W2 _ HS2.out.rd).mono ?_); rintro e w3 ⟨rfl, hr3, o3⟩; have HS3 := L0 (HS2.out.step o3 hr3); clear hr3 o3) | ((with_reducible refine (HAT2.out w3 _ HS3.out.rd).mono ?_); rintro e w4 ⟨rfl, hr4, o4⟩; have HS4 := L0 (HS3.out.step o4 hr4); clear hr4 o4)) | (go_at_call 78; (with_reducible refine (HTAB.out w4 HS4.out.rd HS4.out.all).mono ?_); rintro e w5 ⟨v5, u5, rfl, hv5, hu5, hr5, o5⟩; obtain ⟨Av, lv, rfl⟩ := hv5.value; obtain ⟨Au, lu, rfl⟩ := hu5.value; obtain ⟨W6, e6, HS6, HT6, HC6, HL6, k1, A9, c9, k0⟩ := (HS4.out.step o5 hr5).box5 66 (HTN.out w4 HS4.out.rd) HTP.out hv5 hu5; have j0 := HC6.out.1; have j1 := HC6.out.2.1; have j2 := HC6.out.2.2.1; have j3 := HC6.out.2.2.2.1; have j4 := HC6.out.2.2.2.2; have HO45 : Hid (w4.heap.size <= w5.heap.size) := L0 o5.size; clear hv5 hu5 hr5 o5) | (go_at_call 71; (with_reducible refine (Z3l 1 W6).mono ?_); rintro e wz ⟨rfl, hbz⟩; have HPZ := L0 ((L0 HS6.out.pb).out.below hbz (L0 HS6.out.pb).out.lt.2); obtain ⟨WZ, eZ, n0, n1, n2, m0, m1, m2, m3, m4, HBZ, _⟩ := HPZ.out.store dm0 [] 0 false (.slice none 0 0) (.slice none 0 0); simp only [dm0] at eZ n0 n1 n2; have HBF : Hid (Below w.heap.size w WZ) := L0 (HBZ.out _ (L0f _) _ ((L0 HS6.out.bel).out.trans (hbz.mono (L0 HS6.out.bel).out.size))); have a0 := HPZ.out.a0; have a1 := HPZ.out.a1; have a2 := HPZ.out.a2; have b0 := HPZ.out.b0; have b1 := HPZ.out.b1; have b2 := HPZ.out.b2; have b3 := HPZ.out.b3; have b4 := HPZ.out.b4; have x0 := HPZ.out.x 0; have x1 := HPZ.out.x 1; have x2 := HPZ.out.x 2; have y0 := HPZ.out.y 0; have y1 := HPZ.out.y 1; have y2 := HPZ.out.y 2; have y3 := HPZ.out.y 3; have y4 := HPZ.out.y 4; clear hbz))
     refine bodyPost_ret (by simp [results, Tryz.results44, go_sem, n0, n1, n2, m0, m1, m2, m3, m4]; rfl) rfl ?_
     exact HZ.out _ _ _ HE.out rfl HBF.out
  ·obtain ⟨⟨nm, r2⟩, g1⟩ : ∃ x, Z27 r1 = x := ⟨_, rfl⟩
   obtain ⟨⟨lo, r3⟩, g2⟩ : ∃ x, Z0i r2 = x := ⟨_, rfl⟩
   obtain ⟨r4, g3⟩ : ∃ x, Z2v r3 [46, 46] = x := ⟨_, rfl⟩
   obtain ⟨⟨up, ⟨l5, b5⟩⟩, g4⟩ : ∃ x, Z0i r4 = x := ⟨_, rfl⟩
   have hdr : Z89 r1 = (⟨nm, lo, up⟩, ⟨l5, b5⟩) := by unfold Z89; simp only [g1, g2, g3, g4]
   have HNM : Hid (∀ w q, RdAt w q r1 -> Calls Tryz.prog 74 #[.pointer (some ⟨q, 0, none⟩)] w fun e w' => e = .returned (.string ⟨nm.toArray⟩) /\ RdAt w' q r2 /\ Only q w w') := L0 fun w q hr => by have := Z8x w hr; rw [g1] at this; exact this
   have HNU1 : Hid (∀ w' q, RdAt w' q r2 -> (∀ w'', Only q w' w'' -> Below w.heap.size w w'') -> Calls Tryz.prog 75 #[.pointer (some ⟨q, 0, none⟩)] w' fun e w'' => e = .returned (.int .i64 lo) /\ RdAt w'' q r3 /\ Only q w' w'') := L0 fun w' q hr ho => by have := Z3a w' hr (fun w'' h => HW.out.below (ho w'' h)); rw [g2] at this; exact this
   have HNU2 : Hid (∀ w' q, RdAt w' q r4 -> (∀ w'', Only q w' w'' -> Below w.heap.size w w'') -> Calls Tryz.prog 75 #[.pointer (some ⟨q, 0, none⟩)] w' fun e w'' => e = .returned (.int .i64 up) /\ RdAt w'' q ⟨l5, b5⟩ /\ Only q w' w'') := L0 fun w' q hr ho => by have := Z3a w' hr (fun w'' h => HW.out.below (ho w'' h)); rw [g4] at this; exact this
   have HTK : Hid (∀ w q, RdAt w q r3 -> Calls Tryz.prog 76 #[.pointer (some ⟨q, 0, none⟩), .string ⟨#[46, 46]⟩] w fun e w' => e = .returned (.tuple #[]) /\ RdAt w' q r4 /\ Only q w w') := L0 fun w q hr => by have := Z5g [46, 46] w hr; rw [g3] at this; exact this
   have HPD : Hid (Z0e s = if b5 = true \/ 0 < l5.length \/ Z5j ⟨nm, lo, up⟩ = false then prNo 1 else ⟨⟨nm, lo, up⟩, tb0, false, 0⟩) := L0 (by rw [HPR.out, if_pos rfl, hdr])
   have HNLW : Hid (∀ w q, RdAt w q r1 -> nm.length <= 140737488355328) := L0 fun w q hr => by have h := Z9t hr; rw [g1] at h; exact h
   clear g1 g2 g3 g4 hdr
   cases b5
   ·by_cases h5 : l5 = []
    ·subst h5
     obtain ⟨g, hg⟩ : ∃ x, Z5j ⟨nm, lo, up⟩ = x := ⟨_, rfl⟩
     have HG := L0 hg
     cases g
     ·have HE : Hid (Z0e s = prNo 1) := L0 (by rw [HPD.out, if_pos (.inr (.inr hg))])
      clear hg
      go_wp2_with (first | (go_at_call 72; (with_reducible refine HSP.out.mono ?_); rintro e w1 ⟨v1, rfl, hown1, hb1⟩; obtain ⟨A1, l1, rfl⟩ := hown1.value; obtain ⟨W2, e2, HS2⟩ := PSt.start (b := !f) (ty := 141) (HP.out.below hb1 HP.out.lt.2) (HB.out.trans (hb1.mono HB.out.size)) hown1; clear hown1 hb1) | (go_at_call 73; (with_reducible refine (HAT1.out W2 _ HS2.out.rd).mono ?_); rintro e w3 ⟨rfl, hr3, o3⟩; have HS3 := L0 (HS2.out.step o3 hr3); clear hr3 o3) | (go_at_call 74; (with_reducible refine (HNM.out w3 _ HS3.out.rd).mono ?_); rintro e w4 ⟨rfl, hr4, o4⟩; have HS4 := L0 (HS3.out.step o4 hr4); clear hr4 o4) | (go_at_call 75; first | ((with_reducible refine (HNU1.out w4 _ HS4.out.rd HS4.out.all).mono ?_); rintro e w5 ⟨rfl, hr5, o5⟩; obtain ⟨W6, e6, z6, k6, W7, e7, HS7, HC7, HL7⟩ := (HS4.out.step o5 hr5).box3 nm lo 63; clear hr5 o5) | ((with_reducible refine (HNU2.out w8 _ HS8.out.rd HS8.out.all).mono ?_); rintro e w9 ⟨rfl, hr9, o9⟩; have hs9 := HS8.out.step o9 hr9; obtain ⟨⟨p0, p1, p2, pz⟩, hl9⟩ := Z4z HC8.out o9 HL8.out; obtain ⟨W10, e10, HS10, g0, g1, g2⟩ := hs9.hi hl9.1 (.int .i64 up) p0 p1 p2; obtain ⟨A9, c9, kq0, kq1, _⟩ := id HS10.out.rd; have HG10 := L0 (And.intro g0 (And.intro g1 g2)); have HLB := L0 hl9.1; clear hr9 o9 hs9 hl9)) | (go_at_call 76; (with_reducible refine (HTK.out W7 _ HS7.out.rd).mono ?_); rintro e w8 ⟨rfl, hr8, o8⟩; obtain ⟨hc8, hl8⟩ := Z4z HC7.out o8 HL7.out; have HC8 := L0 hc8; have HL8 := L0 hl8; have HS8 := L0 (HS7.out.step o8 hr8); clear hr8 o8 hc8 hl8) | (go_at_call 77; (with_reducible refine (Z7a (d := ⟨nm, lo, up⟩) W10 (HNLW.out w3 _ HS3.out.rd) HG.out).mono ?_); rintro e w11 ⟨rfl, hb11⟩; have HS11 := L0 (HS10.out.belowS hb11); have hlb := L0e _ _ g0; have q0 := (hb11.ce 0 hlb).trans g0; have q1 := (hb11.ce 1 hlb).trans g1; have q2 := (hb11.ce 2 hlb).trans g2; clear hb11 hlb) | (go_at_call 71; (with_reducible refine (Z3l 1 w11).mono ?_); rintro e wz ⟨rfl, hbz⟩; have HPZ := L0 ((L0 HS11.out.pb).out.below hbz (L0 HS11.out.pb).out.lt.2); obtain ⟨WZ, eZ, n0, n1, n2, m0, m1, m2, m3, m4, HBZ, _⟩ := HPZ.out.store dm0 [] 0 false (.slice none 0 0) (.slice none 0 0); simp only [dm0] at eZ n0 n1 n2; have HBF : Hid (Below w.heap.size w WZ) := L0 (HBZ.out _ (L0f _) _ ((L0 HS11.out.bel).out.trans (hbz.mono (L0 HS11.out.bel).out.size))); have a0 := HPZ.out.a0; have a1 := HPZ.out.a1; have a2 := HPZ.out.a2; have b0 := HPZ.out.b0; have b1 := HPZ.out.b1; have b2 := HPZ.out.b2; have b3 := HPZ.out.b3; have b4 := HPZ.out.b4; have x0 := HPZ.out.x 0; have x1 := HPZ.out.x 1; have x2 := HPZ.out.x 2; have y0 := HPZ.out.y 0; have y1 := HPZ.out.y 1; have y2 := HPZ.out.y 2; have y3 := HPZ.out.y 3; have y4 := HPZ.out.y 4; clear hbz))
      refine bodyPost_ret (by simp [results, Tryz.results44, go_sem, n0, n1, n2, m0, m1, m2, m3, m4]; rfl) rfl ?_
      exact HZ.out _ _ _ HE.out rfl HBF.out
     ·have HE : Hid (Z0e s = ⟨⟨nm, lo, up⟩, tb0, false, 0⟩) := L0 (by rw [HPD.out, if_neg (by simp [hg])])
      clear hg
      go_wp2_with (first | (go_at_call 72; (with_reducible refine HSP.out.mono ?_); rintro e w1 ⟨v1, rfl, hown1, hb1⟩; obtain ⟨A1, l1, rfl⟩ := hown1.value; obtain ⟨W2, e2, HS2⟩ := PSt.start (b := !f) (ty := 141) (HP.out.below hb1 HP.out.lt.2) (HB.out.trans (hb1.mono HB.out.size)) hown1; clear hown1 hb1) | (go_at_call 73; (with_reducible refine (HAT1.out W2 _ HS2.out.rd).mono ?_); rintro e w3 ⟨rfl, hr3, o3⟩; have HS3 := L0 (HS2.out.step o3 hr3); clear hr3 o3) | (go_at_call 74; (with_reducible refine (HNM.out w3 _ HS3.out.rd).mono ?_); rintro e w4 ⟨rfl, hr4, o4⟩; have HS4 := L0 (HS3.out.step o4 hr4); clear hr4 o4) | (go_at_call 75; first | ((with_reducible refine (HNU1.out w4 _ HS4.out.rd HS4.out.all).mono ?_); rintro e w5 ⟨rfl, hr5, o5⟩; obtain ⟨W6, e6, z6, k6, W7, e7, HS7, HC7, HL7⟩ := (HS4.out.step o5 hr5).box3 nm lo 63; clear hr5 o5) | ((with_reducible refine (HNU2.out w8 _ HS8.out.rd HS8.out.all).mono ?_); rintro e w9 ⟨rfl, hr9, o9⟩; have hs9 := HS8.out.step o9 hr9; obtain ⟨⟨p0, p1, p2, pz⟩, hl9⟩ := Z4z HC8.out o9 HL8.out; obtain ⟨W10, e10, HS10, g0, g1, g2⟩ := hs9.hi hl9.1 (.int .i64 up) p0 p1 p2; obtain ⟨A9, c9, kq0, kq1, _⟩ := id HS10.out.rd; have HG10 := L0 (And.intro g0 (And.intro g1 g2)); have HLB := L0 hl9.1; clear hr9 o9 hs9 hl9)) | (go_at_call 76; (with_reducible refine (HTK.out W7 _ HS7.out.rd).mono ?_); rintro e w8 ⟨rfl, hr8, o8⟩; obtain ⟨hc8, hl8⟩ := Z4z HC7.out o8 HL7.out; have HC8 := L0 hc8; have HL8 := L0 hl8; have HS8 := L0 (HS7.out.step o8 hr8); clear hr8 o8 hc8 hl8) | (go_at_call 77; (with_reducible refine (Z7a (d := ⟨nm, lo, up⟩) W10 (HNLW.out w3 _ HS3.out.rd) HG.out).mono ?_); rintro e w11 ⟨rfl, hb11⟩; have HS11 := L0 (HS10.out.belowS hb11); have hlb := L0e _ _ g0; have q0 := (hb11.ce 0 hlb).trans g0; have q1 := (hb11.ce 1 hlb).trans g1; have q2 := (hb11.ce 2 hlb).trans g2; obtain ⟨WZ, eZ, n0, n1, n2, m0, m1, m2, m3, m4, HBZ, HKZ⟩ := HS11.out.pb.store ⟨nm, lo, up⟩ [] 0 false (.slice none 0 0) (.slice none 0 0); have HBF : Hid (Below w.heap.size w WZ) := L0 (HBZ.out _ (L0f _) _ HS11.out.bel); have a0 := HS11.out.pb.a0; have a1 := HS11.out.pb.a1; have a2 := HS11.out.pb.a2; have b0 := HS11.out.pb.b0; have b1 := HS11.out.pb.b1; have b2 := HS11.out.pb.b2; have b3 := HS11.out.pb.b3; have b4 := HS11.out.pb.b4; have x0 := HS11.out.pb.x 0; have x1 := HS11.out.pb.x 1; have x2 := HS11.out.pb.x 2; have y0 := HS11.out.pb.y 0; have y1 := HS11.out.pb.y 1; have y2 := HS11.out.pb.y 2; have y3 := HS11.out.pb.y 3; have y4 := HS11.out.pb.y 4; clear hb11 hlb))
      refine bodyPost_ret (by simp [results, Tryz.results44, go_sem, n0, n1, n2, m0, m1, m2, m3, m4]; rfl) rfl ?_
      exact ⟨_, _, by rw [HE.out]; rfl, by rw [HE.out]; exact ⟨_, _, rfl, by show ([] : Txt).length <= _; decide, by show InI 0; unfold InI; decide, (Own.nil rStr 9 WZ w.heap.size (fun _ => False)).rel (by decide), (Own.nil rRl 69 WZ w.heap.size (fun _ => False)).rel (by decide)⟩, HBF.out⟩
    ·have hl5 : (0 : Int) < (l5.length : Int) := by have := L3w.2 h5; omega
     have HE : Hid (Z0e s = prNo 1) := L0 (by rw [HPD.out, if_pos (.inr (.inl (by omega)))])
     have hl6 : 0 < l5.length := L3w.2 h5
     go_wp2_with (first | (go_at_call 72; (with_reducible refine HSP.out.mono ?_); rintro e w1 ⟨v1, rfl, hown1, hb1⟩; obtain ⟨A1, l1, rfl⟩ := hown1.value; obtain ⟨W2, e2, HS2⟩ := PSt.start (b := !f) (ty := 141) (HP.out.below hb1 HP.out.lt.2) (HB.out.trans (hb1.mono HB.out.size)) hown1; clear hown1 hb1) | (go_at_call 73; (with_reducible refine (HAT1.out W2 _ HS2.out.rd).mono ?_); rintro e w3 ⟨rfl, hr3, o3⟩; have HS3 := L0 (HS2.out.step o3 hr3); clear hr3 o3) | (go_at_call 74; (with_reducible refine (HNM.out w3 _ HS3.out.rd).mono ?_); rintro e w4 ⟨rfl, hr4, o4⟩; have HS4 := L0 (HS3.out.step o4 hr4); clear hr4 o4) | (go_at_call 75; first | ((with_reducible refine (HNU1.out w4 _ HS4.out.rd HS4.out.all).mono ?_); rintro e w5 ⟨rfl, hr5, o5⟩; obtain ⟨W6, e6, z6, k6, W7, e7, HS7, HC7, HL7⟩ := (HS4.out.step o5 hr5).box3 nm lo 63; clear hr5 o5) | ((with_reducible refine (HNU2.out w8 _ HS8.out.rd HS8.out.all).mono ?_); rintro e w9 ⟨rfl, hr9, o9⟩; have hs9 := HS8.out.step o9 hr9; obtain ⟨⟨p0, p1, p2, pz⟩, hl9⟩ := Z4z HC8.out o9 HL8.out; obtain ⟨W10, e10, HS10, g0, g1, g2⟩ := hs9.hi hl9.1 (.int .i64 up) p0 p1 p2; obtain ⟨A9, c9, kq0, kq1, _⟩ := id HS10.out.rd; have HG10 := L0 (And.intro g0 (And.intro g1 g2)); have HLB := L0 hl9.1; clear hr9 o9 hs9 hl9)) | (go_at_call 76; (with_reducible refine (HTK.out W7 _ HS7.out.rd).mono ?_); rintro e w8 ⟨rfl, hr8, o8⟩; obtain ⟨hc8, hl8⟩ := Z4z HC7.out o8 HL7.out; have HC8 := L0 hc8; have HL8 := L0 hl8; have HS8 := L0 (HS7.out.step o8 hr8); clear hr8 o8 hc8 hl8) | (go_at_call 71; (with_reducible refine (Z3l 1 W10).mono ?_); rintro e wz ⟨rfl, hbz⟩; have HPZ := L0 ((L0 HS10.out.pb).out.below hbz (L0 HS10.out.pb).out.lt.2); obtain ⟨WZ, eZ, n0, n1, n2, m0, m1, m2, m3, m4, HBZ, _⟩ := HPZ.out.store dm0 [] 0 false (.slice none 0 0) (.slice none 0 0); simp only [dm0] at eZ n0 n1 n2; have HBF : Hid (Below w.heap.size w WZ) := L0 (HBZ.out _ (L0f _) _ ((L0 HS10.out.bel).out.trans (hbz.mono (L0 HS10.out.bel).out.size))); have a0 := HPZ.out.a0; have a1 := HPZ.out.a1; have a2 := HPZ.out.a2; have b0 := HPZ.out.b0; have b1 := HPZ.out.b1; have b2 := HPZ.out.b2; have b3 := HPZ.out.b3; have b4 := HPZ.out.b4; have x0 := HPZ.out.x 0; have x1 := HPZ.out.x 1; have x2 := HPZ.out.x 2; have y0 := HPZ.out.y 0; have y1 := HPZ.out.y 1; have y2 := HPZ.out.y 2; have y3 := HPZ.out.y 3; have y4 := HPZ.out.y 4; clear hbz))
     refine bodyPost_ret (by simp [results, Tryz.results44, go_sem, n0, n1, n2, m0, m1, m2, m3, m4]; rfl) rfl ?_
     exact HZ.out _ _ _ HE.out rfl HBF.out
   ·have HE : Hid (Z0e s = prNo 1) := L0 (by rw [HPD.out, if_pos (.inl rfl)])
    go_wp2_with (first | (go_at_call 72; (with_reducible refine HSP.out.mono ?_); rintro e w1 ⟨v1, rfl, hown1, hb1⟩; obtain ⟨A1, l1, rfl⟩ := hown1.value; obtain ⟨W2, e2, HS2⟩ := PSt.start (b := !f) (ty := 141) (HP.out.below hb1 HP.out.lt.2) (HB.out.trans (hb1.mono HB.out.size)) hown1; clear hown1 hb1) | (go_at_call 73; (with_reducible refine (HAT1.out W2 _ HS2.out.rd).mono ?_); rintro e w3 ⟨rfl, hr3, o3⟩; have HS3 := L0 (HS2.out.step o3 hr3); clear hr3 o3) | (go_at_call 74; (with_reducible refine (HNM.out w3 _ HS3.out.rd).mono ?_); rintro e w4 ⟨rfl, hr4, o4⟩; have HS4 := L0 (HS3.out.step o4 hr4); clear hr4 o4) | (go_at_call 75; first | ((with_reducible refine (HNU1.out w4 _ HS4.out.rd HS4.out.all).mono ?_); rintro e w5 ⟨rfl, hr5, o5⟩; obtain ⟨W6, e6, z6, k6, W7, e7, HS7, HC7, HL7⟩ := (HS4.out.step o5 hr5).box3 nm lo 63; clear hr5 o5) | ((with_reducible refine (HNU2.out w8 _ HS8.out.rd HS8.out.all).mono ?_); rintro e w9 ⟨rfl, hr9, o9⟩; have hs9 := HS8.out.step o9 hr9; obtain ⟨⟨p0, p1, p2, pz⟩, hl9⟩ := Z4z HC8.out o9 HL8.out; obtain ⟨W10, e10, HS10, g0, g1, g2⟩ := hs9.hi hl9.1 (.int .i64 up) p0 p1 p2; obtain ⟨A9, c9, kq0, kq1, _⟩ := id HS10.out.rd; have HG10 := L0 (And.intro g0 (And.intro g1 g2)); have HLB := L0 hl9.1; clear hr9 o9 hs9 hl9)) | (go_at_call 76; (with_reducible refine (HTK.out W7 _ HS7.out.rd).mono ?_); rintro e w8 ⟨rfl, hr8, o8⟩; obtain ⟨hc8, hl8⟩ := Z4z HC7.out o8 HL7.out; have HC8 := L0 hc8; have HL8 := L0 hl8; have HS8 := L0 (HS7.out.step o8 hr8); clear hr8 o8 hc8 hl8) | (go_at_call 71; (with_reducible refine (Z3l 1 W10).mono ?_); rintro e wz ⟨rfl, hbz⟩; have HPZ := L0 ((L0 HS10.out.pb).out.below hbz (L0 HS10.out.pb).out.lt.2); obtain ⟨WZ, eZ, n0, n1, n2, m0, m1, m2, m3, m4, HBZ, _⟩ := HPZ.out.store dm0 [] 0 false (.slice none 0 0) (.slice none 0 0); simp only [dm0] at eZ n0 n1 n2; have HBF : Hid (Below w.heap.size w WZ) := L0 (HBZ.out _ (L0f _) _ ((L0 HS10.out.bel).out.trans (hbz.mono (L0 HS10.out.bel).out.size))); have a0 := HPZ.out.a0; have a1 := HPZ.out.a1; have a2 := HPZ.out.a2; have b0 := HPZ.out.b0; have b1 := HPZ.out.b1; have b2 := HPZ.out.b2; have b3 := HPZ.out.b3; have b4 := HPZ.out.b4; have x0 := HPZ.out.x 0; have x1 := HPZ.out.x 1; have x2 := HPZ.out.x 2; have y0 := HPZ.out.y 0; have y1 := HPZ.out.y 1; have y2 := HPZ.out.y 2; have y3 := HPZ.out.y 3; have y4 := HPZ.out.y 4; clear hbz))
    refine bodyPost_ret (by simp [results, Tryz.results44, go_sem, n0, n1, n2, m0, m1, m2, m3, m4]; rfl) rfl ?_
    exact HZ.out _ _ _ HE.out rfl HBF.out
