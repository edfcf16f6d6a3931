import Derived.Test.YtlopccnehgolnacGreatDoorGK33
import Derived.Test.YtlopccnehgolnacGreatDoorCopyT
import Derived.Deep.RegionHeld3
import Derived.Deep.DeepCutAuto
import Derived.Deep.CutBlock
import Derived.Test.YtlopccnehgolnacGreatDoorSplit
import Derived.Test.YtlopccnehgolnacGreatDoorGK11
import Derived.Test.YtlopccnehgolnacGreatDoorGK0
namespace Go.Proofs.YtlopccnehgolnacGreatDoor
open Go.RowKit Rb
set_option maxRecDepth 100000
set_option maxHeartbeats 12800000
theorem Y8w : Flat rStr := fun _ _ _ _ _ _ h => h
theorem X3b : ElemOf Tryz.prog rStr 39 9 := .mk' Tryz.underlying39 (z := .string ⟨#[]⟩) (k := 1) (b := 16) (by kernel_rfl) rfl rfl rfl (by decide) (by decide)
theorem Only.drew {q : Nat} {w w' : World} (h : Only q w w') : Only q w w'.drew := ⟨h.os, h.tape, h.output, h.size, h.block⟩
theorem Y1c (wr : World) (q3 i : Nat) (u : Value) : ∀ j, j ≠ i -> (wr.setCell (zn q3 i) u).cell? (zn q3 j) = wr.cell? (zn q3 j) := fun j hj => L0a _ _ _ _ (by simp <;> omega)
def PolW (w : World) : Prop := 0 < w.heap.size /\ ∀ (i : Nat) (s : Txt), pols[i]? = some s -> w.cell? (zn 0 i) = some (sq s)
theorem PolW.rel {w : World} (h : PolW w) : (rSl rStr).rel w (fun _ => True) [.slice (some (zn 0 0)) 8 8] pols := by
 refine ⟨_, _, rfl, L0g _, by decide, by decide, fun i x hx => ?_⟩
 refine ⟨0, 0, [sq x], rfl, trivial, h.1, ⟨rfl, ?_⟩, fun j u hu => ?_⟩
 ·have : ∀ y ∈ pols, y.length <= 140737488355328 := by decide
  exact this x (L0z hx)
 cases j with
 | zero =>
  simp only [List.getElem?_cons_zero, L3j] at hu
  subst hu
  have h2 := h.2 i x hx
  simpa [rStr] using h2
 | succ j => simp at hu
structure TabI (w : World) (q q2 q3 B0 : Nat) (r : Rs) (nm : Txt) (pol : Int) (comp : Bool) (ui : Value) (ins : List Txt) (ur : Value) (rules : List Rl) (wr : World) : Prop where
 rd : RdAt wr q r
 c0 : wr.cell? (zn q3 0) = some (sq nm)
 c1 : wr.cell? (zn q3 1) = some (.int .i64 pol)
 c2 : wr.cell? (zn q3 2) = some (.bool comp)
 c3 : wr.cell? (zn q3 3) = some ui
 c4 : wr.cell? (zn q3 4) = some ur
 z : ∀ i, wr.frozen? (zn q3 i) = false
 f0 : wr.cell? (zn q2 0) = some (.string ⟨#[]⟩)
 f1 : wr.cell? (zn q2 1) = some (.int .i64 0)
 f2 : wr.cell? (zn q2 2) = some (.bool false)
 f3 : wr.cell? (zn q2 3) = some (nl)
 f4 : wr.cell? (zn q2 4) = some (nl)
 y : ∀ i, wr.frozen? (zn q2 i) = false
 oi : Own rStr 9 wr B0 (fun _ => False) ui ins
 orl : Own rRl 69 wr B0 (fun _ => False) ur rules
 only : Only q w wr
 hB : B0 <= wr.heap.size
 hq : q < w.heap.size /\ w.heap.size <= q2 /\ q2 < q3 /\ q3 < B0
section
variable {w : World} {q q2 q3 B0 : Nat} {r r' : Rs} {nm : Txt} {pol : Int} {comp : Bool} {ui : Value} {ins : List Txt} {ur : Value} {rules : List Rl} {wr wr' : World}
theorem TabI.step (h : TabI w q q2 q3 B0 r nm pol comp ui ins ur rules wr) (ho : Only q wr wr') (hr : RdAt wr' q r') : TabI w q q2 q3 B0 r' nm pol comp ui ins ur rules wr' := by
 obtain ⟨h1, h2, h3, h4⟩ := h.hq
 have hB := h.hB
 have n2 : q2 ≠ q := by omega
 have n3 : q3 ≠ q := by omega
 have l3 : q3 < wr.heap.size := by omega
 have l2 : q2 < wr.heap.size := by omega
 exact ⟨hr, (ho.cell l3 n3 0).trans h.c0, (ho.cell l3 n3 1).trans h.c1, (ho.cell l3 n3 2).trans h.c2, (ho.cell l3 n3 3).trans h.c3, (ho.cell l3 n3 4).trans h.c4, fun i => (ho.frozen l3 n3 i).trans (h.z i),
  (ho.cell l2 n2 0).trans h.f0, (ho.cell l2 n2 1).trans h.f1, (ho.cell l2 n2 2).trans h.f2, (ho.cell l2 n2 3).trans h.f3, (ho.cell l2 n2 4).trans h.f4, fun i => (ho.frozen l2 n2 i).trans (h.y i),
  h.oi.only ho (by omega), h.orl.only ho (by omega), h.only.trans ho, L0h hB ho.size, h.hq⟩
theorem TabI.drew (h : TabI w q q2 q3 B0 r nm pol comp ui ins ur rules wr) : TabI w q q2 q3 B0 r nm pol comp ui ins ur rules wr.drew := h.step (Only.drew (Only.refl q wr)) h.rd
theorem Own.setLowR {α : Type} {R : Rd α} {e : TypeId} {w : World} {base : Nat} {v : Value} {xs : List α} (h : Own R e w base (fun _ => False) v xs) {b : Nat} (ha : b < base) (i : Nat) (u : Value) : Own R e (w.setCell (zn b i) u) base (fun _ => False) v xs := Own.setLow h (a := (zn b i)) ha u
theorem TabI.setPol (h : TabI w q q2 q3 B0 r nm pol comp ui ins ur rules wr) (p : Int) : TabI w q q2 q3 B0 r nm p comp ui ins ur rules (wr.setCell (zn q3 1) (.int .i64 p)) := by
 obtain ⟨h1, h2, h3, h4⟩ := h.hq
 have n2 : ¬ (q3 = q2) := by omega
 have k := Y1c wr q3 1 (.int .i64 p)
 have k2 : ∀ j, (wr.setCell (zn q3 1) (.int .i64 p)).cell? (zn q2 j) = wr.cell? (zn q2 j) := fun j => L0a _ _ _ _ (by simp <;> omega)
 exact ⟨h.rd.other (by omega) _ _, (k 0 (by decide)).trans h.c0, L0e _ _ _ h.c1, (k 2 (by decide)).trans h.c2, (k 3 (by decide)).trans h.c3, (k 4 (by decide)).trans h.c4, fun i => by rw [L0k]; exact h.z i, (k2 0).trans h.f0, (k2 1).trans h.f1, (k2 2).trans h.f2, (k2 3).trans h.f3, (k2 4).trans h.f4, fun i => by rw [L0k]; exact h.y i, h.oi.setLowR h4 _ _, h.orl.setLowR h4 _ _, h.only.new (by omega) _ _, by simpa using h.hB, h.hq⟩
theorem TabI.setComp (h : TabI w q q2 q3 B0 r nm pol comp ui ins ur rules wr) (p : Bool) : TabI w q q2 q3 B0 r nm pol p ui ins ur rules (wr.setCell (zn q3 2) (.bool p)) := by
 obtain ⟨h1, h2, h3, h4⟩ := h.hq
 have n2 : ¬ (q3 = q2) := by omega
 have k := Y1c wr q3 2 (.bool p)
 have k2 : ∀ j, (wr.setCell (zn q3 2) (.bool p)).cell? (zn q2 j) = wr.cell? (zn q2 j) := fun j => L0a _ _ _ _ (by simp <;> omega)
 exact ⟨h.rd.other (by omega) _ _, (k 0 (by decide)).trans h.c0, (k 1 (by decide)).trans h.c1, L0e _ _ _ h.c2, (k 3 (by decide)).trans h.c3, (k 4 (by decide)).trans h.c4, fun i => by rw [L0k]; exact h.z i, (k2 0).trans h.f0, (k2 1).trans h.f1, (k2 2).trans h.f2, (k2 3).trans h.f3, (k2 4).trans h.f4, fun i => by rw [L0k]; exact h.y i, h.oi.setLowR h4 _ _, h.orl.setLowR h4 _ _, h.only.new (by omega) _ _, by simpa using h.hB, h.hq⟩
theorem TabI.low (h : TabI w q q2 q3 B0 r nm pol comp ui ins ur rules wr) (hb : Below B0 wr wr') : RdAt wr' q r /\ (∀ i, wr'.cell? (zn q3 i) = wr.cell? (zn q3 i)) /\ (∀ i, wr'.frozen? (zn q3 i) = false) /\ (∀ i, wr'.cell? (zn q2 i) = wr.cell? (zn q2 i)) /\ (∀ i, wr'.frozen? (zn q2 i) = false) /\ Only q w wr' /\ B0 <= wr'.heap.size := by
 obtain ⟨h1, h2, h3, h4⟩ := h.hq
 obtain ⟨A, c, a0, a1, b0, b1, hr⟩ := h.rd
 have hq : q < B0 := by omega
 have hq2 : q2 < B0 := by omega
 exact ⟨⟨A, c, (hb.ce 0 hq).trans a0, (hb.ce 1 hq).trans a1, (hb.fr 0 hq).trans b0, (hb.fr 1 hq).trans b1, (rSl rStr).keep hr (.of_belowB hb fun b hb' => by omega)⟩,
  fun i => hb.ce i h4, fun i => (hb.fr i h4).trans (h.z i), fun i => hb.ce i hq2, fun i => (hb.fr i hq2).trans (h.y i), h.only.trans_below hb (by omega), L0h h.hB hb.size⟩
theorem TabI.growI {v : Value} {ins' : List Txt} (h : TabI w q q2 q3 B0 r nm pol comp ui ins ur rules wr) (hb : Below B0 wr wr') (ho : Own rStr 9 wr' B0 (fun _ => False) v ins') (hk : Own rRl 69 wr' B0 (fun _ => False) ur rules) :
  TabI w q q2 q3 B0 r nm pol comp v ins' ur rules (wr'.setCell (zn q3 3) v) /\ wr'.cell? (zn q3 3) = some ui /\ wr'.frozen? (zn q3 3) = false := by
 obtain ⟨h1, h2, h3, h4⟩ := h.hq
 have n2 : ¬ (q3 = q2) := by omega
 obtain ⟨hrd, hc, hz, hf, hy, hon, hB⟩ := h.low hb
 have k : ∀ j, j ≠ 3 -> (wr'.setCell (zn q3 3) v).cell? (zn q3 j) = wr.cell? (zn q3 j) := fun j hj => (L0a _ _ _ _ (by simp <;> omega)).trans (hc j)
 have k2 : ∀ j, (wr'.setCell (zn q3 3) v).cell? (zn q2 j) = wr.cell? (zn q2 j) := fun j => (L0a _ _ _ _ (by simp <;> omega)).trans (hf j)
 exact ⟨⟨hrd.other (by omega) _ _, (k 0 (by decide)).trans h.c0, (k 1 (by decide)).trans h.c1, (k 2 (by decide)).trans h.c2, L0e _ _ _ ((hc 3).trans h.c3), (k 4 (by decide)).trans h.c4, fun i => by rw [L0k]; exact hz i, (k2 0).trans h.f0, (k2 1).trans h.f1, (k2 2).trans h.f2, (k2 3).trans h.f3, (k2 4).trans h.f4, fun i => by rw [L0k]; exact hy i, ho.setLowR h4 _ _, hk.setLowR h4 _ _, hon.new (by omega) _ _, by simpa using hB, h.hq⟩, (hc 3).trans h.c3, hz 3⟩
theorem TabI.growR {v : Value} {rules' : List Rl} (h : TabI w q q2 q3 B0 r nm pol comp ui ins ur rules wr) (hb : Below B0 wr wr') (hk : Own rStr 9 wr' B0 (fun _ => False) ui ins) (ho : Own rRl 69 wr' B0 (fun _ => False) v rules') :
  TabI w q q2 q3 B0 r nm pol comp ui ins v rules' (wr'.setCell (zn q3 4) v) /\ wr'.cell? (zn q3 4) = some ur /\ wr'.frozen? (zn q3 4) = false := by
 obtain ⟨h1, h2, h3, h4⟩ := h.hq
 have n2 : ¬ (q3 = q2) := by omega
 obtain ⟨hrd, hc, hz, hf, hy, hon, hB⟩ := h.low hb
 have k : ∀ j, j ≠ 4 -> (wr'.setCell (zn q3 4) v).cell? (zn q3 j) = wr.cell? (zn q3 j) := fun j hj => (L0a _ _ _ _ (by simp <;> omega)).trans (hc j)
 have k2 : ∀ j, (wr'.setCell (zn q3 4) v).cell? (zn q2 j) = wr.cell? (zn q2 j) := fun j => (L0a _ _ _ _ (by simp <;> omega)).trans (hf j)
 exact ⟨⟨hrd.other (by omega) _ _, (k 0 (by decide)).trans h.c0, (k 1 (by decide)).trans h.c1, (k 2 (by decide)).trans h.c2, (k 3 (by decide)).trans h.c3, L0e _ _ _ ((hc 4).trans h.c4), fun i => by rw [L0k]; exact hz i, (k2 0).trans h.f0, (k2 1).trans h.f1, (k2 2).trans h.f2, (k2 3).trans h.f3, (k2 4).trans h.f4, fun i => by rw [L0k]; exact hy i, hk.setLowR h4 _ _, ho.setLowR h4 _ _, hon.new (by omega) _ _, by simpa using hB, h.hq⟩, (hc 4).trans h.c4, hz 4⟩
end
theorem TabI.start {w W0 w1 : World} {q : Nat} {r : Rs} {nm : Txt} {ty : TypeId} (f : ∀ i, W0.cell? (zn w.heap.size i) = (#[.string ⟨#[]⟩, .int .i64 0, .bool false, nl, nl] : Array Value)[i]?) (y : ∀ i, W0.frozen? (zn w.heap.size i) = false) (hs : w.heap.size < W0.heap.size) (hq : q < w.heap.size) (ho : Only q w W0) (hr : RdAt w1 q r) (h1 : Only q W0 w1) :
  ∃ W3, w1.alloc (.cells #[sq nm, .int .i64 0, .bool false, nl, nl] ty) = W3 /\ (∀ i, W3.frozen? (zn w1.heap.size i) = false) /\ W3.cell? (zn w1.heap.size 1) = some (.int .i64 0) /\ W3.cell? (zn w1.heap.size 2) = some (.bool false) /\ W3.cell? (zn w1.heap.size 3) = some (nl) /\ W3.cell? (zn w1.heap.size 4) = some (nl) /\
   ∃ W4, (((W3.setCell (zn w1.heap.size 1) (.int .i64 0)).setCell (zn w1.heap.size 2) (.bool false)).setCell (zn w1.heap.size 3) (nl)).setCell (zn w1.heap.size 4) (nl) = W4 /\ Hid (TabI w q w.heap.size w1.heap.size W3.heap.size r nm 0 false (nl) [] (nl) [] W4) /\ Hid (w1.heap.size < W3.heap.size) := by
 have hne : w.heap.size ≠ q := by omega
 have hs1 := h1.size
 have hlt : w.heap.size < w1.heap.size := by omega
 have n2 : ¬ (w1.heap.size = w.heap.size) := by omega
 obtain ⟨W3, e3⟩ : ∃ W3, w1.alloc (.cells #[sq nm, .int .i64 0, .bool false, nl, nl] ty) = W3 := ⟨_, rfl⟩
 have k : ∀ i, W3.cell? (zn w1.heap.size i) = (#[sq nm, .int .i64 0, .bool false, nl, nl] : Array Value)[i]? := fun i => by rw [<- e3]; simp
 have zf : ∀ i, W3.frozen? (zn w1.heap.size i) = false := fun i => by rw [<- e3]; simp
 have b3 : Bw w1 W3 := by rw [<- e3]; exact (L0m _ _).alloc (L0g _) _
 have hl3 : w1.heap.size < W3.heap.size := by rw [<- e3]; simp
 have ho3 : Only q w W3 := by rw [<- e3]; exact (ho.trans h1).trans (Only.alloc _ _)
 have hr3 : RdAt W3 q r := by rw [<- e3]; exact hr.alloc _
 have ol : Own rRl 69 W3 W3.heap.size (fun _ => False) (nl) [] := Own.nil _ _ _ _ _
 have os : Own rStr 9 W3 W3.heap.size (fun _ => False) (nl) [] := Own.nil _ _ _ _ _
 have f3 : ∀ i, W3.cell? (zn w.heap.size i) = (#[.string ⟨#[]⟩, .int .i64 0, .bool false, nl, nl] : Array Value)[i]? := fun i => (b3.ce i hlt).trans ((h1.cell hs hne i).trans (f i))
 have y3 : ∀ i, W3.frozen? (zn w.heap.size i) = false := fun i => (b3.fr i hlt).trans ((h1.frozen hs hne i).trans (y i))
 have h3 : TabI w q w.heap.size w1.heap.size W3.heap.size r nm 0 false (nl) [] (nl) [] W3 :=
  ⟨hr3, k 0, k 1, k 2, k 3, k 4, zf, f3 0, f3 1, f3 2, f3 3, f3 4, y3, os, ol, ho3, L0g _, ⟨hq, L0g _, hlt, hl3⟩⟩
 have h4 := (h3.setPol 0).setComp false
 have o4 : ∀ (i : Nat) (v : Value), Own rRl 69 (((W3.setCell (zn w1.heap.size 1) (.int .i64 0)).setCell (zn w1.heap.size 2) (.bool false))) W3.heap.size (fun _ => False) (nl) [] := fun _ _ => Own.nil _ _ _ _ _
 have h5 := (h4.growI (L0m _ _) (v := nl) (ins' := []) (Own.nil _ _ _ _ _) (Own.nil _ _ _ _ _)).1
 have h6 := (h5.growR (L0m _ _) (v := nl) (rules' := []) (Own.nil _ _ _ _ _) (Own.nil _ _ _ _ _)).1
 exact ⟨W3, e3, zf, k 1, k 2, k 3, k 4, _, rfl, L0 h6, L0 hl3⟩
structure CelL (w : World) (q q5 : Nat) (r : Rs) (u : Value) (acc : List Cl) (wr : World) : Prop where
 rd : RdAt wr q r
 c0 : wr.cell? (zn q5 0) = some u
 c1 : wr.cell? (zn q5 1) = some (.int .i64 0)
 z : ∀ i, wr.frozen? (zn q5 i) = false
 own : Own rCl 72 wr (q5 + 1) (fun _ => False) u acc
 only : Only q w wr
 hq : q < w.heap.size /\ w.heap.size <= q5 /\ q5 < wr.heap.size
section
variable {w : World} {q q5 : Nat} {r r' : Rs} {u : Value} {acc : List Cl} {wr wr' : World}
theorem CelL.step (h : CelL w q q5 r u acc wr) (ho : Only q wr wr') (hr : RdAt wr' q r') : CelL w q q5 r' u acc wr' := by
 obtain ⟨h1, h2, h3⟩ := h.hq
 have n : q5 ≠ q := by omega
 exact ⟨hr, (ho.cell h3 n 0).trans h.c0, (ho.cell h3 n 1).trans h.c1, fun i => (ho.frozen h3 n i).trans (h.z i), h.own.only ho (by omega), h.only.trans ho, h1, h2, L0c h3 ho.size⟩
theorem CelL.grow {v : Value} {acc' : List Cl} (h : CelL w q q5 r u acc wr) (hb : Below (q5 + 1) wr wr') (ho : Own rCl 72 wr' (q5 + 1) (fun _ => False) v acc') :
  CelL w q q5 r v acc' (wr'.setCell (zn q5 0) v) /\ wr'.cell? (zn q5 0) = some u /\ wr'.frozen? (zn q5 0) = false := by
 obtain ⟨h1, h2, h3⟩ := h.hq
 have k := (hb.ce 0 (L2s _)).trans h.c0
 have k1 := (hb.ce 1 (L2s _)).trans h.c1
 have z : ∀ i, wr'.frozen? (zn q5 i) = false := fun i => (hb.fr i (L2s _)).trans (h.z i)
 obtain ⟨A, c, a0, a1, b0, b1, hr⟩ := h.rd
 have hq : q < q5 + 1 := by omega
 have hrd : RdAt wr' q r := ⟨A, c, (hb.ce 0 hq).trans a0, (hb.ce 1 hq).trans a1, (hb.fr 0 hq).trans b0, (hb.fr 1 hq).trans b1, (rSl rStr).keep hr (.of_belowB hb fun b hb' => by omega)⟩
 exact ⟨⟨hrd.other (by omega) _ _, L0e _ _ _ k, (cso).trans k1, fun i => by rw [L0k]; exact z i, ho.setLowR (L2s _) _ _, (h.only.trans_below hb (by omega)).new h2 _ _, h1, h2, by have := hb.size; simp; omega⟩, k, z 0⟩
theorem CelL.start (hr : RdAt w q r) (hq : q < w.heap.size) {ty : TypeId} : ∃ W, w.alloc (.cells #[nl, .int .i64 0] ty) = W /\ Hid (CelL w q w.heap.size r (nl) [] W) :=
 ⟨_, rfl, L0 ⟨hr.alloc _, L0b _ _ _ _, L0b _ _ _ _, fun i => by simp, Own.nil _ _ _ _ _, Only.alloc _ _, hq, L0g _, by simp⟩⟩
theorem CelL.out (h : CelL w q q5 r u acc wr) (n : Int) : ∃ W, wr.setCell (zn q5 1) (.int .i64 n) = W /\ Hid (RdAt W q r /\ Only q w W /\ q < w.heap.size /\ w.heap.size <= q5 /\ q5 < W.heap.size) /\ Hid (W.cell? (zn q5 0) = some u /\ W.cell? (zn q5 1) = some (.int .i64 n)) /\ Hid (Own rCl 72 W (q5 + 1) (fun _ => False) u acc) := by
 obtain ⟨h1, h2, h3⟩ := h.hq
 exact ⟨_, rfl, L0 ⟨h.rd.other (by omega) _ _, h.only.new h2 _ _, h1, h2, by simpa using h3⟩, L0 ⟨(cso).trans h.c0, L0e _ _ _ h.c1⟩, L0 (h.own.setLowR (L2s _) _ _)⟩
end
theorem Y8p {wr w8 : World} {q5 : Nat} {v : Value} (h1 : q5 < wr.heap.size) (h2 : ∀ g, v.ownBlock = some g -> g < wr.heap.size) (h3 : wr.drew.heap.size <= w8.heap.size) : ∀ g, Up (Up (fun _ => False) wr.drew.heap.size) w8.heap.size g -> Up (fun _ => False) (q5 + 1) g /\ v.ownBlock ≠ some g := by
 intro g hg
 have h4 : wr.drew.heap.size = wr.heap.size := rfl
 have h5 : wr.heap.size <= g := by
  rcases hg with (h | h) | h
  ·exact h.elim
  ·omega
  omega
 exact ⟨.inr (by omega), fun e => by have := h2 g e; omega⟩
theorem X3k {rf : Rs} {l1 : List Txt} (h : rf.bad = false -> rf.l.length < l1.length) : (if rf.bad then 0 else rf.l.length + 1) < (if (⟨l1, false⟩ : Rs).bad then 0 else (⟨l1, false⟩ : Rs).l.length + 1) := by
 show _ < l1.length + 1
 cases hb : rf.bad
 ·have := h hb
  simp
  omega
 simp
def NeB (a b : Value) : Prop := a.ownBlock = none \/ a.ownBlock ≠ b.ownBlock
theorem NeB.next {a b c : Value} {N : Nat} (h : NeB a b) (ha : ∀ g, a.ownBlock = some g -> g < N) (e : c.ownBlock = b.ownBlock \/ c.ownBlock = some (N + 1)) : NeB a c := by
 unfold NeB at *
 cases hb : a.ownBlock with
 | none => exact .inl rfl
 | some g =>
  refine .inr fun hc => ?_
  rcases e with e | e
  ·rcases h with h | h
   ·rw [hb] at h; cases h
   exact h (by rw [hb, hc, e])
  rw [e] at hc
  have h1 := L0s hc
  have := ha g hb
  omega
theorem NeB.none (a : Value) : NeB a (nl) := by
 unfold NeB
 cases hb : a.ownBlock with
 | none => exact .inl rfl
 | some g => exact .inr fun h => by cases h
theorem Y9n {w w13 W16 w17 : World} {q q2 q3 q5 B0 : Nat} {r re rf : Rs} {nm : Txt} {pol : Int} {comp : Bool} {ui : Value} {ins : List Txt} {ur : Value} {rules : List Rl} {cells : List Cl} {n : Int} {A5 : Option Addr} {l5 : Nat}
  (h : TabI w q q2 q3 B0 r nm pol comp ui ins ur rules w13) (h1 : RdAt W16 q re /\ Only q w13 W16 /\ q < w13.heap.size /\ w13.heap.size <= q5 /\ q5 < W16.heap.size) (k : W16.cell? (zn q5 0) = some (.slice A5 cells.length l5) /\ W16.cell? (zn q5 1) = some (.int .i64 n))
  (ho : Own rCl 72 W16 (q5 + 1) (fun _ => False) (.slice A5 cells.length l5) cells) (o17 : Only q W16 w17) (hr : RdAt w17 q rf) (hn : InI n) :
  TabI w q q2 q3 B0 rf nm pol comp ui ins ur rules w17 /\ w17.cell? (zn q5 0) = some (.slice A5 cells.length l5) /\ w17.cell? (zn q5 1) = some (.int .i64 n) /\ rRl.rel w17 (Up (fun _ => False) (q5 + 1)) [.slice A5 cells.length l5, .int .i64 n] ⟨cells, n⟩ := by
 obtain ⟨_, a2, a3, a4, a5⟩ := h1
 have ne : q5 ≠ q := by omega
 exact ⟨h.step (a2.trans o17) hr, (o17.cell a5 ne 0).trans k.1, (o17.cell a5 ne 1).trans k.2, ⟨_, rfl, hn, (ho.only o17 (by omega)).rel (by decide)⟩⟩
def rdM (w : World) (q : Nat) : Nat := match w.cell? (zn q 1) with | some (.bool true) => 0 | _ => Y7j w q + 1
theorem RdAt.m {w : World} {q : Nat} {r : Rs} (h : RdAt w q r) : rdM w q = if r.bad then 0 else r.l.length + 1 := by
 unfold rdM
 rw [h.bad.1, h.len]
 cases r.bad <;> rfl
theorem TabI.done {w : World} {q q2 q3 B0 : Nat} {r : Rs} {nm : Txt} {pol : Int} {comp : Bool} {ui : Value} {ins : List Txt} {ur : Value} {rules : List Rl} {wr : World} (h : TabI w q q2 q3 B0 r nm pol comp ui ins ur rules wr) :
  ∃ W, ((((wr.setCell (zn q2 0) (sq nm)).setCell (zn q2 1) (.int .i64 pol)).setCell (zn q2 2) (.bool comp)).setCell (zn q2 3) ui).setCell (zn q2 4) ur = W /\ W.cell? (zn q2 0) = some (sq nm) /\ W.cell? (zn q2 1) = some (.int .i64 pol) /\ W.cell? (zn q2 2) = some (.bool comp) /\ W.cell? (zn q2 3) = some ui /\ W.cell? (zn q2 4) = some ur /\
   Hid (Own rStr 9 W w.heap.size (fun _ => False) ui ins /\ Own rRl 69 W w.heap.size (fun _ => False) ur rules /\ RdAt W q r /\ Only q w W) := by
 obtain ⟨h1, h2, h3, h4⟩ := h.hq
 obtain ⟨W, e, _, _, n0, n1, n2, n3, n4⟩ := Y97 (sq nm) (.int .i64 pol) (.bool comp) ui ur h.f0 h.f1 h.f2 h.f3 h.f4
 have hq2 : q2 < B0 := by omega
 refine ⟨W, e, n0, n1, n2, n3, n4, L0 ?_⟩
 rw [<- e]
 refine ⟨Own.lower (((((h.oi.setLowR hq2 _ _).setLowR hq2 _ _).setLowR hq2 _ _).setLowR hq2 _ _).setLowR hq2 _ _) (by omega), Own.lower (((((h.orl.setLowR hq2 _ _).setLowR hq2 _ _).setLowR hq2 _ _).setLowR hq2 _ _).setLowR hq2 _ _) (by omega), ?_, ?_⟩
 ·exact ((((h.rd.other (by omega) _ _).other (by omega) _ _).other (by omega) _ _).other (by omega) _ _).other (by omega) _ _
 exact ((((h.only.new h2 _ _).new h2 _ _).new h2 _ _).new h2 _ _).new h2 _ _
theorem Y7o {q : Nat} {r : Rs} (w : World) (h : RdAt w q r) (_hl : r.l.length <= 4000) (hq : ∀ w', Only q w w' -> LibW w') (hp : ∀ w', Only q w w' -> PolW w') :
  Calls Tryz.prog 78 #[.pointer (some (zn q 0))] w fun e w' => ∃ v u, e = .returned (.agg #[.string ⟨(Z27 r).1.name.toArray⟩, .int .i64 (Z27 r).1.pol, .bool (Z27 r).1.comp, v, u]) /\ Own rStr 9 w' w.heap.size (fun _ => False) v (Z27 r).1.ins /\ Own rRl 69 w' w.heap.size (fun _ => False) u (Z27 r).1.rules /\ RdAt w' q (Z27 r).2 /\ Only q w w' := by
 have hql := h.lt
 obtain ⟨W0, e0, HR0, HF0, HY0, HO0, HS0⟩ : ∃ W0, w.alloc (.cells #[.string ⟨#[]⟩, .int .i64 0, .bool false, nl, nl] 66) = W0 /\ Hid (RdAt W0 q r) /\ Hid (∀ i, W0.cell? (zn w.heap.size i) = (#[.string ⟨#[]⟩, .int .i64 0, .bool false, nl, nl] : Array Value)[i]?) /\ Hid (∀ i, W0.frozen? (zn w.heap.size i) = false) /\ Hid (Only q w W0) /\ Hid (w.heap.size < W0.heap.size) :=
  ⟨_, rfl, L0 (h.alloc _), L0 (fun i => by simp), L0 (fun i => by simp), L0 (Only.alloc _ _), L0 (by simp)⟩
 have HQL := L0 hql
 have HL := L0 hq
 have HPO := L0 hp
 obtain ⟨⟨nm, r1⟩, h1⟩ : ∃ x, Z2u r = x := ⟨_, rfl⟩
 obtain ⟨⟨pw, r2⟩, h2⟩ : ∃ x, Z3j r1 = x := ⟨_, rfl⟩
 obtain ⟨⟨cm, r3⟩, h3⟩ : ∃ x, atR r2 [99, 111, 109, 112, 108, 101, 116, 101] = x := ⟨_, rfl⟩
 obtain ⟨r4, h4⟩ : ∃ x, Z28 r3 [40] = x := ⟨_, rfl⟩
 obtain ⟨⟨ins, r5⟩, h5⟩ : ∃ x, Z0q Z2u [44] r4 [] = x := ⟨_, rfl⟩
 obtain ⟨r6, h6⟩ : ∃ x, Z28 r5 [41] = x := ⟨_, rfl⟩
 obtain ⟨r7, h7⟩ : ∃ x, Z28 r6 [123] = x := ⟨_, rfl⟩
 obtain ⟨⟨rules, r8⟩, h8⟩ : ∃ x, Z2s r7 [] = x := ⟨_, rfl⟩
 have HT : Hid (Z27 r = (⟨nm, Z7w pols pw, cm, ins, rules⟩, r8)) := L0 (by unfold Z27; simp only [h1, h2, h3, h4, h5, h6, h7, h8])
 rw [HT.o]
 obtain ⟨pol, hpol⟩ : ∃ x, Z7w pols pw = x := ⟨_, rfl⟩
 rw [hpol]
 have HN1 : Hid (Calls Tryz.prog 74 #[.pointer (some (zn q 0))] W0 fun e w' => e = .returned (sq nm) /\ RdAt w' q r1 /\ Only q W0 w') := L0 (by have := Z94 W0 HR0.o; rw [h1] at this; exact this)
 have HNX : Hid (∀ w, RdAt w q r1 -> Calls Tryz.prog 104 #[.pointer (some (zn q 0))] w fun e w' => e = .returned (sq pw) /\ RdAt w' q r2 /\ Only q w w') := L0 fun w hr => by have := Y2b w hr; rw [h2] at this; exact this
 have HIX : Hid (∀ w, PolW w -> Calls Tryz.prog 95 #[.slice (some (zn 0 0)) 8 8, sq pw] w fun e w' => e = .returned (.int .i64 pol) /\ w = w') := L0 fun w hw => hpol ▸ Y2s pw w hw.rel
 have HAT3 : Hid (∀ w, RdAt w q r2 -> Calls Tryz.prog 73 #[.pointer (some (zn q 0)), .string ⟨#[99, 111, 109, 112, 108, 101, 116, 101]⟩] w fun e w' => e = .returned (.bool cm) /\ RdAt w' q r3 /\ Only q w w') := L0 fun w hr => by have := Z3z [99, 111, 109, 112, 108, 101, 116, 101] w hr; rw [h3] at this; exact this
 have HTK4 : Hid (∀ w, RdAt w q r3 -> Calls Tryz.prog 76 #[.pointer (some (zn q 0)), .string ⟨#[40]⟩] w fun e w' => e = .returned (.tuple #[]) /\ RdAt w' q r4 /\ Only q w w') := L0 fun w hr => by have := Z6e [40] w hr; rw [h4] at this; exact this
 have HTK6 : Hid (∀ w, RdAt w q r5 -> Calls Tryz.prog 76 #[.pointer (some (zn q 0)), .string ⟨#[41]⟩] w fun e w' => e = .returned (.tuple #[]) /\ RdAt w' q r6 /\ Only q w w') := L0 fun w hr => by have := Z6e [41] w hr; rw [h6] at this; exact this
 have HTK7 : Hid (∀ w, RdAt w q r6 -> Calls Tryz.prog 76 #[.pointer (some (zn q 0)), .string ⟨#[123]⟩] w fun e w' => e = .returned (.tuple #[]) /\ RdAt w' q r7 /\ Only q w w') := L0 fun w hr => by have := Z6e [123] w hr; rw [h7] at this; exact this
 have HLN4 : Hid (r4.l.length <= 4000) := L0 (by
  have a1 := Z7g r
  have a2 := Z9x r1
  have a3 := Z2i r2 [99, 111, 109, 112, 108, 101, 116, 101]
  have a4 := Z7m r3 [40]
  rw [h1] at a1; rw [h2] at a2; rw [h3] at a3; rw [h4] at a4
  dsimp only at a1 a2 a3
  omega)
 have HLN7 : Hid (r7.l.length <= 4000) := L0 (by
  have a5 : (Z0q Z2u [44] r4 []).2.l.length <= r4.l.length := Z9s Z7g _ _ _
  have a6 := Z7m r5 [41]
  have a7 := Z7m r6 [123]
  rw [h5] at a5; rw [h6] at a6; rw [h7] at a7
  have := HLN4.o
  dsimp only at a5
  omega)
 have H5 := L0 h5
 have H8 := L0 h8
 clear h h1 h2 h3 h4 h5 h6 h7 h8 hpol _hl hq hp hql
 dsimp only
 go_enter Tryz.func78, Tryz.ntmps78
 go_wp2_with (go_at_call 74; (with_reducible refine HN1.o.mono ?_); rintro e w1 ⟨rfl, hr1, o1⟩; obtain ⟨W3, e3, z3, k1, k2, k3, k4, W4, e4, HTI, HS3⟩ := TabI.start (nm := nm) (ty := 66) HF0.o HY0.o HS0.o HQL.o HO0.o hr1 o1; clear hr1 o1)
 clear e0 e3 e4 z3 k1 k2 k3 k4
 try unfold Bw at *
 generalize hq3 : w1.heap.size = q3 at *
 try unfold Bw at *
 generalize hB0 : W3.heap.size = B0 at *
 clear hq3 hB0
 obtain ⟨q2, hq2⟩ : ∃ n, w.heap.size = n := ⟨_, rfl⟩
 rw [hq2] at HTI HQL
 rw [hq2]
 clear hq2
 have HTD := L0 HTI.o.drew
 go_region_held3 (fun _ => True) (trivial) (first
  | (go_at_call 104; (with_reducible refine (HNX.o W4.drew HTD.o.rd).mono ?_); rintro e w5 ⟨rfl, hr5, o5⟩; have HT5 := L0 (HTD.o.step o5 hr5); have HP5 := L0 (HPO.o _ HT5.o.only); clear hr5 o5)
  | (go_at_call 95; (with_reducible refine (HIX.o w5 HP5.o).mono ?_); rintro e w6 ⟨rfl, rfl⟩; have p1 := HT5.o.c1; have pz := HT5.o.z 1; obtain ⟨W6, e6, HT6⟩ : ∃ W6, w5.setCell (zn q3 1) (.int .i64 pol) = W6 /\ Hid (TabI w q q2 q3 B0 r2 nm pol false (nl) [] (nl) [] W6) := ⟨_, rfl, L0 (HT5.o.setPol pol)⟩))
 go_upto_block 0 with (first
  | (go_at_call 73; (with_reducible refine (HAT3.o W6 HT6.o.rd).mono ?_); rintro e w7 ⟨rfl, hr7, o7⟩; have HT7 := L0 (HT6.o.step o7 hr7); have p2 := HT7.o.c2; have pz2 := HT7.o.z 2; obtain ⟨W8, e8, HT8⟩ : ∃ W8, w7.setCell (zn q3 2) (.bool cm) = W8 /\ Hid (TabI w q q2 q3 B0 r3 nm pol cm (nl) [] (nl) [] W8) := ⟨_, rfl, L0 (HT7.o.setComp cm)⟩; clear hr7 o7)
  | (go_at_call 76; (with_reducible refine (HTK4.o W8 HT8.o.rd).mono ?_); rintro e w9 ⟨rfl, hr9, o9⟩; have HT9 := L0 (HT8.o.step o9 hr9); clear hr9 o9))
 clear p1 pz e6 p2 pz2 e8
 go_cut [] (fun wx => ∃ u, Hid (TabI w q q2 q3 B0 r5 nm pol cm u ins (nl) [] wx))
 case first =>
  go_wp2_with fail
  go_loopw [] (fun wr => ∃ (rr : Rs) (acc : List Txt) (u : Value), wr.cell? (zn q 1) = some (.bool rr.bad) /\ wr.cell? (zn q3 3) = some u /\ Hid (TabI w q q2 q3 B0 rr nm pol cm u acc (nl) [] wr) /\ Hid (Z0q Z2u [44] rr acc = (ins, r5)) /\ Hid (acc.length + rr.l.length <= 4000)) (fun wr => Y7j wr q)
  exact ⟨r4, [], _, HT9.o.rd.bad.1, HT9.o.c3, HT9, H5, L0 (by simpa using HLN4.o)⟩
  clear HT9 H5 HLN4
  obtain ⟨⟨l1, b1⟩, acc, u, k0, k3, HTI, HIE, HLA⟩ := hrel
  cases b1
  ·obtain ⟨Au, lu, rfl⟩ := HTI.o.oi.value
   obtain ⟨⟨x, rx⟩, hx⟩ : ∃ x, Z2u ⟨l1, false⟩ = x := ⟨_, rfl⟩
   have hxl : x.length <= 140737488355328 := by have h := HTI.o.rd.wlen; have e : (Z2u ⟨l1, false⟩).1 = x := (by rw [hx]); rw [<- e]; exact h
   have HXL := L0 hxl
   have hlen1 := Z7g ⟨l1, false⟩
   rw [hx] at hlen1
   have HTD := L0 HTI.o.drew
   have HNM : Hid (Calls Tryz.prog 74 #[.pointer (some (zn q 0))] wr.drew fun e w' => e = .returned (sq x) /\ RdAt w' q rx /\ Only q wr.drew w') := L0 (by have := Z94 wr.drew HTD.o.rd; rw [hx] at this; exact this)
   obtain ⟨⟨b, ry⟩, hy⟩ : ∃ x, atR rx [44] = x := ⟨_, rfl⟩
   have HAT44 : Hid (∀ w, RdAt w q rx -> Calls Tryz.prog 73 #[.pointer (some (zn q 0)), .string ⟨#[44]⟩] w fun e w' => e = .returned (.bool b) /\ RdAt w' q ry /\ Only q w w') := L0 fun w hr => by have := Z3z [44] w hr; rw [hy] at this; exact this
   have HBY : Hid ((acc.length + 1) * rStr.bytes <= 140737488355328) := L0 (by have := HLA.o; dsimp only at this; simp only [rStr]; omega)
   have HNX2 : Hid (b = true -> ry.l.length < l1.length) := L0 fun hb => by have h := Z5l (r := rx) (s := [44]) (by rw [hy, hb]); rw [hy] at h; dsimp only at h hlen1; omega
   have HIO : Hid (b = true -> Z0q Z2u [44] ry (acc ++ [x]) = (ins, r5)) := L0 fun hb => (Z6p Z7g acc rfl hx (by rw [hy, hb])).symm.trans HIE.o
   have HIF : Hid (b = false -> (acc ++ [x], ry) = (ins, r5)) := L0 fun hb => (Z5u acc rfl hx (by rw [hy, hb])).symm.trans HIE.o
   clear hx hy hxl hlen1
   go_wp2
   go_region_law (first
    | (refine Z5d (R := rStr) X3b rfl (.tmp 24) (.tmp 27) rfl rfl (by exact HT8.o.oi.alloc _) rfl (ys := [x]) (S2 := Up (fun _ => False) w8.heap.size) (fun _ => False) rfl (by exact Z9k (by decide) [sq x] ⟨rfl, HXL.o⟩ (by decide)) (fun _ _ h => h) (fun _ h => h.elim) (by exact HBY.o) (by (have := HT8.o.hB; simp; omega)) ?_; intro v9 w9 hown9 hb9 _ _; obtain ⟨A9, l9, rfl⟩ : ∃ A9 l9, v9 = .slice A9 (acc.length + 1) l9 := (by (obtain ⟨A9, l9, h⟩ := hown9.value; exact ⟨A9, l9, by rw [h, L0i, L0p]⟩)); obtain ⟨hT9, k9, z9⟩ := TabI.growI (HT8.o.step (Only.alloc _ _) (HT8.o.rd.alloc _)) hb9 hown9 (Own.nil _ _ _ _ _); obtain ⟨W9, e9, HT9⟩ : ∃ W9, w9.setCell (zn q3 3) (.slice A9 (acc.length + 1) l9) = W9 /\ Hid (TabI w q q2 q3 B0 rx nm pol cm (.slice A9 (acc.length + 1) l9) (acc ++ [x]) (nl) [] W9) := ⟨_, rfl, L0 hT9⟩; clear hT9 hown9 hb9)
    | (go_simp; go_at_call 74; (with_reducible refine HNM.o.mono ?_); rintro e w8 ⟨rfl, hr8, o8⟩; have HT8 := L0 (HTD.o.step o8 hr8); have p3 := HT8.o.c3; have q8 : q3 < w8.heap.size := L0d _ _ p3; clear hr8 o8))
   all_goals
    cases b
    ·go_wp2_with (go_at_call 73; (with_reducible refine (HAT44.o W9 HT9.o.rd).mono ?_); rintro e w10 ⟨rfl, hr10, o10⟩; have HT10 := L0 (HT9.o.step o10 hr10); clear hr10 o10)
     go_meet
     have hz := HIF.o (by simp)
     injection hz with hz1 hz2
     exact ⟨_, L0 (by rw [<- hz1, <- hz2]; exact HT10.o)⟩
    go_wp2_with (go_at_call 73; (with_reducible refine (HAT44.o W9 HT9.o.rd).mono ?_); rintro e w10 ⟨rfl, hr10, o10⟩; have HT10 := L0 (HT9.o.step o10 hr10); clear hr10 o10)
    go_roundw
    exact ⟨ry, acc ++ [x], _, HT10.o.rd.bad.1, HT10.o.c3, HT10, L0 (HIO.o (by simp)), L0 (by have h1 := HNX2.o (by simp); have h2 : acc.length + l1.length <= 4000 := HLA.o; rw [L0i, L0p]; omega)⟩
    rw [HT10.o.rd.len, HTI.o.rd.len]; exact HNX2.o (by simp)
  have hz := (Z8g acc rfl).symm.trans HIE.o
  injection hz with hz1 hz2
  have HZ1 := L0 hz1
  have HZ2 := L0 hz2
  clear hz1 hz2
  go_wp2
  go_meet
  exact ⟨_, L0 (by rw [<- HZ1.o, <- HZ2.o]; exact HTI.o)⟩
 obtain ⟨ui, HTC⟩ := hcut
 obtain ⟨Ai, li, rfl⟩ := HTC.o.oi.value
 go_wp2_with (first
  | (go_at_call 76; first
   | ((with_reducible refine (HTK6.o wc HTC.o.rd).mono ?_); rintro e w11 ⟨rfl, hr11, o11⟩; have HT11 := L0 (HTC.o.step o11 hr11); clear hr11 o11)
   | ((with_reducible refine (HTK7.o w11 HT11.o.rd).mono ?_); rintro e w12 ⟨rfl, hr12, o12⟩; have HT12 := L0 (HT11.o.step o12 hr12); clear hr12 o12)))
 go_loopw [] (fun wr => ∃ (rr : Rs) (acc : List Rl) (u : Value), wr.cell? (zn q 1) = some (.bool rr.bad) /\ Hid (TabI w q q2 q3 B0 rr nm pol cm (.slice Ai ins.length li) ins u acc wr) /\ Hid (NeB (.slice Ai ins.length li) u) /\ Hid (Z2s rr acc = (rules, r8)) /\ Hid ((rr.bad = false -> acc.length + rr.l.length <= 4000) /\ acc.length <= 4001)) (fun wr => rdM wr q)
 exact ⟨r7, [], _, HT12.o.rd.bad.1, HT12, L0 (NeB.none _), H8, L0 ⟨fun _ => by simpa using HLN7.o, by simp⟩⟩
 clear HT12 H8 HLN7
 obtain ⟨⟨l1, b1⟩, acc, u, k0, HTI, HNE, HRE, HLA⟩ := hrel
 cases b1
 ·obtain ⟨⟨b, ry⟩, hb⟩ : ∃ x, atR ⟨l1, false⟩ [125] = x := ⟨_, rfl⟩
  have HATB : Hid (∀ w, RdAt w q ⟨l1, false⟩ -> Calls Tryz.prog 73 #[.pointer (some (zn q 0)), .string ⟨#[125]⟩] w fun e w' => e = .returned (.bool b) /\ RdAt w' q ry /\ Only q w w') := L0 fun w hr => by have := Z3z [125] w hr; rw [hb] at this; exact this
  have hleny := Z2i ⟨l1, false⟩ [125]
  rw [hb] at hleny
  cases b
  ·obtain ⟨Au, lu, rfl⟩ := HTI.o.orl.value
   obtain ⟨⟨cells, rc⟩, hc⟩ : ∃ x, Z0q Z3v [44] ry [] = x := ⟨_, rfl⟩
   obtain ⟨rd, hd⟩ : ∃ x, Z28 rc [61, 62] = x := ⟨_, rfl⟩
   obtain ⟨⟨n, re⟩, hn⟩ : ∃ x, Z0l rd = x := ⟨_, rfl⟩
   obtain ⟨rf, hf⟩ : ∃ x, Z28 re [59] = x := ⟨_, rfl⟩
   have hrule : Z79 ry = (⟨cells, n⟩, rf) := by unfold Z79; simp only [hc, hd, hn, hf]
   have hni := Z75 rd
   rw [hn] at hni
   have HNI : Hid (InI n) := L0 (by unfold InI; dsimp only at hni; omega)
   have HREN := L0 ((Z97 acc rfl hb hrule).symm.trans HRE.o)
   have HRF : Hid (rf.bad = false -> rf.l.length < l1.length) := L0 fun h => by
    have h2 := Y2j (r := ry) (by rw [hrule]; exact h)
    rw [hrule] at h2
    dsimp only at h2 hleny
    omega
   have HLNY : Hid (ry.l.length <= 4000) := L0 (by have h2 : acc.length + l1.length <= 4000 := HLA.o.1 rfl; dsimp only at hleny; omega)
   have HTKD : Hid (∀ w, RdAt w q rc -> Calls Tryz.prog 76 #[.pointer (some (zn q 0)), .string ⟨#[61, 62]⟩] w fun e w' => e = .returned (.tuple #[]) /\ RdAt w' q rd /\ Only q w w') := L0 fun w hr => by have := Z6e [61, 62] w hr; rw [hd] at this; exact this
   have HTKF : Hid (∀ w, RdAt w q re -> Calls Tryz.prog 76 #[.pointer (some (zn q 0)), .string ⟨#[59]⟩] w fun e w' => e = .returned (.tuple #[]) /\ RdAt w' q rf /\ Only q w w') := L0 fun w hr => by have := Z6e [59] w hr; rw [hf] at this; exact this
   have HNB : Hid (∀ w', RdAt w' q rd -> Only q w w' -> Calls Tryz.prog 75 #[.pointer (some (zn q 0))] w' fun e w'' => e = .returned (.int .i64 n) /\ RdAt w'' q re /\ Only q w' w'') := L0 fun w' hr ho => by have := Z3s w' hr (fun w'' ho' => HL.o _ (ho.trans ho')); rw [hn] at this; exact this
   have HCEL := L0 hc
   have HBYR : Hid ((acc.length + 1) * rRl.bytes <= 140737488355328) := L0 (by have := HLA.o.2; simp only [rRl]; omega)
   clear hc hd hn hf hrule hni hb hleny
   go_upto_block 4 with (first
    | (go_at_call 73; (with_reducible refine (HATB.o wr HTI.o.rd).mono ?_); rintro e w13 ⟨rfl, hr13, o13⟩; have HT13 := L0 (HTI.o.step o13 hr13); obtain ⟨W12, e12, HCL⟩ := CelL.start (ty := 69) hr13 hr13.lt; clear hr13 o13))
   clear e12
   obtain ⟨q5, hq5⟩ : ∃ n, w13.heap.size = n := ⟨_, rfl⟩
   rw [hq5] at HCL
   rw [hq5]
   clear hq5
   go_cut [] (fun wx => ∃ u5, Hid (CelL w13 q q5 rc u5 cells wx))
   case first =>
    obtain ⟨wo, hwo⟩ : ∃ x, x = wr := ⟨_, rfl⟩
    subst hwo
    go_wp2_with fail
    go_loopw [] (fun wr => ∃ (rr : Rs) (cc : List Cl) (u : Value), wr.cell? (zn q 1) = some (.bool rr.bad) /\ wr.cell? (zn q5 0) = some u /\ Hid (CelL w13 q q5 rr u cc wr) /\ Hid (Z0q Z3v [44] rr cc = (cells, rc)) /\ Hid (cc.length + rr.l.length <= 4000)) (fun wr => Y7j wr q)
    exact ⟨ry, [], _, HCL.o.rd.bad.1, HCL.o.c0, HCL, HCEL, L0 (by simpa using HLNY.o)⟩
    clear HCL HCEL HLNY
    obtain ⟨⟨l2, b2⟩, cc, u6, k6, k7, HCI, HIE, HLC⟩ := hrel
    cases b2
    ·obtain ⟨A6, l6, rfl⟩ := HCI.o.own.value
     obtain ⟨⟨x, rx⟩, hx⟩ : ∃ x, Z3v ⟨l2, false⟩ = x := ⟨_, rfl⟩
     have hlen1 := Z60 ⟨l2, false⟩
     rw [hx] at hlen1
     have HTD2 : Hid (CelL w13 q q5 ⟨l2, false⟩ (.slice A6 cc.length l6) cc wr.drew) := L0 (HCI.o.step (Only.drew (Only.refl _ _)) HCI.o.rd)
     have HCE : Hid (Calls Tryz.prog 106 #[.pointer (some (zn q 0))] wr.drew fun e w' => ∃ v, e = .returned (.agg #[.bool x.no, v]) /\ Own rRg 74 w' wr.drew.heap.size (fun _ => False) v x.rs /\ RdAt w' q rx /\ Only q wr.drew w') := L0 (by have := Y9l wr.drew HTD2.o.rd (by have h2 : cc.length + l2.length <= 4000 := HLC.o; dsimp only; omega) (fun w' ho => HL.o _ ((HT13.o.only.trans HTD2.o.only).trans ho)); rw [hx] at this; exact this)
     obtain ⟨⟨b, rz⟩, hy⟩ : ∃ x, atR rx [44] = x := ⟨_, rfl⟩
     have HATZ : Hid (∀ w, RdAt w q rx -> Calls Tryz.prog 73 #[.pointer (some (zn q 0)), .string ⟨#[44]⟩] w fun e w' => e = .returned (.bool b) /\ RdAt w' q rz /\ Only q w w') := L0 fun w hr => by have := Z3z [44] w hr; rw [hy] at this; exact this
     have HBY : Hid ((cc.length + ([x] : List Cl).length) * rCl.bytes <= 140737488355328) := L0 (by have h2 : cc.length + l2.length <= 4000 := HLC.o; simp only [rCl, L0p]; omega)
     have HNX2 : Hid (b = true -> rz.l.length < l2.length) := L0 fun hb => by have h := Z5l (r := rx) (s := [44]) (by rw [hy, hb]); rw [hy] at h; dsimp only at h hlen1; omega
     have HIO : Hid (b = true -> Z0q Z3v [44] rz (cc ++ [x]) = (cells, rc)) := L0 fun hb => (Z6p Z60 cc rfl hx (by rw [hy, hb])).symm.trans HIE.o
     have HIF : Hid (b = false -> (cc ++ [x], rz) = (cells, rc)) := L0 fun hb => (Z5u cc rfl hx (by rw [hy, hb])).symm.trans HIE.o
     have HLO : Hid (∀ g, (Value.slice A6 cc.length l6).ownBlock = some g -> g < wr.heap.size) := L0 fun g hg => (HCI.o.own.lt g hg).2
     have HQW : Hid (q5 < wr.heap.size) := L0 HCI.o.hq.2.2
     clear hx hy hlen1
     go_wp2
     go_region_law (first
      | (refine Z5d (R := rCl) X41 rfl (.tmp 53) (.tmp 56) rfl rfl (by exact HC8.o.own.alloc _) rfl (ys := [x]) (S2 := Up (Up (fun _ => False) wr.drew.heap.size) w8.heap.size) (Up (Up (fun _ => False) wr.drew.heap.size) w8.heap.size) rfl (by exact Z9k (by decide) [.bool x.no, .slice Ax x.rs.length lx] HX8.o (by decide)) (fun _ _ h => h) (by (intro g hg _; exact HS8.o g hg)) (by exact HBY.o) (by (have := HC8.o.hq.2.2; simp; omega)) ?_; intro v9 w9 hown9 hb9 _ _; obtain ⟨A9, l9, rfl⟩ : ∃ A9 l9, v9 = .slice A9 (cc.length + 1) l9 := (by (obtain ⟨A9, l9, h⟩ := hown9.value; exact ⟨A9, l9, by rw [h, L0i, L0p]⟩)); obtain ⟨hT9, k9, z9⟩ := CelL.grow (HC8.o.step (Only.alloc _ _) (HC8.o.rd.alloc _)) hb9 hown9; obtain ⟨W9, e9, HC9⟩ : ∃ W9, w9.setCell (zn q5 0) (.slice A9 (cc.length + 1) l9) = W9 /\ Hid (CelL w13 q q5 rx (.slice A9 (cc.length + 1) l9) (cc ++ [x]) W9) := ⟨_, rfl, L0 hT9⟩; clear hT9 hown9 hb9)
      | (go_simp; go_at_call 106; (with_reducible refine HCE.o.mono ?_); rintro e w8 ⟨v8, rfl, hx8, hr8, o8⟩; obtain ⟨Ax, lx, rfl⟩ := hx8.value; have HX8 : Hid (rCl.rel w8 (Up (fun _ => False) wr.drew.heap.size) [.bool x.no, .slice Ax x.rs.length lx] x) := L0 ⟨_, rfl, hx8.rel (by decide)⟩; have HC8 := L0 (HTD2.o.step o8 hr8); have p3 := HC8.o.c0; have q8 : q5 < w8.heap.size := L0d _ _ p3; have HS8 : Hid (∀ g, Up (Up (fun _ => False) wr.drew.heap.size) w8.heap.size g -> Up (fun _ => False) (q5 + 1) g /\ (Value.slice A6 cc.length l6).ownBlock ≠ some g) := L0 (Y8p HQW.o HLO.o o8.size); clear hx8 hr8 o8))
     all_goals
      cases b
      ·go_wp2_with (go_at_call 73; (with_reducible refine (HATZ.o W9 HC9.o.rd).mono ?_); rintro e w10 ⟨rfl, hr10, o10⟩; have HC10 := L0 (HC9.o.step o10 hr10); clear hr10 o10)
       go_meet
       have hz := HIF.o (by simp)
       injection hz with hz1 hz2
       exact ⟨_, L0 (by rw [<- hz1, <- hz2]; exact HC10.o)⟩
      go_wp2_with (go_at_call 73; (with_reducible refine (HATZ.o W9 HC9.o.rd).mono ?_); rintro e w10 ⟨rfl, hr10, o10⟩; have HC10 := L0 (HC9.o.step o10 hr10); clear hr10 o10)
      go_roundw
      exact ⟨rz, cc ++ [x], _, HC10.o.rd.bad.1, HC10.o.c0, HC10, L0 (HIO.o (by simp)), L0 (by have h1 := HNX2.o (by simp); have h2 : cc.length + l2.length <= 4000 := HLC.o; rw [L0i, L0p]; omega)⟩
      rw [HC10.o.rd.len, HCI.o.rd.len]; exact HNX2.o (by simp)
    have hz := (Z8g cc rfl).symm.trans HIE.o
    injection hz with hz1 hz2
    have HZ1 := L0 hz1
    have HZ2 := L0 hz2
    clear hz1 hz2
    go_wp2
    go_meet
    exact ⟨_, L0 (by rw [<- HZ1.o, <- HZ2.o]; exact HCI.o)⟩
   obtain ⟨u5, HC5⟩ := hcut
   obtain ⟨A5, l5, rfl⟩ := HC5.o.own.value
   have HQ13 : Hid (B0 <= w13.heap.size /\ w13.heap.size <= q5 /\ q < q5 + 1 /\ ∀ g, (Value.slice Au acc.length lu).ownBlock = some g -> g < q5) := L0 (by
    have h1 := HT13.o.hB
    have h2 := HC5.o.hq
    exact ⟨h1, h2.2.1, by omega, fun g hg => by have := (HT13.o.orl.lt g hg).2; omega⟩)
   go_wp2_with (first
    | (go_at_call 76; first
     | ((with_reducible refine (HTKD.o wc HC5.o.rd).mono ?_); rintro e w14 ⟨rfl, hr14, o14⟩; have HC14 := L0 (HC5.o.step o14 hr14); clear hr14 o14)
     | ((with_reducible refine (HTKF.o W16 H16.o.1).mono ?_); rintro e w17 ⟨rfl, hr17, o17⟩; obtain ⟨hc17, t0, t1, hrel17⟩ := Y9n (cells := cells) (n := n) (l5 := l5) (A5 := A5) HT13.o H16.o K16.out O16.out o17 hr17 HNI.o; have HT17 := L0 hc17; have HR17 := L0 hrel17; have kk := HT17.o.c4; clear hr17 hc17 hrel17))
    | (go_at_call 75; (with_reducible refine (HNB.o w14 HC14.o.rd (HT13.o.only.trans HC14.o.only)).mono ?_); rintro e w15 ⟨rfl, hr15, o15⟩; have HC15 := L0 (HC14.o.step o15 hr15); have p5 := HC15.o.c1; have pz5 := HC15.o.z 1; obtain ⟨W16, e16, H16, K16, O16⟩ := HC15.o.out n; clear hr15 o15)
    | (at_builtin; refine Z0a (R := rRl) (x := ⟨cells, n⟩) X42 rfl (.tmp 70) (.tmp 72) rfl rfl HT17.o.orl [.slice A5 cells.length l5, .int .i64 n] rfl rfl (Up (fun _ => False) (q5 + 1)) HR17.o (by (intro g hg _; exact ⟨.inr (by (have := HQ13.o; rcases hg with hg | hg; exact hg.elim; omega)), fun e => by (have := HQ13.o.2.2.2 g e; rcases hg with hg | hg; exact hg.elim; omega)⟩)) HBYR.o HT17.o.hB ?_; intro v18 w18 hown18 hb18 hg18 he18; obtain ⟨A8, l8, rfl⟩ : ∃ A8 l8, v18 = .slice A8 (acc.length + 1) l8 := (by (obtain ⟨A8, l8, h⟩ := hown18.value; exact ⟨A8, l8, by rw [h, L0i, L0p]⟩)); obtain ⟨hT18, k18, z18⟩ := HT17.o.growR hb18 (Own.kept_flat HT17.o.oi Y8w hg18 HNE.o) hown18; have HNE8 := L0 (NeB.next HNE.o (fun g hg => (HT17.o.oi.lt g hg).2) he18); obtain ⟨W19, e19, HT19⟩ : ∃ W19, w18.setCell (zn q3 4) (.slice A8 (acc.length + 1) l8) = W19 /\ Hid (TabI w q q2 q3 B0 rf nm pol cm (.slice Ai ins.length li) ins (.slice A8 (acc.length + 1) l8) (acc ++ [⟨cells, n⟩]) W19) := ⟨_, rfl, L0 hT18⟩; clear hT18 hown18 hb18 hg18 he18))
   go_roundw
   exact ⟨rf, acc ++ [⟨cells, n⟩], _, HT19.o.rd.bad.1, HT19, HNE8, HREN, L0 ⟨fun hb => by have h1 := HRF.o hb; have h2 : acc.length + l1.length <= 4000 := HLA.o.1 (by simp); rw [L0i, L0p]; omega, by have h2 : acc.length + l1.length <= 4000 := HLA.o.1 (by simp); rw [L0i, L0p]; omega⟩⟩
   rw [HT19.o.rd.m, HTI.o.rd.m]; exact X3k HRF.o
  have HZ := L0 ((Z8j acc rfl hb).symm.trans HRE.o)
  clear hb hleny
  obtain ⟨Av, lv, rfl⟩ := HTI.o.orl.value
  go_wp2_with (go_at_call 73; (with_reducible refine (HATB.o wr HTI.o.rd).mono ?_); rintro e w13 ⟨rfl, hr13, o13⟩; have HT13 := L0 (HTI.o.step o13 hr13); obtain ⟨W20, e20, n0, n1, n2, n3, n4, H20⟩ := HT13.o.done; have d0 := HT13.o.c0; have d1 := HT13.o.c1; have d2 := HT13.o.c2; have d3 := HT13.o.c3; have d4 := HT13.o.c4; have f0 := HT13.o.f0; have f1 := HT13.o.f1; have f2 := HT13.o.f2; have f3 := HT13.o.f3; have f4 := HT13.o.f4; have y0 := HT13.o.y 0; have y1 := HT13.o.y 1; have y2 := HT13.o.y 2; have y3 := HT13.o.y 3; have y4 := HT13.o.y 4; clear hr13 o13)
  refine bodyPost_ret (by simp [results, Tryz.results78, go_sem, n0, n1, n2, n3, n4]; rfl) rfl ?_
  have hz := HZ.o
  injection hz with hz1 hz2
  exact ⟨_, _, rfl, H20.o.1, by rw [<- hz1]; exact H20.o.2.1, by rw [<- hz2]; exact H20.o.2.2.1, H20.o.2.2.2⟩
 have HZ := L0 ((Z8i acc rfl).symm.trans HRE.o)
 obtain ⟨Av, lv, rfl⟩ := HTI.o.orl.value
 obtain ⟨W20, e20, n0, n1, n2, n3, n4, H20⟩ := HTI.o.done
 have d0 := HTI.o.c0
 have d1 := HTI.o.c1
 have d2 := HTI.o.c2
 have d3 := HTI.o.c3
 have d4 := HTI.o.c4
 have f0 := HTI.o.f0
 have f1 := HTI.o.f1
 have f2 := HTI.o.f2
 have f3 := HTI.o.f3
 have f4 := HTI.o.f4
 have y0 := HTI.o.y 0
 have y1 := HTI.o.y 1
 have y2 := HTI.o.y 2
 have y3 := HTI.o.y 3
 have y4 := HTI.o.y 4
 go_wp2
 refine bodyPost_ret (by simp [results, Tryz.results78, go_sem, n0, n1, n2, n3, n4]; rfl) rfl ?_
 have hz := HZ.o
 injection hz with hz1 hz2
 exact ⟨_, _, rfl, H20.o.1, by rw [<- hz1]; exact H20.o.2.1, by rw [<- hz2]; exact H20.o.2.2.1, H20.o.2.2.2⟩
structure Pr where
 d : Dm
 t : Tb
 is : Bool
 e : Int
def prNo (e : Int) : Pr := ⟨dm0, tb0, false, e⟩
def Z8o (r : Rs) : Dm × Rs := (⟨(Z2u r).1, (Z0l (Z2u r).2).1, (Z0l (Z28 (Z0l (Z2u r).2).2 [46, 46])).1⟩, (Z0l (Z28 (Z0l (Z2u r).2).2 [46, 46])).2)
def rd0 (s : Txt) : Rs := ⟨(Z0e s []).getD [], !(Z0e s []).isSome⟩
def kwD : Txt := [100, 111, 109, 97, 105, 110]
def kwT : Txt := [116, 97, 98, 108, 101]
def Z0d (s : Txt) : Pr :=
 if 2000 < s.length then prNo 5
 else if (atR (rd0 s) kwD).1 then
  (if (Z8o (atR (rd0 s) kwD).2).2.bad = true \/ 0 < (Z8o (atR (rd0 s) kwD).2).2.l.length \/ Z4d (Z8o (atR (rd0 s) kwD).2).1 = false then prNo 1 else ⟨(Z8o (atR (rd0 s) kwD).2).1, tb0, false, 0⟩)
 else if (atR (atR (rd0 s) kwD).2 kwT).1 then
  (if (Z27 (atR (atR (rd0 s) kwD).2 kwT).2).2.bad = true \/ 0 < (Z27 (atR (atR (rd0 s) kwD).2 kwT).2).2.l.length \/ Z0s (Z27 (atR (atR (rd0 s) kwD).2 kwT).2).1 = false then prNo 1 else ⟨dm0, (Z27 (atR (atR (rd0 s) kwD).2 kwT).2).1, true, 0⟩)
 else prNo 1
structure PrB (w : World) (q2 q3 : Nat) : Prop where
 a0 : w.cell? (zn q2 0) = some (.string ⟨#[]⟩)
 a1 : w.cell? (zn q2 1) = some (.int .i64 0)
 a2 : w.cell? (zn q2 2) = some (.int .i64 0)
 b0 : w.cell? (zn q3 0) = some (.string ⟨#[]⟩)
 b1 : w.cell? (zn q3 1) = some (.int .i64 0)
 b2 : w.cell? (zn q3 2) = some (.bool false)
 b3 : w.cell? (zn q3 3) = some (nl)
 b4 : w.cell? (zn q3 4) = some (nl)
 x : ∀ i, w.frozen? (zn q2 i) = false
 y : ∀ i, w.frozen? (zn q3 i) = false
 lt : q2 < q3 /\ q3 < w.heap.size
theorem PrB.below {w w' : World} {q2 q3 B : Nat} (h : PrB w q2 q3) (hb : Below B w w') (hB : q3 < B) : PrB w' q2 q3 := by
 have h2 : q2 < B := by have := h.lt; omega
 exact ⟨(hb.ce 0 h2).trans h.a0, (hb.ce 1 h2).trans h.a1, (hb.ce 2 h2).trans h.a2, (hb.ce 0 hB).trans h.b0, (hb.ce 1 hB).trans h.b1, (hb.ce 2 hB).trans h.b2, (hb.ce 3 hB).trans h.b3, (hb.ce 4 hB).trans h.b4,
  fun i => (hb.fr i h2).trans (h.x i), fun i => (hb.fr i hB).trans (h.y i), h.lt.1, L0c h.lt.2 hb.size⟩
theorem PrB.start (w : World) (td tt : TypeId) : ∃ W, (w.alloc (.cells #[.string ⟨#[]⟩, .int .i64 0, .int .i64 0] td)).alloc (.cells #[.string ⟨#[]⟩, .int .i64 0, .bool false, nl, nl] tt) = W /\ Hid (PrB W w.heap.size (w.heap.size + 1)) /\ Hid (Bw w W) /\ Hid (W.heap.size = w.heap.size + 2) := by
 obtain ⟨W, e, hb, hs, f, g, z, z'⟩ := Y20 w #[.string ⟨#[]⟩, .int .i64 0, .int .i64 0] #[.string ⟨#[]⟩, .int .i64 0, .bool false, nl, nl] td tt
 exact ⟨W, e, L0 ⟨f 0, f 1, f 2, g 0, g 1, g 2, g 3, g 4, z, z', L2s _, by omega⟩, L0 hb, L0 hs⟩
theorem PrB.store {w : World} {q2 q3 : Nat} (h : PrB w q2 q3) (d : Dm) (nm : Txt) (pol : Int) (cm : Bool) (v u : Value) :
  ∃ W, (((((((w.setCell (zn q2 0) (sq d.name)).setCell (zn q2 1) (.int .i64 d.lo)).setCell (zn q2 2) (.int .i64 d.hi)).setCell (zn q3 0) (sq nm)).setCell (zn q3 1) (.int .i64 pol)).setCell (zn q3 2) (.bool cm)).setCell (zn q3 3) v).setCell (zn q3 4) u = W /\
   W.cell? (zn q2 0) = some (sq d.name) /\ W.cell? (zn q2 1) = some (.int .i64 d.lo) /\ W.cell? (zn q2 2) = some (.int .i64 d.hi) /\ W.cell? (zn q3 0) = some (sq nm) /\ W.cell? (zn q3 1) = some (.int .i64 pol) /\ W.cell? (zn q3 2) = some (.bool cm) /\ W.cell? (zn q3 3) = some v /\ W.cell? (zn q3 4) = some u /\
   Hid (∀ B, B <= q2 -> ∀ w0, Below B w0 w -> Below B w0 W) /\ Hid (∀ S : Nat -> Prop, ¬ S q2 -> ¬ S q3 -> Keeps S w W) := by
 have hlt := h.lt.1
 obtain ⟨W1, e1, hB1, hc0, hc1, hc2⟩ := Y95 (sq d.name) (.int .i64 d.lo) (.int .i64 d.hi) h.a0 h.a1 h.a2
 have n : ∀ (w : World) (i j : Nat) (v : Value), (w.setCell (zn q2 i) v).cell? (zn q3 j) = w.cell? (zn q3 j) := fun w i j v => L0a _ _ _ _ (by simp <;> omega)
 have k : ∀ j, W1.cell? (zn q3 j) = w.cell? (zn q3 j) := fun j => by rw [<- e1, n, n, n]
 obtain ⟨W, e, hB, hK, n0, n1, n2, n3, n4⟩ := Y97 (sq nm) (.int .i64 pol) (.bool cm) v u ((k 0).trans h.b0) ((k 1).trans h.b1) ((k 2).trans h.b2) ((k 3).trans h.b3) ((k 4).trans h.b4)
 have m : ∀ (w : World) (i j : Nat) (v : Value), (w.setCell (zn q3 i) v).cell? (zn q2 j) = w.cell? (zn q2 j) := fun w i j v => L0a _ _ _ _ (by simp <;> omega)
 have k2 : ∀ j, W.cell? (zn q2 j) = W1.cell? (zn q2 j) := fun j => by rw [<- e, m, m, m, m, m]
 refine ⟨W, by rw [<- e, <- e1], (k2 0).trans hc0, (k2 1).trans hc1, (k2 2).trans hc2, n0, n1, n2, n3, n4, L0 fun B hBq w0 hb => hB B (by omega) w0 (hB1 B hBq w0 hb), L0 fun S h2 h3 => ?_⟩
 refine Keeps.trans ?_ (hK S h3)
 rw [<- e1]
 exact ((Keeps.setCell (p := (zn q2 0)) h2 _).trans (Keeps.setCell (p := (zn q2 1)) h2 _)).trans (Keeps.setCell (p := (zn q2 2)) h2 _)
theorem Z34 (e : Int) (w : World) : Calls Tryz.prog 71 #[.int .i64 e] w fun x w' => x = .returned (.tuple #[.agg #[.string ⟨#[]⟩, .int .i64 0, .int .i64 0], .agg #[.string ⟨#[]⟩, .int .i64 0, .bool false, nl, nl], .bool false, .int .i64 e]) /\ Bw w w' := by
 obtain ⟨W, e0, HP, HB, HS⟩ := PrB.start w 63 66
 obtain ⟨W1, e1, n0, n1, n2, m0, m1, m2, m3, m4, HB1, _⟩ := HP.o.store dm0 [] 0 false (nl) (nl)
 have a0 := HP.o.a0
 have a1 := HP.o.a1
 have a2 := HP.o.a2
 have b0 := HP.o.b0
 have b1 := HP.o.b1
 have b2 := HP.o.b2
 have b3 := HP.o.b3
 have b4 := HP.o.b4
 have x0 := HP.o.x 0
 have x1 := HP.o.x 1
 have x2 := HP.o.x 2
 have y0 := HP.o.y 0
 have y1 := HP.o.y 1
 have y2 := HP.o.y 2
 have y3 := HP.o.y 3
 have y4 := HP.o.y 4
 simp only [dm0] at e1 n0 n1 n2
 go_enter Tryz.func71, Tryz.ntmps71
 go_wp2
 refine bodyPost_ret (by simp [results, Tryz.results71, go_sem, n0, n1, n2, m0, m1, m2, m3, m4]; rfl) rfl ?_
 exact ⟨rfl, HB1.o _ (L0g _) _ HB.o⟩
theorem X4b {r r1 : Rs} {s : Txt} (h : atR r s = (false, r1)) : r1 = r := by
 unfold atR at h
 split at h
 ·injection h with _ h; exact h.symm
 split at h
 ·injection h with h _; cases h
 injection h with _ h; exact h.symm
theorem X07 (s : Txt) : -1 <= Z7w pols s /\ Z7w pols s <= 7 := by
 unfold Z7w
 cases h : pols.findIdx? (· == s) with
 | none => exact ⟨by dsimp only; omega, by dsimp only; omega⟩
 | some i =>
  have h1 := (List.findIdx?_eq_some_iff_findIdx_eq.1 h).1
  have : pols.length = 8 := rfl
  exact ⟨by dsimp only; omega, by dsimp only; omega⟩
theorem PolW.below {w w' : World} (h : PolW w) (hb : Bw w w') : PolW w' :=
 ⟨L0c h.1 hb.size, fun i s hs => (hb.ce i h.1).trans (h.2 i s hs)⟩
theorem Z8c {d : Dm} {g : Bool} (w : World) (hs : d.name.length <= 140737488355328) (h : Z4d d = g) : Calls Tryz.prog 77 #[.agg #[sq d.name, .int .i64 d.lo, .int .i64 d.hi]] w fun e w' => e = .returned (.bool g) /\ Bw w w' := h ▸ Z4a d w hs
theorem Y1s {S : Nat -> Prop} {cs : List Value} {t : Tb} {g : Bool} (w : World) (hl : rTb.rel w S cs t) (h : Z0s t = g) : Calls Tryz.prog 79 #[.agg cs.toArray] w fun e w' => e = .returned (.bool g) /\ Bw w w' := h ▸ Z6w w hl
theorem Y90 : ∀ (f : Nat) (s : Txt) (acc : List Txt), ((Z12 f s acc).getD []).length <= acc.length + s.length := by
 intro f
 induction f with
 | zero => intro s acc; simp [Z12]
 | succ f ih =>
  intro s acc
  cases s with
  | nil => simp [Z12]
  | cons c t =>
   simp only [Z12]
   split
   ·have := ih t acc
    simp only [L0r]
    omega
   split
   ·rename_i n hn
    have h1 : 1 <= n := by
     unfold Z0w at hn
     dsimp only at hn
     split at hn
     ·injection hn with hn; omega
     split at hn
     ·injection hn with hn; omega
     split at hn
     ·injection hn with hn; omega
     split at hn
     ·injection hn with hn; omega
     cases hn
    have := ih ((c :: t).drop n) (acc ++ [(c :: t).take n])
    rw [L0i, L0p, L1b, L0r] at this
    simp only [L0r]
    omega
   simp
structure PSt (w : World) (q : Nat) (r : Rs) (wr : World) : Prop where
 rd : RdAt wr q r
 pb : PrB wr w.heap.size (w.heap.size + 1)
 bel : Bw w wr
 hq : w.heap.size + 1 < q
theorem PSt.step {w : World} {q : Nat} {r r' : Rs} {wr wr' : World} (h : PSt w q r wr) (ho : Only q wr wr') (hr : RdAt wr' q r') : PSt w q r' wr' := by
 have h1 := h.hq
 have h2 := h.rd.lt
 exact ⟨hr, h.pb.below (ho.toBelow (L0g q) (L2b h2)) h1, h.bel.trans (ho.toBelow (by omega) h.bel.size), h1⟩
theorem PSt.belowS {w : World} {q : Nat} {r : Rs} {wr wr' : World} (h : PSt w q r wr) (hb : Bw wr wr') : PSt w q r wr' := h.step (Only.below hb) (h.rd.below hb)
theorem PSt.all {w : World} {q : Nat} {r : Rs} {wr : World} (h : PSt w q r wr) : ∀ w', Only q wr w' -> Bw w w' := fun _ ho => h.bel.trans (ho.toBelow (by have := h.hq; omega) h.bel.size)
theorem PSt.start {w w1 : World} {B : Nat} {A : Option Addr} {l : Nat} {ws : List Txt} {b : Bool} {ty : TypeId} (hp : PrB w1 w.heap.size (w.heap.size + 1)) (hb : Bw w w1) (hown : Own rStr 9 w1 B (fun _ => False) (.slice A ws.length l) ws) :
  ∃ W2, w1.alloc (.cells #[.slice A ws.length l, .bool b] ty) = W2 /\ Hid (PSt w w1.heap.size ⟨ws, b⟩ W2) := by
 refine ⟨_, rfl, L0 ⟨⟨A, l, L0b _ _ _ _, L0b _ _ _ _, by simp, by simp, ?_⟩, hp.below bA hp.lt.2, hb.alloc hb.size _, hp.lt.2⟩⟩
 exact Rd.alloc ((rSl rStr).mono (hown.rel (by decide)) fun g _ hlt => hlt) _
theorem PSt.box3 {w : World} {q : Nat} {r : Rs} {wr : World} (h : PSt w q r wr) (nm : Txt) (lo : Int) (ty : TypeId) : ∃ W6, wr.alloc (.cells #[sq nm, .int .i64 lo, .int .i64 0] ty) = W6 /\ W6.frozen? (zn wr.heap.size 2) = false /\ W6.cell? (zn wr.heap.size 2) = some (.int .i64 0) /\
  ∃ W7, W6.setCell (zn wr.heap.size 2) (.int .i64 0) = W7 /\ Hid (PSt w q r W7) /\ Hid (W7.cell? (zn wr.heap.size 0) = some (sq nm) /\ W7.cell? (zn wr.heap.size 1) = some (.int .i64 lo) /\ W7.cell? (zn wr.heap.size 2) = some (.int .i64 0) /\ W7.frozen? (zn wr.heap.size 2) = false) /\ Hid (q < wr.heap.size /\ wr.heap.size < W7.heap.size) := by
 have hq := h.rd.lt
 have k2 : (wr.alloc (.cells #[sq nm, .int .i64 lo, .int .i64 0] ty)).cell? (zn wr.heap.size 2) = some (.int .i64 0) := L0b _ _ _ _
 refine ⟨_, rfl, by simp, k2, _, rfl, L0 ?_, L0 ⟨?_, ?_, L0e _ _ _ k2, by rw [L0k]; simp⟩, L0 ⟨hq, by simp⟩⟩
 ·exact h.step ((Only.alloc _ _).new (L0g _) _ _) ((h.rd.alloc _).other hq _ _)
 ·exact (cso).trans (L0b _ _ _ _)
 exact (cso).trans (L0b _ _ _ _)
theorem PSt.hi {w : World} {q b : Nat} {r : Rs} {wr : World} (h : PSt w q r wr) (hb : q < b) {x y z : Value} (v : Value) (k0 : wr.cell? (zn b 0) = some x) (k1 : wr.cell? (zn b 1) = some y) (k2 : wr.cell? (zn b 2) = some z) : ∃ W, wr.setCell (zn b 2) v = W /\ Hid (PSt w q r W) /\ W.cell? (zn b 0) = some x /\ W.cell? (zn b 1) = some y /\ W.cell? (zn b 2) = some v := by
 have h1 := h.hq
 have h2 := h.pb.lt
 have hlt : b < wr.heap.size := L0d _ _ k0
 have hbel : Below (q + 1) wr (wr.setCell (zn b 2) v) := (L0m _ _).setCell (show q + 1 <= b by omega) v
 refine ⟨_, rfl, L0 ⟨h.rd.other hb _ _, h.pb.below hbel (by omega), h.bel.trans (hbel.mono (by omega)), h1⟩, (cso).trans k0, (cso).trans k1, L0e _ _ _ k2⟩
theorem Y8o {B : Nat} {a w : World} (h : Below B a w) : Below B a w.drew := ⟨h.os, h.tape, h.output, h.size, h.block⟩
theorem PSt.box5 {w : World} {q : Nat} {r : Rs} {wr : World} (h : PSt w q r wr) {B : Nat} {t : Tb} {A C : Option Addr} {l m : Nat} (ty : TypeId) (hn : t.name.length <= 140737488355328) (hp : InI t.pol) (h1 : Own rStr 9 wr B (fun _ => False) (.slice A t.ins.length l) t.ins) (h2 : Own rRl 69 wr B (fun _ => False) (.slice C t.rules.length m) t.rules) :
  ∃ W, wr.alloc (.cells #[sq t.name, .int .i64 t.pol, .bool t.comp, .slice A t.ins.length l, .slice C t.rules.length m] ty) = W /\ Hid (PSt w q r W) /\ Hid (rTb.rel W (Up (fun _ => False) B) [sq t.name, .int .i64 t.pol, .bool t.comp, .slice A t.ins.length l, .slice C t.rules.length m] t) /\
   Hid (W.cell? (zn wr.heap.size 0) = some (sq t.name) /\ W.cell? (zn wr.heap.size 1) = some (.int .i64 t.pol) /\ W.cell? (zn wr.heap.size 2) = some (.bool t.comp) /\ W.cell? (zn wr.heap.size 3) = some (.slice A t.ins.length l) /\ W.cell? (zn wr.heap.size 4) = some (.slice C t.rules.length m)) /\ Hid (wr.heap.size < W.heap.size) /\ W.cell? (zn q 1) = some (.bool r.bad) /\ ∃ A9 c9, W.cell? (zn q 0) = some (.slice A9 r.l.length c9) := by
 have h3 := h.step (Only.alloc wr (.cells #[sq t.name, .int .i64 t.pol, .bool t.comp, .slice A t.ins.length l, .slice C t.rules.length m] ty)) (h.rd.alloc _)
 have h4 := h3.rd
 obtain ⟨A9, c9, k0, k1, _⟩ := h4
 refine ⟨_, rfl, L0 h3, L0 ⟨_, _, rfl, hn, hp, ?_, ?_⟩, L0 ⟨L0b _ _ _ _, L0b _ _ _ _, L0b _ _ _ _, L0b _ _ _ _, L0b _ _ _ _⟩, L0 (by simp), k1, A9, c9, k0⟩
 ·exact Rd.alloc (h1.rel (by decide)) _
 exact Rd.alloc (h2.rel (by decide)) _
theorem Y98 {w w' : World} {b : Nat} {x0 x1 x2 x3 x4 : Value} (h : w.cell? (zn b 0) = some x0 /\ w.cell? (zn b 1) = some x1 /\ w.cell? (zn b 2) = some x2 /\ w.cell? (zn b 3) = some x3 /\ w.cell? (zn b 4) = some x4) (hb : Bw w w') (hl : b < w.heap.size) : w'.cell? (zn b 0) = some x0 /\ w'.cell? (zn b 1) = some x1 /\ w'.cell? (zn b 2) = some x2 /\ w'.cell? (zn b 3) = some x3 /\ w'.cell? (zn b 4) = some x4 :=
 ⟨(hb.ce 0 hl).trans h.1, (hb.ce 1 hl).trans h.2.1, (hb.ce 2 hl).trans h.2.2.1, (hb.ce 3 hl).trans h.2.2.2.1, (hb.ce 4 hl).trans h.2.2.2.2⟩
theorem Z5o {W w' : World} {b q : Nat} {x0 x1 x2 : Value} (h : W.cell? (zn b 0) = some x0 /\ W.cell? (zn b 1) = some x1 /\ W.cell? (zn b 2) = some x2 /\ W.frozen? (zn b 2) = false) (ho : Only q W w') (hq : q < b /\ b < W.heap.size) :
  (w'.cell? (zn b 0) = some x0 /\ w'.cell? (zn b 1) = some x1 /\ w'.cell? (zn b 2) = some x2 /\ w'.frozen? (zn b 2) = false) /\ (q < b /\ b < w'.heap.size) := by
 have n : b ≠ q := by omega
 exact ⟨⟨(ho.cell hq.2 n 0).trans h.1, (ho.cell hq.2 n 1).trans h.2.1, (ho.cell hq.2 n 2).trans h.2.2.1, (ho.frozen hq.2 n 2).trans h.2.2.2⟩, hq.1, L0c hq.2 ho.size⟩
theorem Y05 {w : World} {q : Nat} {r : Rs} (h : RdAt w q r) : (Z2u r).1.length <= 140737488355328 := h.wlen
theorem Y8b (s : Txt) (w : World) (hs : s.length <= 140737488355328) (hw : LibW w) (hp : PolW w) :
  Calls Tryz.prog 44 #[sq s] w fun e w' => ∃ v u, e = .returned (.tuple #[.agg #[.string ⟨(Z0d s).d.name.toArray⟩, .int .i64 (Z0d s).d.lo, .int .i64 (Z0d s).d.hi], .agg #[.string ⟨(Z0d s).t.name.toArray⟩, .int .i64 (Z0d s).t.pol, .bool (Z0d s).t.comp, v, u], .bool (Z0d s).is, .int .i64 (Z0d s).e]) /\
   rTb.rel w' (Up (fun _ => False) w.heap.size) [.string ⟨(Z0d s).t.name.toArray⟩, .int .i64 (Z0d s).t.pol, .bool (Z0d s).t.comp, v, u] (Z0d s).t /\ Bw w w' := by
 have HW := L0 hw
 have HPO := L0 hp
 obtain ⟨W, e0, HP, HB, HS⟩ := PrB.start w 63 66
 have HZ : Hid (∀ (e : Int) (x : Ending) (w' : World), Z0d s = prNo e -> x = .returned (.tuple #[.agg #[.string ⟨#[]⟩, .int .i64 0, .int .i64 0], .agg #[.string ⟨#[]⟩, .int .i64 0, .bool false, nl, nl], .bool false, .int .i64 e]) -> Bw w w' -> ∃ v u, x = .returned (.tuple #[.agg #[.string ⟨(Z0d s).d.name.toArray⟩, .int .i64 (Z0d s).d.lo, .int .i64 (Z0d s).d.hi], .agg #[.string ⟨(Z0d s).t.name.toArray⟩, .int .i64 (Z0d s).t.pol, .bool (Z0d s).t.comp, v, u], .bool (Z0d s).is, .int .i64 (Z0d s).e]) /\
   rTb.rel w' (Up (fun _ => False) w.heap.size) [.string ⟨(Z0d s).t.name.toArray⟩, .int .i64 (Z0d s).t.pol, .bool (Z0d s).t.comp, v, u] (Z0d s).t /\ Bw w w') := L0 (by
  intro e x w' h rfl hb
  rw [h]
  exact ⟨_, _, rfl, ⟨_, _, rfl, by show ([] : Txt).length <= _; decide, by show InI 0; unfold InI; decide, (Own.nil rStr 9 w' w.heap.size (fun _ => False)).rel (by decide), (Own.nil rRl 69 w' w.heap.size (fun _ => False)).rel (by decide)⟩, hb⟩)
 clear hw hp
 go_enter Tryz.func44, Tryz.ntmps44
 by_cases hl : 2000 < s.length
 ·have hi : (2000 : Int) < s.length := by omega
  have HE : Hid (Z0d s = prNo 5) := L0 (by unfold Z0d; rw [if_pos hl])
  clear hl
  go_wp2_with (go_at_call 71; (with_reducible refine (Z34 5 W).mono ?_); rintro e wz ⟨rfl, hbz⟩; have HPZ := L0 (HP.o.below hbz HP.o.lt.2); obtain ⟨WZ, eZ, n0, n1, n2, m0, m1, m2, m3, m4, HBZ, _⟩ := HPZ.o.store dm0 [] 0 false (nl) (nl); simp only [dm0] at eZ n0 n1 n2; have HBF : Hid (Bw w WZ) := L0 (HBZ.o _ (L0g _) _ (HB.o.trans (hbz.mono HB.o.size))); have a0 := HPZ.o.a0; have a1 := HPZ.o.a1; have a2 := HPZ.o.a2; have b0 := HPZ.o.b0; have b1 := HPZ.o.b1; have b2 := HPZ.o.b2; have b3 := HPZ.o.b3; have b4 := HPZ.o.b4; have x0 := HPZ.o.x 0; have x1 := HPZ.o.x 1; have x2 := HPZ.o.x 2; have y0 := HPZ.o.y 0; have y1 := HPZ.o.y 1; have y2 := HPZ.o.y 2; have y3 := HPZ.o.y 3; have y4 := HPZ.o.y 4; clear hbz)
  trace_state
  refine bodyPost_ret (by simp [results, Tryz.results44, go_sem, n0, n1, n2, m0, m1, m2, m3, m4]; rfl) rfl ?_
  exact HZ.o _ _ _ HE.o rfl HBF.o
 have hi : ¬ (2000 : Int) < s.length := by omega
 have HSL : Hid (s.length <= 4000) := L0 (by omega)
 obtain ⟨f, hf⟩ : ∃ x, (Z0e s []).isSome = x := ⟨_, rfl⟩
 obtain ⟨ws, hws⟩ : ∃ x, (Z0e s []).getD [] = x := ⟨_, rfl⟩
 have HSP : Hid (Calls Tryz.prog 72 #[sq s] W fun e w' => ∃ v, e = .returned (.tuple #[v, .bool f]) /\ Own rStr 9 w' W.heap.size (fun _ => False) v ws /\ Bw W w') := L0 (by have := Y9y s W HSL.o; rw [hf, hws] at this; exact this)
 have HR0 : Hid (rd0 s = ⟨ws, !f⟩) := L0 (by unfold rd0; rw [hf, hws])
 obtain ⟨⟨b, r1⟩, h1⟩ : ∃ x, atR ⟨ws, !f⟩ kwD = x := ⟨_, rfl⟩
 have HLN0 : Hid (ws.length <= 4000) := L0 (by have h := Y90 s.length s []; have e : Z12 s.length s [] = Z0e s [] := rfl; rw [e, hws] at h; simp only [L0v] at h; have := HSL.o; omega)
 have HAT1 : Hid (∀ w q, RdAt w q ⟨ws, !f⟩ -> Calls Tryz.prog 73 #[.pointer (some (zn q 0)), .string ⟨#[100, 111, 109, 97, 105, 110]⟩] w fun e w' => e = .returned (.bool b) /\ RdAt w' q r1 /\ Only q w w') := L0 fun w q hr => by have := Z3z kwD w hr; rw [h1] at this; exact this
 have HPR : Hid (Z0d s = if b then (if (Z8o r1).2.bad = true \/ 0 < (Z8o r1).2.l.length \/ Z4d (Z8o r1).1 = false then prNo 1 else ⟨(Z8o r1).1, tb0, false, 0⟩) else if (atR r1 kwT).1 then (if (Z27 (atR r1 kwT).2).2.bad = true \/ 0 < (Z27 (atR r1 kwT).2).2.l.length \/ Z0s (Z27 (atR r1 kwT).2).1 = false then prNo 1 else ⟨dm0, (Z27 (atR r1 kwT).2).1, true, 0⟩) else prNo 1) := L0 (by unfold Z0d; rw [if_neg hl, HR0.o, h1])
 have H1 := L0 h1
 clear hf hws h1 hl
 cases b
 ·obtain rfl := X4b H1.o
  obtain ⟨⟨b2, r2⟩, h2⟩ : ∃ x, atR ⟨ws, !f⟩ kwT = x := ⟨_, rfl⟩
  have HAT2 : Hid (∀ w q, RdAt w q ⟨ws, !f⟩ -> Calls Tryz.prog 73 #[.pointer (some (zn q 0)), .string ⟨#[116, 97, 98, 108, 101]⟩] w fun e w' => e = .returned (.bool b2) /\ RdAt w' q r2 /\ Only q w w') := L0 fun w q hr => by have := Z3z kwT w hr; rw [h2] at this; exact this
  have HLN2 : Hid (r2.l.length <= 4000) := L0 (by have h := Z2i ⟨ws, !f⟩ kwT; rw [h2] at h; have := HLN0.o; dsimp only at h; omega)
  have HPS : Hid (Z0d s = if b2 then (if (Z27 r2).2.bad = true \/ 0 < (Z27 r2).2.l.length \/ Z0s (Z27 r2).1 = false then prNo 1 else ⟨dm0, (Z27 r2).1, true, 0⟩) else prNo 1) := L0 (by rw [HPR.o, if_neg (by decide), h2])
  clear h2
  cases b2
  ·have HE : Hid (Z0d s = prNo 1) := L0 (by rw [HPS.o]; rfl)
   go_wp2_with (first | (go_at_call 72; (with_reducible refine HSP.o.mono ?_); rintro e w1 ⟨v1, rfl, hown1, hb1⟩; obtain ⟨A1, l1, rfl⟩ := hown1.value; obtain ⟨W2, e2, HS2⟩ := PSt.start (b := !f) (ty := 141) (HP.o.below hb1 HP.o.lt.2) (HB.o.trans (hb1.mono HB.o.size)) hown1; clear hown1 hb1) | (go_at_call 73; first | ((with_reducible refine (HAT1.o W2 _ HS2.o.rd).mono ?_); rintro e w3 ⟨rfl, hr3, o3⟩; have HS3 := L0 (HS2.o.step o3 hr3); clear hr3 o3) | ((with_reducible refine (HAT2.o w3 _ HS3.o.rd).mono ?_); rintro e w4 ⟨rfl, hr4, o4⟩; have HS4 := L0 (HS3.o.step o4 hr4); clear hr4 o4)) | (go_at_call 71; (with_reducible refine (Z34 1 w4).mono ?_); rintro e wz ⟨rfl, hbz⟩; have HPZ := L0 ((L0 HS4.o.pb).out.below hbz (L0 HS4.o.pb).out.lt.2); obtain ⟨WZ, eZ, n0, n1, n2, m0, m1, m2, m3, m4, HBZ, _⟩ := HPZ.o.store dm0 [] 0 false (nl) (nl); simp only [dm0] at eZ n0 n1 n2; have HBF : Hid (Bw w WZ) := L0 (HBZ.o _ (L0g _) _ ((L0 HS4.o.bel).out.trans (hbz.mono (L0 HS4.o.bel).out.size))); have a0 := HPZ.o.a0; have a1 := HPZ.o.a1; have a2 := HPZ.o.a2; have b0 := HPZ.o.b0; have b1 := HPZ.o.b1; have b2 := HPZ.o.b2; have b3 := HPZ.o.b3; have b4 := HPZ.o.b4; have x0 := HPZ.o.x 0; have x1 := HPZ.o.x 1; have x2 := HPZ.o.x 2; have y0 := HPZ.o.y 0; have y1 := HPZ.o.y 1; have y2 := HPZ.o.y 2; have y3 := HPZ.o.y 3; have y4 := HPZ.o.y 4; clear hbz))
   refine bodyPost_ret (by simp [results, Tryz.results44, go_sem, n0, n1, n2, m0, m1, m2, m3, m4]; rfl) rfl ?_
   exact HZ.o _ _ _ HE.o rfl HBF.o
  obtain ⟨⟨tt, ⟨l5, b5⟩⟩, htb⟩ : ∃ x, Z27 r2 = x := ⟨_, rfl⟩
  have HTAB : Hid (∀ {q : Nat} w', RdAt w' q r2 -> (∀ w'', Only q w' w'' -> Bw w w'') -> Calls Tryz.prog 78 #[.pointer (some (zn q 0))] w' fun e w'' => ∃ v u, e = .returned (.agg #[sq tt.name, .int .i64 tt.pol, .bool tt.comp, v, u]) /\ Own rStr 9 w'' w'.heap.size (fun _ => False) v tt.ins /\ Own rRl 69 w'' w'.heap.size (fun _ => False) u tt.rules /\ RdAt w'' q ⟨l5, b5⟩ /\ Only q w' w'') := L0 fun w' hr ho => by have := Y7o w' hr HLN2.o (fun w'' h => HW.o.below (ho w'' h)) (fun w'' h => HPO.o.below (ho w'' h)); rw [htb] at this; exact this
  have HTN : Hid (∀ {q : Nat} w', RdAt w' q r2 -> tt.name.length <= 140737488355328) := L0 fun w' hr => by have h := Y05 hr; have e : (Z27 r2).1.name = (Z2u r2).1 := rfl; rw [htb] at e; dsimp only at e; rw [e]; exact h
  have HTP : Hid (InI tt.pol) := L0 (by have h := X07 (Z3j (Z2u r2).2).1; have e : (Z27 r2).1.pol = Z7w pols (Z3j (Z2u r2).2).1 := rfl; rw [htb] at e; dsimp only at e; rw [e]; unfold InI; omega)
  have HPT : Hid (Z0d s = if b5 = true \/ 0 < l5.length \/ Z0s tt = false then prNo 1 else ⟨dm0, tt, true, 0⟩) := L0 (by rw [HPS.o, if_pos rfl, htb])
  clear htb
  cases b5
  ·by_cases h5 : l5 = []
   ·subst h5
    obtain ⟨g, hg⟩ : ∃ x, Z0s tt = x := ⟨_, rfl⟩
    have HG := L0 hg
    cases g
    ·have HE : Hid (Z0d s = prNo 1) := L0 (by rw [HPT.o, if_pos (.inr (.inr hg))])
     clear hg
     go_wp2_with (first | (go_at_call 72; (with_reducible refine HSP.o.mono ?_); rintro e w1 ⟨v1, rfl, hown1, hb1⟩; obtain ⟨A1, l1, rfl⟩ := hown1.value; obtain ⟨W2, e2, HS2⟩ := PSt.start (b := !f) (ty := 141) (HP.o.below hb1 HP.o.lt.2) (HB.o.trans (hb1.mono HB.o.size)) hown1; clear hown1 hb1) | (go_at_call 73; first | ((with_reducible refine (HAT1.o W2 _ HS2.o.rd).mono ?_); rintro e w3 ⟨rfl, hr3, o3⟩; have HS3 := L0 (HS2.o.step o3 hr3); clear hr3 o3) | ((with_reducible refine (HAT2.o w3 _ HS3.o.rd).mono ?_); rintro e w4 ⟨rfl, hr4, o4⟩; have HS4 := L0 (HS3.o.step o4 hr4); clear hr4 o4)) | (go_at_call 78; (with_reducible refine (HTAB.o w4 HS4.o.rd HS4.o.all).mono ?_); rintro e w5 ⟨v5, u5, rfl, hv5, hu5, hr5, o5⟩; obtain ⟨Av, lv, rfl⟩ := hv5.value; obtain ⟨Au, lu, rfl⟩ := hu5.value; obtain ⟨W6, e6, HS6, HT6, HC6, HL6, k1, A9, c9, k0⟩ := (HS4.o.step o5 hr5).box5 66 (HTN.o w4 HS4.o.rd) HTP.o hv5 hu5; have j0 := HC6.o.1; have j1 := HC6.o.2.1; have j2 := HC6.o.2.2.1; have j3 := HC6.o.2.2.2.1; have j4 := HC6.o.2.2.2.2; have HO45 : Hid (w4.heap.size <= w5.heap.size) := L0 o5.size; clear hv5 hu5 hr5 o5) | (go_at_call 79; (with_reducible refine (Y1s W6 HT6.o HG.o).mono ?_); rintro e w7 ⟨rfl, hb7⟩; have HS7 := L0 (HS6.o.belowS hb7); have HT7 := L0 (Rd.below HT6.o hb7); obtain ⟨t0, t1, t2, t3, t4⟩ := Y98 HC6.o hb7 HL6.o; clear hb7) | (go_at_call 71; (with_reducible refine (Z34 1 w7).mono ?_); rintro e wz ⟨rfl, hbz⟩; have HPZ := L0 ((L0 HS7.o.pb).out.below hbz (L0 HS7.o.pb).out.lt.2); obtain ⟨WZ, eZ, n0, n1, n2, m0, m1, m2, m3, m4, HBZ, _⟩ := HPZ.o.store dm0 [] 0 false (nl) (nl); simp only [dm0] at eZ n0 n1 n2; have HBF : Hid (Bw w WZ) := L0 (HBZ.o _ (L0g _) _ ((L0 HS7.o.bel).out.trans (hbz.mono (L0 HS7.o.bel).out.size))); have a0 := HPZ.o.a0; have a1 := HPZ.o.a1; have a2 := HPZ.o.a2; have b0 := HPZ.o.b0; have b1 := HPZ.o.b1; have b2 := HPZ.o.b2; have b3 := HPZ.o.b3; have b4 := HPZ.o.b4; have x0 := HPZ.o.x 0; have x1 := HPZ.o.x 1; have x2 := HPZ.o.x 2; have y0 := HPZ.o.y 0; have y1 := HPZ.o.y 1; have y2 := HPZ.o.y 2; have y3 := HPZ.o.y 3; have y4 := HPZ.o.y 4; clear hbz))
     refine bodyPost_ret (by simp [results, Tryz.results44, go_sem, n0, n1, n2, m0, m1, m2, m3, m4]; rfl) rfl ?_
     exact HZ.o _ _ _ HE.o rfl HBF.o
    have HE : Hid (Z0d s = ⟨dm0, tt, true, 0⟩) := L0 (by rw [HPT.o, if_neg (by simp [hg])])
    clear hg
    go_wp2_with (first | (go_at_call 72; (with_reducible refine HSP.o.mono ?_); rintro e w1 ⟨v1, rfl, hown1, hb1⟩; obtain ⟨A1, l1, rfl⟩ := hown1.value; obtain ⟨W2, e2, HS2⟩ := PSt.start (b := !f) (ty := 141) (HP.o.below hb1 HP.o.lt.2) (HB.o.trans (hb1.mono HB.o.size)) hown1; clear hown1 hb1) | (go_at_call 73; first | ((with_reducible refine (HAT1.o W2 _ HS2.o.rd).mono ?_); rintro e w3 ⟨rfl, hr3, o3⟩; have HS3 := L0 (HS2.o.step o3 hr3); clear hr3 o3) | ((with_reducible refine (HAT2.o w3 _ HS3.o.rd).mono ?_); rintro e w4 ⟨rfl, hr4, o4⟩; have HS4 := L0 (HS3.o.step o4 hr4); clear hr4 o4)) | (go_at_call 78; (with_reducible refine (HTAB.o w4 HS4.o.rd HS4.o.all).mono ?_); rintro e w5 ⟨v5, u5, rfl, hv5, hu5, hr5, o5⟩; obtain ⟨Av, lv, rfl⟩ := hv5.value; obtain ⟨Au, lu, rfl⟩ := hu5.value; obtain ⟨W6, e6, HS6, HT6, HC6, HL6, k1, A9, c9, k0⟩ := (HS4.o.step o5 hr5).box5 66 (HTN.o w4 HS4.o.rd) HTP.o hv5 hu5; have j0 := HC6.o.1; have j1 := HC6.o.2.1; have j2 := HC6.o.2.2.1; have j3 := HC6.o.2.2.2.1; have j4 := HC6.o.2.2.2.2; have HO45 : Hid (w4.heap.size <= w5.heap.size) := L0 o5.size; clear hv5 hu5 hr5 o5) | (go_at_call 79; (with_reducible refine (Y1s W6 HT6.o HG.o).mono ?_); rintro e w7 ⟨rfl, hb7⟩; have HS7 := L0 (HS6.o.belowS hb7); have HT7 := L0 (Rd.below HT6.o hb7); obtain ⟨t0, t1, t2, t3, t4⟩ := Y98 HC6.o hb7 HL6.o; clear hb7))
    obtain ⟨WZ, eZ, n0, n1, n2, m0, m1, m2, m3, m4, HBZ, HKZ⟩ := HS7.o.pb.store dm0 tt.name tt.pol tt.comp (.slice Av tt.ins.length lv) (.slice Au tt.rules.length lu)
    simp only [dm0] at eZ n0 n1 n2
    have HBF : Hid (Bw w WZ.drew) := L0 (Y8o (HBZ.o _ (L0g _) _ HS7.o.bel))
    have hlts : w.heap.size + 1 < w4.heap.size /\ w4.heap.size <= w5.heap.size := ⟨Nat.lt_trans HS4.o.hq HS4.o.rd.lt, HO45.o⟩
    have HTZ : Hid (rTb.rel WZ.drew (Up (fun _ => False) w.heap.size) [sq tt.name, .int .i64 tt.pol, .bool tt.comp, .slice Av tt.ins.length lv, .slice Au tt.rules.length lu] tt) := L0 (Rd.drew (Rd.upup (rTb.keep HT7.o (HKZ.o _ (fun h => h.elim id fun h => by omega) (fun h => h.elim id fun h => by omega))) (by omega)))
    have hne1 : ¬ (w.heap.size = w5.heap.size) := by omega
    have hne2 : ¬ (w5.heap.size = w.heap.size) := by omega
    have a0 := HS7.o.pb.a0
    have a1 := HS7.o.pb.a1
    have a2 := HS7.o.pb.a2
    have b0 := HS7.o.pb.b0
    have b1 := HS7.o.pb.b1
    have b2 := HS7.o.pb.b2
    have b3 := HS7.o.pb.b3
    have b4 := HS7.o.pb.b4
    have x0 := HS7.o.pb.x 0
    have x1 := HS7.o.pb.x 1
    have x2 := HS7.o.pb.x 2
    have y0 := HS7.o.pb.y 0
    have y1 := HS7.o.pb.y 1
    have y2 := HS7.o.pb.y 2
    have y3 := HS7.o.pb.y 3
    have y4 := HS7.o.pb.y 4
    clear hlts
    go_region
    all_goals
     go_wp2
     refine bodyPost_ret (by simp [results, Tryz.results44, go_sem, n0, n1, n2, m0, m1, m2, m3, m4]; rfl) rfl ?_
     exact ⟨_, _, by rw [HE.o]; rfl, by rw [HE.o]; exact HTZ.o, HBF.o⟩
   have hl5 : (0 : Int) < l5.length := by have := L4c.2 h5; omega
   have HE : Hid (Z0d s = prNo 1) := L0 (by rw [HPT.o, if_pos (.inr (.inl (by omega)))])
   have hl6 : 0 < l5.length := L4c.2 h5
   go_wp2_with (first | (go_at_call 72; (with_reducible refine HSP.o.mono ?_); rintro e w1 ⟨v1, rfl, hown1, hb1⟩; obtain ⟨A1, l1, rfl⟩ := hown1.value; obtain ⟨W2, e2, HS2⟩ := PSt.start (b := !f) (ty := 141) (HP.o.below hb1 HP.o.lt.2) (HB.o.trans (hb1.mono HB.o.size)) hown1; clear hown1 hb1) | (go_at_call 73; first | ((with_reducible refine (HAT1.o W2 _ HS2.o.rd).mono ?_); rintro e w3 ⟨rfl, hr3, o3⟩; have HS3 := L0 (HS2.o.step o3 hr3); clear hr3 o3) | ((with_reducible refine (HAT2.o w3 _ HS3.o.rd).mono ?_); rintro e w4 ⟨rfl, hr4, o4⟩; have HS4 := L0 (HS3.o.step o4 hr4); clear hr4 o4)) | (go_at_call 78; (with_reducible refine (HTAB.o w4 HS4.o.rd HS4.o.all).mono ?_); rintro e w5 ⟨v5, u5, rfl, hv5, hu5, hr5, o5⟩; obtain ⟨Av, lv, rfl⟩ := hv5.value; obtain ⟨Au, lu, rfl⟩ := hu5.value; obtain ⟨W6, e6, HS6, HT6, HC6, HL6, k1, A9, c9, k0⟩ := (HS4.o.step o5 hr5).box5 66 (HTN.o w4 HS4.o.rd) HTP.o hv5 hu5; have j0 := HC6.o.1; have j1 := HC6.o.2.1; have j2 := HC6.o.2.2.1; have j3 := HC6.o.2.2.2.1; have j4 := HC6.o.2.2.2.2; have HO45 : Hid (w4.heap.size <= w5.heap.size) := L0 o5.size; clear hv5 hu5 hr5 o5) | (go_at_call 71; (with_reducible refine (Z34 1 W6).mono ?_); rintro e wz ⟨rfl, hbz⟩; have HPZ := L0 ((L0 HS6.o.pb).out.below hbz (L0 HS6.o.pb).out.lt.2); obtain ⟨WZ, eZ, n0, n1, n2, m0, m1, m2, m3, m4, HBZ, _⟩ := HPZ.o.store dm0 [] 0 false (nl) (nl); simp only [dm0] at eZ n0 n1 n2; have HBF : Hid (Bw w WZ) := L0 (HBZ.o _ (L0g _) _ ((L0 HS6.o.bel).out.trans (hbz.mono (L0 HS6.o.bel).out.size))); have a0 := HPZ.o.a0; have a1 := HPZ.o.a1; have a2 := HPZ.o.a2; have b0 := HPZ.o.b0; have b1 := HPZ.o.b1; have b2 := HPZ.o.b2; have b3 := HPZ.o.b3; have b4 := HPZ.o.b4; have x0 := HPZ.o.x 0; have x1 := HPZ.o.x 1; have x2 := HPZ.o.x 2; have y0 := HPZ.o.y 0; have y1 := HPZ.o.y 1; have y2 := HPZ.o.y 2; have y3 := HPZ.o.y 3; have y4 := HPZ.o.y 4; clear hbz))
   refine bodyPost_ret (by simp [results, Tryz.results44, go_sem, n0, n1, n2, m0, m1, m2, m3, m4]; rfl) rfl ?_
   exact HZ.o _ _ _ HE.o rfl HBF.o
  have HE : Hid (Z0d s = prNo 1) := L0 (by rw [HPT.o, if_pos (.inl rfl)])
  go_wp2_with (first | (go_at_call 72; (with_reducible refine HSP.o.mono ?_); rintro e w1 ⟨v1, rfl, hown1, hb1⟩; obtain ⟨A1, l1, rfl⟩ := hown1.value; obtain ⟨W2, e2, HS2⟩ := PSt.start (b := !f) (ty := 141) (HP.o.below hb1 HP.o.lt.2) (HB.o.trans (hb1.mono HB.o.size)) hown1; clear hown1 hb1) | (go_at_call 73; first | ((with_reducible refine (HAT1.o W2 _ HS2.o.rd).mono ?_); rintro e w3 ⟨rfl, hr3, o3⟩; have HS3 := L0 (HS2.o.step o3 hr3); clear hr3 o3) | ((with_reducible refine (HAT2.o w3 _ HS3.o.rd).mono ?_); rintro e w4 ⟨rfl, hr4, o4⟩; have HS4 := L0 (HS3.o.step o4 hr4); clear hr4 o4)) | (go_at_call 78; (with_reducible refine (HTAB.o w4 HS4.o.rd HS4.o.all).mono ?_); rintro e w5 ⟨v5, u5, rfl, hv5, hu5, hr5, o5⟩; obtain ⟨Av, lv, rfl⟩ := hv5.value; obtain ⟨Au, lu, rfl⟩ := hu5.value; obtain ⟨W6, e6, HS6, HT6, HC6, HL6, k1, A9, c9, k0⟩ := (HS4.o.step o5 hr5).box5 66 (HTN.o w4 HS4.o.rd) HTP.o hv5 hu5; have j0 := HC6.o.1; have j1 := HC6.o.2.1; have j2 := HC6.o.2.2.1; have j3 := HC6.o.2.2.2.1; have j4 := HC6.o.2.2.2.2; have HO45 : Hid (w4.heap.size <= w5.heap.size) := L0 o5.size; clear hv5 hu5 hr5 o5) | (go_at_call 71; (with_reducible refine (Z34 1 W6).mono ?_); rintro e wz ⟨rfl, hbz⟩; have HPZ := L0 ((L0 HS6.o.pb).out.below hbz (L0 HS6.o.pb).out.lt.2); obtain ⟨WZ, eZ, n0, n1, n2, m0, m1, m2, m3, m4, HBZ, _⟩ := HPZ.o.store dm0 [] 0 false (nl) (nl); simp only [dm0] at eZ n0 n1 n2; have HBF : Hid (Bw w WZ) := L0 (HBZ.o _ (L0g _) _ ((L0 HS6.o.bel).out.trans (hbz.mono (L0 HS6.o.bel).out.size))); have a0 := HPZ.o.a0; have a1 := HPZ.o.a1; have a2 := HPZ.o.a2; have b0 := HPZ.o.b0; have b1 := HPZ.o.b1; have b2 := HPZ.o.b2; have b3 := HPZ.o.b3; have b4 := HPZ.o.b4; have x0 := HPZ.o.x 0; have x1 := HPZ.o.x 1; have x2 := HPZ.o.x 2; have y0 := HPZ.o.y 0; have y1 := HPZ.o.y 1; have y2 := HPZ.o.y 2; have y3 := HPZ.o.y 3; have y4 := HPZ.o.y 4; clear hbz))
  refine bodyPost_ret (by simp [results, Tryz.results44, go_sem, n0, n1, n2, m0, m1, m2, m3, m4]; rfl) rfl ?_
  exact HZ.o _ _ _ HE.o rfl HBF.o
 obtain ⟨⟨nm, r2⟩, g1⟩ : ∃ x, Z2u r1 = x := ⟨_, rfl⟩
 obtain ⟨⟨lo, r3⟩, g2⟩ : ∃ x, Z0l r2 = x := ⟨_, rfl⟩
 obtain ⟨r4, g3⟩ : ∃ x, Z28 r3 [46, 46] = x := ⟨_, rfl⟩
 obtain ⟨⟨up, ⟨l5, b5⟩⟩, g4⟩ : ∃ x, Z0l r4 = x := ⟨_, rfl⟩
 have hdr : Z8o r1 = (⟨nm, lo, up⟩, ⟨l5, b5⟩) := by unfold Z8o; simp only [g1, g2, g3, g4]
 have HNM : Hid (∀ w q, RdAt w q r1 -> Calls Tryz.prog 74 #[.pointer (some (zn q 0))] w fun e w' => e = .returned (sq nm) /\ RdAt w' q r2 /\ Only q w w') := L0 fun w q hr => by have := Z94 w hr; rw [g1] at this; exact this
 have HNU1 : Hid (∀ w' q, RdAt w' q r2 -> (∀ w'', Only q w' w'' -> Bw w w'') -> Calls Tryz.prog 75 #[.pointer (some (zn q 0))] w' fun e w'' => e = .returned (.int .i64 lo) /\ RdAt w'' q r3 /\ Only q w' w'') := L0 fun w' q hr ho => by have := Z3s w' hr (fun w'' h => HW.o.below (ho w'' h)); rw [g2] at this; exact this
 have HNU2 : Hid (∀ w' q, RdAt w' q r4 -> (∀ w'', Only q w' w'' -> Bw w w'') -> Calls Tryz.prog 75 #[.pointer (some (zn q 0))] w' fun e w'' => e = .returned (.int .i64 up) /\ RdAt w'' q ⟨l5, b5⟩ /\ Only q w' w'') := L0 fun w' q hr ho => by have := Z3s w' hr (fun w'' h => HW.o.below (ho w'' h)); rw [g4] at this; exact this
 have HTK : Hid (∀ w q, RdAt w q r3 -> Calls Tryz.prog 76 #[.pointer (some (zn q 0)), .string ⟨#[46, 46]⟩] w fun e w' => e = .returned (.tuple #[]) /\ RdAt w' q r4 /\ Only q w w') := L0 fun w q hr => by have := Z6e [46, 46] w hr; rw [g3] at this; exact this
 have HPD : Hid (Z0d s = if b5 = true \/ 0 < l5.length \/ Z4d ⟨nm, lo, up⟩ = false then prNo 1 else ⟨⟨nm, lo, up⟩, tb0, false, 0⟩) := L0 (by rw [HPR.o, if_pos rfl, hdr])
 have HNLW : Hid (∀ w q, RdAt w q r1 -> nm.length <= 140737488355328) := L0 fun w q hr => by have h := Y05 hr; rw [g1] at h; exact h
 clear g1 g2 g3 g4 hdr
 cases b5
 ·by_cases h5 : l5 = []
  ·subst h5
   obtain ⟨g, hg⟩ : ∃ x, Z4d ⟨nm, lo, up⟩ = x := ⟨_, rfl⟩
   have HG := L0 hg
   cases g
   ·have HE : Hid (Z0d s = prNo 1) := L0 (by rw [HPD.o, if_pos (.inr (.inr hg))])
    clear hg
    go_wp2_with (first | (go_at_call 72; (with_reducible refine HSP.o.mono ?_); rintro e w1 ⟨v1, rfl, hown1, hb1⟩; obtain ⟨A1, l1, rfl⟩ := hown1.value; obtain ⟨W2, e2, HS2⟩ := PSt.start (b := !f) (ty := 141) (HP.o.below hb1 HP.o.lt.2) (HB.o.trans (hb1.mono HB.o.size)) hown1; clear hown1 hb1) | (go_at_call 73; (with_reducible refine (HAT1.o W2 _ HS2.o.rd).mono ?_); rintro e w3 ⟨rfl, hr3, o3⟩; have HS3 := L0 (HS2.o.step o3 hr3); clear hr3 o3) | (go_at_call 74; (with_reducible refine (HNM.o w3 _ HS3.o.rd).mono ?_); rintro e w4 ⟨rfl, hr4, o4⟩; have HS4 := L0 (HS3.o.step o4 hr4); clear hr4 o4) | (go_at_call 75; first | ((with_reducible refine (HNU1.o w4 _ HS4.o.rd HS4.o.all).mono ?_); rintro e w5 ⟨rfl, hr5, o5⟩; obtain ⟨W6, e6, z6, k6, W7, e7, HS7, HC7, HL7⟩ := (HS4.o.step o5 hr5).box3 nm lo 63; clear hr5 o5) | ((with_reducible refine (HNU2.o w8 _ HS8.o.rd HS8.o.all).mono ?_); rintro e w9 ⟨rfl, hr9, o9⟩; have hs9 := HS8.o.step o9 hr9; obtain ⟨⟨p0, p1, p2, pz⟩, hl9⟩ := Z5o HC8.o o9 HL8.o; obtain ⟨W10, e10, HS10, g0, g1, g2⟩ := hs9.hi hl9.1 (.int .i64 up) p0 p1 p2; obtain ⟨A9, c9, kq0, kq1, _⟩ := id HS10.o.rd; have HG10 := L0 (And.intro g0 (And.intro g1 g2)); have HLB := L0 hl9.1; clear hr9 o9 hs9 hl9)) | (go_at_call 76; (with_reducible refine (HTK.o W7 _ HS7.o.rd).mono ?_); rintro e w8 ⟨rfl, hr8, o8⟩; obtain ⟨hc8, hl8⟩ := Z5o HC7.o o8 HL7.o; have HC8 := L0 hc8; have HL8 := L0 hl8; have HS8 := L0 (HS7.o.step o8 hr8); clear hr8 o8 hc8 hl8) | (go_at_call 77; (with_reducible refine (Z8c (d := ⟨nm, lo, up⟩) W10 (HNLW.o w3 _ HS3.o.rd) HG.o).mono ?_); rintro e w11 ⟨rfl, hb11⟩; have HS11 := L0 (HS10.o.belowS hb11); have hlb := L0d _ _ g0; have q0 := (hb11.ce 0 hlb).trans g0; have q1 := (hb11.ce 1 hlb).trans g1; have q2 := (hb11.ce 2 hlb).trans g2; clear hb11 hlb) | (go_at_call 71; (with_reducible refine (Z34 1 w11).mono ?_); rintro e wz ⟨rfl, hbz⟩; have HPZ := L0 ((L0 HS11.o.pb).out.below hbz (L0 HS11.o.pb).out.lt.2); obtain ⟨WZ, eZ, n0, n1, n2, m0, m1, m2, m3, m4, HBZ, _⟩ := HPZ.o.store dm0 [] 0 false (nl) (nl); simp only [dm0] at eZ n0 n1 n2; have HBF : Hid (Bw w WZ) := L0 (HBZ.o _ (L0g _) _ ((L0 HS11.o.bel).out.trans (hbz.mono (L0 HS11.o.bel).out.size))); have a0 := HPZ.o.a0; have a1 := HPZ.o.a1; have a2 := HPZ.o.a2; have b0 := HPZ.o.b0; have b1 := HPZ.o.b1; have b2 := HPZ.o.b2; have b3 := HPZ.o.b3; have b4 := HPZ.o.b4; have x0 := HPZ.o.x 0; have x1 := HPZ.o.x 1; have x2 := HPZ.o.x 2; have y0 := HPZ.o.y 0; have y1 := HPZ.o.y 1; have y2 := HPZ.o.y 2; have y3 := HPZ.o.y 3; have y4 := HPZ.o.y 4; clear hbz))
    refine bodyPost_ret (by simp [results, Tryz.results44, go_sem, n0, n1, n2, m0, m1, m2, m3, m4]; rfl) rfl ?_
    exact HZ.o _ _ _ HE.o rfl HBF.o
   have HE : Hid (Z0d s = ⟨⟨nm, lo, up⟩, tb0, false, 0⟩) := L0 (by rw [HPD.o, if_neg (by simp [hg])])
   clear hg
   go_wp2_with (first | (go_at_call 72; (with_reducible refine HSP.o.mono ?_); rintro e w1 ⟨v1, rfl, hown1, hb1⟩; obtain ⟨A1, l1, rfl⟩ := hown1.value; obtain ⟨W2, e2, HS2⟩ := PSt.start (b := !f) (ty := 141) (HP.o.below hb1 HP.o.lt.2) (HB.o.trans (hb1.mono HB.o.size)) hown1; clear hown1 hb1) | (go_at_call 73; (with_reducible refine (HAT1.o W2 _ HS2.o.rd).mono ?_); rintro e w3 ⟨rfl, hr3, o3⟩; have HS3 := L0 (HS2.o.step o3 hr3); clear hr3 o3) | (go_at_call 74; (with_reducible refine (HNM.o w3 _ HS3.o.rd).mono ?_); rintro e w4 ⟨rfl, hr4, o4⟩; have HS4 := L0 (HS3.o.step o4 hr4); clear hr4 o4) | (go_at_call 75; first | ((with_reducible refine (HNU1.o w4 _ HS4.o.rd HS4.o.all).mono ?_); rintro e w5 ⟨rfl, hr5, o5⟩; obtain ⟨W6, e6, z6, k6, W7, e7, HS7, HC7, HL7⟩ := (HS4.o.step o5 hr5).box3 nm lo 63; clear hr5 o5) | ((with_reducible refine (HNU2.o w8 _ HS8.o.rd HS8.o.all).mono ?_); rintro e w9 ⟨rfl, hr9, o9⟩; have hs9 := HS8.o.step o9 hr9; obtain ⟨⟨p0, p1, p2, pz⟩, hl9⟩ := Z5o HC8.o o9 HL8.o; obtain ⟨W10, e10, HS10, g0, g1, g2⟩ := hs9.hi hl9.1 (.int .i64 up) p0 p1 p2; obtain ⟨A9, c9, kq0, kq1, _⟩ := id HS10.o.rd; have HG10 := L0 (And.intro g0 (And.intro g1 g2)); have HLB := L0 hl9.1; clear hr9 o9 hs9 hl9)) | (go_at_call 76; (with_reducible refine (HTK.o W7 _ HS7.o.rd).mono ?_); rintro e w8 ⟨rfl, hr8, o8⟩; obtain ⟨hc8, hl8⟩ := Z5o HC7.o o8 HL7.o; have HC8 := L0 hc8; have HL8 := L0 hl8; have HS8 := L0 (HS7.o.step o8 hr8); clear hr8 o8 hc8 hl8) | (go_at_call 77; (with_reducible refine (Z8c (d := ⟨nm, lo, up⟩) W10 (HNLW.o w3 _ HS3.o.rd) HG.o).mono ?_); rintro e w11 ⟨rfl, hb11⟩; have HS11 := L0 (HS10.o.belowS hb11); have hlb := L0d _ _ g0; have q0 := (hb11.ce 0 hlb).trans g0; have q1 := (hb11.ce 1 hlb).trans g1; have q2 := (hb11.ce 2 hlb).trans g2; obtain ⟨WZ, eZ, n0, n1, n2, m0, m1, m2, m3, m4, HBZ, HKZ⟩ := HS11.o.pb.store ⟨nm, lo, up⟩ [] 0 false (nl) (nl); have HBF : Hid (Bw w WZ) := L0 (HBZ.o _ (L0g _) _ HS11.o.bel); have a0 := HS11.o.pb.a0; have a1 := HS11.o.pb.a1; have a2 := HS11.o.pb.a2; have b0 := HS11.o.pb.b0; have b1 := HS11.o.pb.b1; have b2 := HS11.o.pb.b2; have b3 := HS11.o.pb.b3; have b4 := HS11.o.pb.b4; have x0 := HS11.o.pb.x 0; have x1 := HS11.o.pb.x 1; have x2 := HS11.o.pb.x 2; have y0 := HS11.o.pb.y 0; have y1 := HS11.o.pb.y 1; have y2 := HS11.o.pb.y 2; have y3 := HS11.o.pb.y 3; have y4 := HS11.o.pb.y 4; clear hb11 hlb))
   refine bodyPost_ret (by simp [results, Tryz.results44, go_sem, n0, n1, n2, m0, m1, m2, m3, m4]; rfl) rfl ?_
   exact ⟨_, _, by rw [HE.o]; rfl, by rw [HE.o]; exact ⟨_, _, rfl, by show ([] : Txt).length <= _; decide, by show InI 0; unfold InI; decide, (Own.nil rStr 9 WZ w.heap.size (fun _ => False)).rel (by decide), (Own.nil rRl 69 WZ w.heap.size (fun _ => False)).rel (by decide)⟩, HBF.o⟩
  have hl5 : (0 : Int) < l5.length := by have := L4c.2 h5; omega
  have HE : Hid (Z0d s = prNo 1) := L0 (by rw [HPD.o, if_pos (.inr (.inl (by omega)))])
  have hl6 : 0 < l5.length := L4c.2 h5
  go_wp2_with (first | (go_at_call 72; (with_reducible refine HSP.o.mono ?_); rintro e w1 ⟨v1, rfl, hown1, hb1⟩; obtain ⟨A1, l1, rfl⟩ := hown1.value; obtain ⟨W2, e2, HS2⟩ := PSt.start (b := !f) (ty := 141) (HP.o.below hb1 HP.o.lt.2) (HB.o.trans (hb1.mono HB.o.size)) hown1; clear hown1 hb1) | (go_at_call 73; (with_reducible refine (HAT1.o W2 _ HS2.o.rd).mono ?_); rintro e w3 ⟨rfl, hr3, o3⟩; have HS3 := L0 (HS2.o.step o3 hr3); clear hr3 o3) | (go_at_call 74; (with_reducible refine (HNM.o w3 _ HS3.o.rd).mono ?_); rintro e w4 ⟨rfl, hr4, o4⟩; have HS4 := L0 (HS3.o.step o4 hr4); clear hr4 o4) | (go_at_call 75; first | ((with_reducible refine (HNU1.o w4 _ HS4.o.rd HS4.o.all).mono ?_); rintro e w5 ⟨rfl, hr5, o5⟩; obtain ⟨W6, e6, z6, k6, W7, e7, HS7, HC7, HL7⟩ := (HS4.o.step o5 hr5).box3 nm lo 63; clear hr5 o5) | ((with_reducible refine (HNU2.o w8 _ HS8.o.rd HS8.o.all).mono ?_); rintro e w9 ⟨rfl, hr9, o9⟩; have hs9 := HS8.o.step o9 hr9; obtain ⟨⟨p0, p1, p2, pz⟩, hl9⟩ := Z5o HC8.o o9 HL8.o; obtain ⟨W10, e10, HS10, g0, g1, g2⟩ := hs9.hi hl9.1 (.int .i64 up) p0 p1 p2; obtain ⟨A9, c9, kq0, kq1, _⟩ := id HS10.o.rd; have HG10 := L0 (And.intro g0 (And.intro g1 g2)); have HLB := L0 hl9.1; clear hr9 o9 hs9 hl9)) | (go_at_call 76; (with_reducible refine (HTK.o W7 _ HS7.o.rd).mono ?_); rintro e w8 ⟨rfl, hr8, o8⟩; obtain ⟨hc8, hl8⟩ := Z5o HC7.o o8 HL7.o; have HC8 := L0 hc8; have HL8 := L0 hl8; have HS8 := L0 (HS7.o.step o8 hr8); clear hr8 o8 hc8 hl8) | (go_at_call 71; (with_reducible refine (Z34 1 W10).mono ?_); rintro e wz ⟨rfl, hbz⟩; have HPZ := L0 ((L0 HS10.o.pb).out.below hbz (L0 HS10.o.pb).out.lt.2); obtain ⟨WZ, eZ, n0, n1, n2, m0, m1, m2, m3, m4, HBZ, _⟩ := HPZ.o.store dm0 [] 0 false (nl) (nl); simp only [dm0] at eZ n0 n1 n2; have HBF : Hid (Bw w WZ) := L0 (HBZ.o _ (L0g _) _ ((L0 HS10.o.bel).out.trans (hbz.mono (L0 HS10.o.bel).out.size))); have a0 := HPZ.o.a0; have a1 := HPZ.o.a1; have a2 := HPZ.o.a2; have b0 := HPZ.o.b0; have b1 := HPZ.o.b1; have b2 := HPZ.o.b2; have b3 := HPZ.o.b3; have b4 := HPZ.o.b4; have x0 := HPZ.o.x 0; have x1 := HPZ.o.x 1; have x2 := HPZ.o.x 2; have y0 := HPZ.o.y 0; have y1 := HPZ.o.y 1; have y2 := HPZ.o.y 2; have y3 := HPZ.o.y 3; have y4 := HPZ.o.y 4; clear hbz))
  refine bodyPost_ret (by simp [results, Tryz.results44, go_sem, n0, n1, n2, m0, m1, m2, m3, m4]; rfl) rfl ?_
  exact HZ.o _ _ _ HE.o rfl HBF.o
 have HE : Hid (Z0d s = prNo 1) := L0 (by rw [HPD.o, if_pos (.inl rfl)])
 go_wp2_with (first | (go_at_call 72; (with_reducible refine HSP.o.mono ?_); rintro e w1 ⟨v1, rfl, hown1, hb1⟩; obtain ⟨A1, l1, rfl⟩ := hown1.value; obtain ⟨W2, e2, HS2⟩ := PSt.start (b := !f) (ty := 141) (HP.o.below hb1 HP.o.lt.2) (HB.o.trans (hb1.mono HB.o.size)) hown1; clear hown1 hb1) | (go_at_call 73; (with_reducible refine (HAT1.o W2 _ HS2.o.rd).mono ?_); rintro e w3 ⟨rfl, hr3, o3⟩; have HS3 := L0 (HS2.o.step o3 hr3); clear hr3 o3) | (go_at_call 74; (with_reducible refine (HNM.o w3 _ HS3.o.rd).mono ?_); rintro e w4 ⟨rfl, hr4, o4⟩; have HS4 := L0 (HS3.o.step o4 hr4); clear hr4 o4) | (go_at_call 75; first | ((with_reducible refine (HNU1.o w4 _ HS4.o.rd HS4.o.all).mono ?_); rintro e w5 ⟨rfl, hr5, o5⟩; obtain ⟨W6, e6, z6, k6, W7, e7, HS7, HC7, HL7⟩ := (HS4.o.step o5 hr5).box3 nm lo 63; clear hr5 o5) | ((with_reducible refine (HNU2.o w8 _ HS8.o.rd HS8.o.all).mono ?_); rintro e w9 ⟨rfl, hr9, o9⟩; have hs9 := HS8.o.step o9 hr9; obtain ⟨⟨p0, p1, p2, pz⟩, hl9⟩ := Z5o HC8.o o9 HL8.o; obtain ⟨W10, e10, HS10, g0, g1, g2⟩ := hs9.hi hl9.1 (.int .i64 up) p0 p1 p2; obtain ⟨A9, c9, kq0, kq1, _⟩ := id HS10.o.rd; have HG10 := L0 (And.intro g0 (And.intro g1 g2)); have HLB := L0 hl9.1; clear hr9 o9 hs9 hl9)) | (go_at_call 76; (with_reducible refine (HTK.o W7 _ HS7.o.rd).mono ?_); rintro e w8 ⟨rfl, hr8, o8⟩; obtain ⟨hc8, hl8⟩ := Z5o HC7.o o8 HL7.o; have HC8 := L0 hc8; have HL8 := L0 hl8; have HS8 := L0 (HS7.o.step o8 hr8); clear hr8 o8 hc8 hl8) | (go_at_call 71; (with_reducible refine (Z34 1 W10).mono ?_); rintro e wz ⟨rfl, hbz⟩; have HPZ := L0 ((L0 HS10.o.pb).out.below hbz (L0 HS10.o.pb).out.lt.2); obtain ⟨WZ, eZ, n0, n1, n2, m0, m1, m2, m3, m4, HBZ, _⟩ := HPZ.o.store dm0 [] 0 false (nl) (nl); simp only [dm0] at eZ n0 n1 n2; have HBF : Hid (Bw w WZ) := L0 (HBZ.o _ (L0g _) _ ((L0 HS10.o.bel).out.trans (hbz.mono (L0 HS10.o.bel).out.size))); have a0 := HPZ.o.a0; have a1 := HPZ.o.a1; have a2 := HPZ.o.a2; have b0 := HPZ.o.b0; have b1 := HPZ.o.b1; have b2 := HPZ.o.b2; have b3 := HPZ.o.b3; have b4 := HPZ.o.b4; have x0 := HPZ.o.x 0; have x1 := HPZ.o.x 1; have x2 := HPZ.o.x 2; have y0 := HPZ.o.y 0; have y1 := HPZ.o.y 1; have y2 := HPZ.o.y 2; have y3 := HPZ.o.y 3; have y4 := HPZ.o.y 4; clear hbz))
 refine bodyPost_ret (by simp [results, Tryz.results44, go_sem, n0, n1, n2, m0, m1, m2, m3, m4]; rfl) rfl ?_
 exact HZ.o _ _ _ HE.o rfl HBF.o
