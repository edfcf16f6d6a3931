import Derived.Test.YtlopccnehgolnacGreatDoorGL33
import Derived.Test.YtlopccnehgolnacGreatDoorCopyT
import Derived.Deep.RegionHeld3
import Derived.Deep.DeepCutAuto
import Derived.Deep.CutBlock
namespace Go.Proofs.YtlopccnehgolnacGreatDoor
open Go.RowKit Rb
set_option maxRecDepth 100000
set_option maxHeartbeats 12800000
theorem Y62 : Flat rStr := fun _ _ _ _ _ _ h => h
theorem X04 : ElemOf Tryz.prog rStr 39 9 := .mk' Tryz.underlying39 (z := .string ⟨#[]⟩) (k := 1) (b := 16) (by kernel_rfl) rfl rfl rfl (by decide) (by decide)
theorem Only.drew {q : Nat} {w w' : World} (h : Only q w w') : Only q w w'.drew := ⟨h.os, h.tape, h.output, h.size, h.block⟩
theorem Z92 (wr : World) (q3 i : Nat) (u : Value) : ∀ j, j ≠ i -> (wr.setCell ⟨q3, i, none⟩ u).cell? ⟨q3, j, none⟩ = wr.cell? ⟨q3, j, none⟩ := fun j hj => L0a _ _ _ _ (by simp <;> omega)
def PolW (w : World) : Prop := 0 < w.heap.size /\ ∀ (i : Nat) (s : Txt), pols[i]? = some s -> w.cell? ⟨0, i, none⟩ = some (.string ⟨s.toArray⟩)
theorem PolW.rel {w : World} (h : PolW w) : (rSl rStr).rel w (fun _ => True) [.slice (some ⟨0, 0, none⟩) 8 8] pols := by
 refine ⟨_, _, rfl, L0f _, by decide, by decide, fun i x hx => ?_⟩
 refine ⟨0, 0, [.string ⟨x.toArray⟩], rfl, trivial, h.1, ⟨rfl, ?_⟩, fun j u hu => ?_⟩
 ·have : ∀ y ∈ pols, y.length <= 140737488355328 := by decide
  exact this x (L0v hx)
 ·cases j with
  | zero =>
   simp only [List.getElem?_cons_zero, L2z] at hu
   subst hu
   have h2 := h.2 i x hx
   simpa [rStr] using h2
  | succ j => simp at hu
structure TabI (w : World) (q q2 q3 B0 : Nat) (r : Rs) (nm : Txt) (pol : Int) (comp : Bool) (ui : Value) (ins : List Txt) (ur : Value) (rules : List Rl) (wr : World) : Prop where
 rd : RdAt wr q r
 c0 : wr.cell? ⟨q3, 0, none⟩ = some (.string ⟨nm.toArray⟩)
 c1 : wr.cell? ⟨q3, 1, none⟩ = some (.int .i64 pol)
 c2 : wr.cell? ⟨q3, 2, none⟩ = some (.bool comp)
 c3 : wr.cell? ⟨q3, 3, none⟩ = some ui
 c4 : wr.cell? ⟨q3, 4, none⟩ = some ur
 z : ∀ i, wr.frozen? ⟨q3, i, none⟩ = false
 f0 : wr.cell? ⟨q2, 0, none⟩ = some (.string ⟨#[]⟩)
 f1 : wr.cell? ⟨q2, 1, none⟩ = some (.int .i64 0)
 f2 : wr.cell? ⟨q2, 2, none⟩ = some (.bool false)
 f3 : wr.cell? ⟨q2, 3, none⟩ = some (.slice none 0 0)
 f4 : wr.cell? ⟨q2, 4, none⟩ = some (.slice none 0 0)
 y : ∀ i, wr.frozen? ⟨q2, i, none⟩ = false
 oi : Own rStr 9 wr B0 (fun _ => False) ui ins
 orl : Own rRl 69 wr B0 (fun _ => False) ur rules
 only : Only q w wr
 hB : B0 <= wr.heap.size
 hq : q < w.heap.size /\ w.heap.size <= q2 /\ q2 < q3 /\ q3 < B0
section
variable {w : World} {q q2 q3 B0 : Nat} {r r' : Rs} {nm : Txt} {pol : Int} {comp : Bool} {ui : Value} {ins : List Txt} {ur : Value} {rules : List Rl} {wr wr' : World}
theorem TabI.step (h : TabI w q q2 q3 B0 r nm pol comp ui ins ur rules wr) (ho : Only q wr wr') (hr : RdAt wr' q r') : TabI w q q2 q3 B0 r' nm pol comp ui ins ur rules wr' := by
 obtain ⟨h1, h2, h3, h4⟩ := h.hq
 have hB := h.hB
 have n2 : q2 ≠ q := by omega
 have n3 : q3 ≠ q := by omega
 have l3 : q3 < wr.heap.size := by omega
 have l2 : q2 < wr.heap.size := by omega
 exact ⟨hr, (ho.cell l3 n3 0).trans h.c0, (ho.cell l3 n3 1).trans h.c1, (ho.cell l3 n3 2).trans h.c2, (ho.cell l3 n3 3).trans h.c3, (ho.cell l3 n3 4).trans h.c4, fun i => (ho.frozen l3 n3 i).trans (h.z i),
  (ho.cell l2 n2 0).trans h.f0, (ho.cell l2 n2 1).trans h.f1, (ho.cell l2 n2 2).trans h.f2, (ho.cell l2 n2 3).trans h.f3, (ho.cell l2 n2 4).trans h.f4, fun i => (ho.frozen l2 n2 i).trans (h.y i),
  h.oi.only ho (by omega), h.orl.only ho (by omega), h.only.trans ho, L0i hB ho.size, h.hq⟩
theorem TabI.drew (h : TabI w q q2 q3 B0 r nm pol comp ui ins ur rules wr) : TabI w q q2 q3 B0 r nm pol comp ui ins ur rules wr.drew := h.step (Only.drew (Only.refl q wr)) h.rd
theorem Own.setLowR {α : Type} {R : Rd α} {e : TypeId} {w : World} {base : Nat} {v : Value} {xs : List α} (h : Own R e w base (fun _ => False) v xs) {b : Nat} (ha : b < base) (i : Nat) (u : Value) : Own R e (w.setCell ⟨b, i, none⟩ u) base (fun _ => False) v xs := Own.setLow h (a := ⟨b, i, none⟩) ha u
theorem TabI.setPol (h : TabI w q q2 q3 B0 r nm pol comp ui ins ur rules wr) (p : Int) : TabI w q q2 q3 B0 r nm p comp ui ins ur rules (wr.setCell ⟨q3, 1, none⟩ (.int .i64 p)) := by
 obtain ⟨h1, h2, h3, h4⟩ := h.hq
 have n2 : ¬ (q3 = q2) := by omega
 have k := Z92 wr q3 1 (.int .i64 p)
 have k2 : ∀ j, (wr.setCell ⟨q3, 1, none⟩ (.int .i64 p)).cell? ⟨q2, j, none⟩ = wr.cell? ⟨q2, j, none⟩ := fun j => L0a _ _ _ _ (by simp <;> omega)
 exact ⟨h.rd.other (by omega) _ _, (k 0 (by decide)).trans h.c0, L0d _ _ _ h.c1, (k 2 (by decide)).trans h.c2, (k 3 (by decide)).trans h.c3, (k 4 (by decide)).trans h.c4, fun i => by rw [L0l]; exact h.z i, (k2 0).trans h.f0, (k2 1).trans h.f1, (k2 2).trans h.f2, (k2 3).trans h.f3, (k2 4).trans h.f4, fun i => by rw [L0l]; exact h.y i, h.oi.setLowR h4 _ _, h.orl.setLowR h4 _ _, h.only.new (by omega) _ _, by simpa using h.hB, h.hq⟩
theorem TabI.setComp (h : TabI w q q2 q3 B0 r nm pol comp ui ins ur rules wr) (p : Bool) : TabI w q q2 q3 B0 r nm pol p ui ins ur rules (wr.setCell ⟨q3, 2, none⟩ (.bool p)) := by
 obtain ⟨h1, h2, h3, h4⟩ := h.hq
 have n2 : ¬ (q3 = q2) := by omega
 have k := Z92 wr q3 2 (.bool p)
 have k2 : ∀ j, (wr.setCell ⟨q3, 2, none⟩ (.bool p)).cell? ⟨q2, j, none⟩ = wr.cell? ⟨q2, j, none⟩ := fun j => L0a _ _ _ _ (by simp <;> omega)
 exact ⟨h.rd.other (by omega) _ _, (k 0 (by decide)).trans h.c0, (k 1 (by decide)).trans h.c1, L0d _ _ _ h.c2, (k 3 (by decide)).trans h.c3, (k 4 (by decide)).trans h.c4, fun i => by rw [L0l]; exact h.z i, (k2 0).trans h.f0, (k2 1).trans h.f1, (k2 2).trans h.f2, (k2 3).trans h.f3, (k2 4).trans h.f4, fun i => by rw [L0l]; exact h.y i, h.oi.setLowR h4 _ _, h.orl.setLowR h4 _ _, h.only.new (by omega) _ _, by simpa using h.hB, h.hq⟩
theorem TabI.low (h : TabI w q q2 q3 B0 r nm pol comp ui ins ur rules wr) (hb : Below B0 wr wr') : RdAt wr' q r /\ (∀ i, wr'.cell? ⟨q3, i, none⟩ = wr.cell? ⟨q3, i, none⟩) /\ (∀ i, wr'.frozen? ⟨q3, i, none⟩ = false) /\ (∀ i, wr'.cell? ⟨q2, i, none⟩ = wr.cell? ⟨q2, i, none⟩) /\ (∀ i, wr'.frozen? ⟨q2, i, none⟩ = false) /\ Only q w wr' /\ B0 <= wr'.heap.size := by
 obtain ⟨h1, h2, h3, h4⟩ := h.hq
 obtain ⟨A, c, a0, a1, b0, b1, hr⟩ := h.rd
 have hq : q < B0 := by omega
 have hq2 : q2 < B0 := by omega
 exact ⟨⟨A, c, (hb.ce 0 hq).trans a0, (hb.ce 1 hq).trans a1, (hb.fr 0 hq).trans b0, (hb.fr 1 hq).trans b1, (rSl rStr).keep hr (.of_belowB hb fun b hb' => by omega)⟩,
  fun i => hb.ce i h4, fun i => (hb.fr i h4).trans (h.z i), fun i => hb.ce i hq2, fun i => (hb.fr i hq2).trans (h.y i), h.only.trans_below hb (by omega), L0i h.hB hb.size⟩
theorem TabI.growI {v : Value} {ins' : List Txt} (h : TabI w q q2 q3 B0 r nm pol comp ui ins ur rules wr) (hb : Below B0 wr wr') (ho : Own rStr 9 wr' B0 (fun _ => False) v ins') (hk : Own rRl 69 wr' B0 (fun _ => False) ur rules) :
  TabI w q q2 q3 B0 r nm pol comp v ins' ur rules (wr'.setCell ⟨q3, 3, none⟩ v) /\ wr'.cell? ⟨q3, 3, none⟩ = some ui /\ wr'.frozen? ⟨q3, 3, none⟩ = false := by
 obtain ⟨h1, h2, h3, h4⟩ := h.hq
 have n2 : ¬ (q3 = q2) := by omega
 obtain ⟨hrd, hc, hz, hf, hy, hon, hB⟩ := h.low hb
 have k : ∀ j, j ≠ 3 -> (wr'.setCell ⟨q3, 3, none⟩ v).cell? ⟨q3, j, none⟩ = wr.cell? ⟨q3, j, none⟩ := fun j hj => (L0a _ _ _ _ (by simp <;> omega)).trans (hc j)
 have k2 : ∀ j, (wr'.setCell ⟨q3, 3, none⟩ v).cell? ⟨q2, j, none⟩ = wr.cell? ⟨q2, j, none⟩ := fun j => (L0a _ _ _ _ (by simp <;> omega)).trans (hf j)
 exact ⟨⟨hrd.other (by omega) _ _, (k 0 (by decide)).trans h.c0, (k 1 (by decide)).trans h.c1, (k 2 (by decide)).trans h.c2, L0d _ _ _ ((hc 3).trans h.c3), (k 4 (by decide)).trans h.c4, fun i => by rw [L0l]; exact hz i, (k2 0).trans h.f0, (k2 1).trans h.f1, (k2 2).trans h.f2, (k2 3).trans h.f3, (k2 4).trans h.f4, fun i => by rw [L0l]; exact hy i, ho.setLowR h4 _ _, hk.setLowR h4 _ _, hon.new (by omega) _ _, by simpa using hB, h.hq⟩, (hc 3).trans h.c3, hz 3⟩
theorem TabI.growR {v : Value} {rules' : List Rl} (h : TabI w q q2 q3 B0 r nm pol comp ui ins ur rules wr) (hb : Below B0 wr wr') (hk : Own rStr 9 wr' B0 (fun _ => False) ui ins) (ho : Own rRl 69 wr' B0 (fun _ => False) v rules') :
  TabI w q q2 q3 B0 r nm pol comp ui ins v rules' (wr'.setCell ⟨q3, 4, none⟩ v) /\ wr'.cell? ⟨q3, 4, none⟩ = some ur /\ wr'.frozen? ⟨q3, 4, none⟩ = false := by
 obtain ⟨h1, h2, h3, h4⟩ := h.hq
 have n2 : ¬ (q3 = q2) := by omega
 obtain ⟨hrd, hc, hz, hf, hy, hon, hB⟩ := h.low hb
 have k : ∀ j, j ≠ 4 -> (wr'.setCell ⟨q3, 4, none⟩ v).cell? ⟨q3, j, none⟩ = wr.cell? ⟨q3, j, none⟩ := fun j hj => (L0a _ _ _ _ (by simp <;> omega)).trans (hc j)
 have k2 : ∀ j, (wr'.setCell ⟨q3, 4, none⟩ v).cell? ⟨q2, j, none⟩ = wr.cell? ⟨q2, j, none⟩ := fun j => (L0a _ _ _ _ (by simp <;> omega)).trans (hf j)
 exact ⟨⟨hrd.other (by omega) _ _, (k 0 (by decide)).trans h.c0, (k 1 (by decide)).trans h.c1, (k 2 (by decide)).trans h.c2, (k 3 (by decide)).trans h.c3, L0d _ _ _ ((hc 4).trans h.c4), fun i => by rw [L0l]; exact hz i, (k2 0).trans h.f0, (k2 1).trans h.f1, (k2 2).trans h.f2, (k2 3).trans h.f3, (k2 4).trans h.f4, fun i => by rw [L0l]; exact hy i, hk.setLowR h4 _ _, ho.setLowR h4 _ _, hon.new (by omega) _ _, by simpa using hB, h.hq⟩, (hc 4).trans h.c4, hz 4⟩
end
theorem TabI.start {w W0 w1 : World} {q : Nat} {r : Rs} {nm : Txt} {ty : TypeId} (f : ∀ i, W0.cell? ⟨w.heap.size, i, none⟩ = (#[.string ⟨#[]⟩, .int .i64 0, .bool false, .slice none 0 0, .slice none 0 0] : Array Value)[i]?) (y : ∀ i, W0.frozen? ⟨w.heap.size, i, none⟩ = false) (hs : w.heap.size < W0.heap.size) (hq : q < w.heap.size) (ho : Only q w W0) (hr : RdAt w1 q r) (h1 : Only q W0 w1) :
  ∃ W3, w1.alloc (.cells #[.string ⟨nm.toArray⟩, .int .i64 0, .bool false, .slice none 0 0, .slice none 0 0] ty) = W3 /\ (∀ i, W3.frozen? ⟨w1.heap.size, i, none⟩ = false) /\ W3.cell? ⟨w1.heap.size, 1, none⟩ = some (.int .i64 0) /\ W3.cell? ⟨w1.heap.size, 2, none⟩ = some (.bool false) /\ W3.cell? ⟨w1.heap.size, 3, none⟩ = some (.slice none 0 0) /\ W3.cell? ⟨w1.heap.size, 4, none⟩ = some (.slice none 0 0) /\
   ∃ W4, (((W3.setCell ⟨w1.heap.size, 1, none⟩ (.int .i64 0)).setCell ⟨w1.heap.size, 2, none⟩ (.bool false)).setCell ⟨w1.heap.size, 3, none⟩ (.slice none 0 0)).setCell ⟨w1.heap.size, 4, none⟩ (.slice none 0 0) = W4 /\ Hid (TabI w q w.heap.size w1.heap.size W3.heap.size r nm 0 false (.slice none 0 0) [] (.slice none 0 0) [] W4) /\ Hid (w1.heap.size < W3.heap.size) := by
 have hne : w.heap.size ≠ q := by omega
 have hs1 := h1.size
 have hlt : w.heap.size < w1.heap.size := by omega
 have n2 : ¬ (w1.heap.size = w.heap.size) := by omega
 obtain ⟨W3, e3⟩ : ∃ W3, w1.alloc (.cells #[.string ⟨nm.toArray⟩, .int .i64 0, .bool false, .slice none 0 0, .slice none 0 0] ty) = W3 := ⟨_, rfl⟩
 have k : ∀ i, W3.cell? ⟨w1.heap.size, i, none⟩ = (#[.string ⟨nm.toArray⟩, .int .i64 0, .bool false, .slice none 0 0, .slice none 0 0] : Array Value)[i]? := fun i => by rw [<- e3]; simp
 have zf : ∀ i, W3.frozen? ⟨w1.heap.size, i, none⟩ = false := fun i => by rw [<- e3]; simp
 have b3 : Below w1.heap.size w1 W3 := by rw [<- e3]; exact (L0m _ _).alloc (L0f _) _
 have hl3 : w1.heap.size < W3.heap.size := by rw [<- e3]; simp
 have ho3 : Only q w W3 := by rw [<- e3]; exact (ho.trans h1).trans (Only.alloc _ _)
 have hr3 : RdAt W3 q r := by rw [<- e3]; exact hr.alloc _
 have ol : Own rRl 69 W3 W3.heap.size (fun _ => False) (.slice none 0 0) [] := Own.nil _ _ _ _ _
 have os : Own rStr 9 W3 W3.heap.size (fun _ => False) (.slice none 0 0) [] := Own.nil _ _ _ _ _
 have f3 : ∀ i, W3.cell? ⟨w.heap.size, i, none⟩ = (#[.string ⟨#[]⟩, .int .i64 0, .bool false, .slice none 0 0, .slice none 0 0] : Array Value)[i]? := fun i => (b3.ce i hlt).trans ((h1.cell hs hne i).trans (f i))
 have y3 : ∀ i, W3.frozen? ⟨w.heap.size, i, none⟩ = false := fun i => (b3.fr i hlt).trans ((h1.frozen hs hne i).trans (y i))
 have h3 : TabI w q w.heap.size w1.heap.size W3.heap.size r nm 0 false (.slice none 0 0) [] (.slice none 0 0) [] W3 :=
  ⟨hr3, k 0, k 1, k 2, k 3, k 4, zf, f3 0, f3 1, f3 2, f3 3, f3 4, y3, os, ol, ho3, L0f _, ⟨hq, L0f _, hlt, hl3⟩⟩
 have h4 := (h3.setPol 0).setComp false
 have o4 : ∀ (i : Nat) (v : Value), Own rRl 69 (((W3.setCell ⟨w1.heap.size, 1, none⟩ (.int .i64 0)).setCell ⟨w1.heap.size, 2, none⟩ (.bool false))) W3.heap.size (fun _ => False) (.slice none 0 0) [] := fun _ _ => Own.nil _ _ _ _ _
 have h5 := (h4.growI (L0m _ _) (v := .slice none 0 0) (ins' := []) (Own.nil _ _ _ _ _) (Own.nil _ _ _ _ _)).1
 have h6 := (h5.growR (L0m _ _) (v := .slice none 0 0) (rules' := []) (Own.nil _ _ _ _ _) (Own.nil _ _ _ _ _)).1
 exact ⟨W3, e3, zf, k 1, k 2, k 3, k 4, _, rfl, L0 h6, L0 hl3⟩
structure CelL (w : World) (q q5 : Nat) (r : Rs) (u : Value) (acc : List Cl) (wr : World) : Prop where
 rd : RdAt wr q r
 c0 : wr.cell? ⟨q5, 0, none⟩ = some u
 c1 : wr.cell? ⟨q5, 1, none⟩ = some (.int .i64 0)
 z : ∀ i, wr.frozen? ⟨q5, i, none⟩ = false
 own : Own rCl 72 wr (q5 + 1) (fun _ => False) u acc
 only : Only q w wr
 hq : q < w.heap.size /\ w.heap.size <= q5 /\ q5 < wr.heap.size
section
variable {w : World} {q q5 : Nat} {r r' : Rs} {u : Value} {acc : List Cl} {wr wr' : World}
theorem CelL.step (h : CelL w q q5 r u acc wr) (ho : Only q wr wr') (hr : RdAt wr' q r') : CelL w q q5 r' u acc wr' := by
 obtain ⟨h1, h2, h3⟩ := h.hq
 have n : q5 ≠ q := by omega
 exact ⟨hr, (ho.cell h3 n 0).trans h.c0, (ho.cell h3 n 1).trans h.c1, fun i => (ho.frozen h3 n i).trans (h.z i), h.own.only ho (by omega), h.only.trans ho, h1, h2, L0c h3 ho.size⟩
theorem CelL.grow {v : Value} {acc' : List Cl} (h : CelL w q q5 r u acc wr) (hb : Below (q5 + 1) wr wr') (ho : Own rCl 72 wr' (q5 + 1) (fun _ => False) v acc') :
  CelL w q q5 r v acc' (wr'.setCell ⟨q5, 0, none⟩ v) /\ wr'.cell? ⟨q5, 0, none⟩ = some u /\ wr'.frozen? ⟨q5, 0, none⟩ = false := by
 obtain ⟨h1, h2, h3⟩ := h.hq
 have k := (hb.ce 0 (L2f _)).trans h.c0
 have k1 := (hb.ce 1 (L2f _)).trans h.c1
 have z : ∀ i, wr'.frozen? ⟨q5, i, none⟩ = false := fun i => (hb.fr i (L2f _)).trans (h.z i)
 obtain ⟨A, c, a0, a1, b0, b1, hr⟩ := h.rd
 have hq : q < q5 + 1 := by omega
 have hrd : RdAt wr' q r := ⟨A, c, (hb.ce 0 hq).trans a0, (hb.ce 1 hq).trans a1, (hb.fr 0 hq).trans b0, (hb.fr 1 hq).trans b1, (rSl rStr).keep hr (.of_belowB hb fun b hb' => by omega)⟩
 exact ⟨⟨hrd.other (by omega) _ _, L0d _ _ _ k, (L0a _ _ _ _ (by simp)).trans k1, fun i => by rw [L0l]; exact z i, ho.setLowR (L2f _) _ _, (h.only.trans_below hb (by omega)).new h2 _ _, h1, h2, by have := hb.size; simp; omega⟩, k, z 0⟩
theorem CelL.start (hr : RdAt w q r) (hq : q < w.heap.size) {ty : TypeId} : ∃ W, w.alloc (.cells #[.slice none 0 0, .int .i64 0] ty) = W /\ Hid (CelL w q w.heap.size r (.slice none 0 0) [] W) :=
 ⟨_, rfl, L0 ⟨hr.alloc _, L0b _ _ _ _, L0b _ _ _ _, fun i => by simp, Own.nil _ _ _ _ _, Only.alloc _ _, hq, L0f _, by simp⟩⟩
theorem CelL.out (h : CelL w q q5 r u acc wr) (n : Int) : ∃ W, wr.setCell ⟨q5, 1, none⟩ (.int .i64 n) = W /\ Hid (RdAt W q r /\ Only q w W /\ q < w.heap.size /\ w.heap.size <= q5 /\ q5 < W.heap.size) /\ Hid (W.cell? ⟨q5, 0, none⟩ = some u /\ W.cell? ⟨q5, 1, none⟩ = some (.int .i64 n)) /\ Hid (Own rCl 72 W (q5 + 1) (fun _ => False) u acc) := by
 obtain ⟨h1, h2, h3⟩ := h.hq
 exact ⟨_, rfl, L0 ⟨h.rd.other (by omega) _ _, h.only.new h2 _ _, h1, h2, by simpa using h3⟩, L0 ⟨(L0a _ _ _ _ (by simp)).trans h.c0, L0d _ _ _ h.c1⟩, L0 (h.own.setLowR (L2f _) _ _)⟩
end
theorem Y6v {wr w8 : World} {q5 : Nat} {v : Value} (h1 : q5 < wr.heap.size) (h2 : ∀ g, v.ownBlock = some g -> g < wr.heap.size) (h3 : wr.drew.heap.size <= w8.heap.size) : ∀ g, Up (Up (fun _ => False) wr.drew.heap.size) w8.heap.size g -> Up (fun _ => False) (q5 + 1) g /\ v.ownBlock ≠ some g := by
 intro g hg
 have h4 : wr.drew.heap.size = wr.heap.size := rfl
 have h5 : wr.heap.size <= g := by
  rcases hg with (h | h) | h
  ·exact h.elim
  ·omega
  ·omega
 exact ⟨.inr (by omega), fun e => by have := h2 g e; omega⟩
theorem X1b {rf : Rs} {l1 : List Txt} (h : rf.bad = false -> rf.l.length < l1.length) : (if rf.bad then 0 else rf.l.length + 1) < (if (⟨l1, false⟩ : Rs).bad then 0 else (⟨l1, false⟩ : Rs).l.length + 1) := by
 show _ < l1.length + 1
 cases hb : rf.bad
 ·have := h hb
  simp
  omega
 ·simp
def NeB (a b : Value) : Prop := a.ownBlock = none \/ a.ownBlock ≠ b.ownBlock
theorem NeB.next {a b c : Value} {N : Nat} (h : NeB a b) (ha : ∀ g, a.ownBlock = some g -> g < N) (e : c.ownBlock = b.ownBlock \/ c.ownBlock = some (N + 1)) : NeB a c := by
 unfold NeB at *
 cases hb : a.ownBlock with
 | none => exact .inl rfl
 | some g =>
  refine .inr fun hc => ?_
  rcases e with e | e
  ·rcases h with h | h
   ·rw [hb] at h; cases h
   ·exact h (by rw [hb, hc, e])
  ·rw [e] at hc
   have h1 := L0s hc
   have := ha g hb
   omega
theorem NeB.none (a : Value) : NeB a (.slice none 0 0) := by
 unfold NeB
 cases hb : a.ownBlock with
 | none => exact .inl rfl
 | some g => exact .inr fun h => by cases h
theorem Y7r {w w13 W16 w17 : World} {q q2 q3 q5 B0 : Nat} {r re rf : Rs} {nm : Txt} {pol : Int} {comp : Bool} {ui : Value} {ins : List Txt} {ur : Value} {rules : List Rl} {cells : List Cl} {n : Int} {A5 : Option Addr} {l5 : Nat}
  (h : TabI w q q2 q3 B0 r nm pol comp ui ins ur rules w13) (h1 : RdAt W16 q re /\ Only q w13 W16 /\ q < w13.heap.size /\ w13.heap.size <= q5 /\ q5 < W16.heap.size) (k : W16.cell? ⟨q5, 0, none⟩ = some (.slice A5 cells.length l5) /\ W16.cell? ⟨q5, 1, none⟩ = some (.int .i64 n))
  (ho : Own rCl 72 W16 (q5 + 1) (fun _ => False) (.slice A5 cells.length l5) cells) (o17 : Only q W16 w17) (hr : RdAt w17 q rf) (hn : InI n) :
  TabI w q q2 q3 B0 rf nm pol comp ui ins ur rules w17 /\ w17.cell? ⟨q5, 0, none⟩ = some (.slice A5 cells.length l5) /\ w17.cell? ⟨q5, 1, none⟩ = some (.int .i64 n) /\ rRl.rel w17 (Up (fun _ => False) (q5 + 1)) [.slice A5 cells.length l5, .int .i64 n] ⟨cells, n⟩ := by
 obtain ⟨_, a2, a3, a4, a5⟩ := h1
 have ne : q5 ≠ q := by omega
 exact ⟨h.step (a2.trans o17) hr, (o17.cell a5 ne 0).trans k.1, (o17.cell a5 ne 1).trans k.2, ⟨_, rfl, hn, (ho.only o17 (by omega)).rel (by decide)⟩⟩
def rdM (w : World) (q : Nat) : Nat := match w.cell? ⟨q, 1, none⟩ with | some (.bool true) => 0 | _ => Y5n w q + 1
theorem RdAt.m {w : World} {q : Nat} {r : Rs} (h : RdAt w q r) : rdM w q = if r.bad then 0 else r.l.length + 1 := by
 unfold rdM
 rw [h.bad.1, h.len]
 cases r.bad <;> rfl
theorem TabI.done {w : World} {q q2 q3 B0 : Nat} {r : Rs} {nm : Txt} {pol : Int} {comp : Bool} {ui : Value} {ins : List Txt} {ur : Value} {rules : List Rl} {wr : World} (h : TabI w q q2 q3 B0 r nm pol comp ui ins ur rules wr) :
  ∃ W, ((((wr.setCell ⟨q2, 0, none⟩ (.string ⟨nm.toArray⟩)).setCell ⟨q2, 1, none⟩ (.int .i64 pol)).setCell ⟨q2, 2, none⟩ (.bool comp)).setCell ⟨q2, 3, none⟩ ui).setCell ⟨q2, 4, none⟩ ur = W /\ W.cell? ⟨q2, 0, none⟩ = some (.string ⟨nm.toArray⟩) /\ W.cell? ⟨q2, 1, none⟩ = some (.int .i64 pol) /\ W.cell? ⟨q2, 2, none⟩ = some (.bool comp) /\ W.cell? ⟨q2, 3, none⟩ = some ui /\ W.cell? ⟨q2, 4, none⟩ = some ur /\
   Hid (Own rStr 9 W w.heap.size (fun _ => False) ui ins /\ Own rRl 69 W w.heap.size (fun _ => False) ur rules /\ RdAt W q r /\ Only q w W) := by
 obtain ⟨h1, h2, h3, h4⟩ := h.hq
 obtain ⟨W, e, _, _, n0, n1, n2, n3, n4⟩ := Y76 (.string ⟨nm.toArray⟩) (.int .i64 pol) (.bool comp) ui ur h.f0 h.f1 h.f2 h.f3 h.f4
 have hq2 : q2 < B0 := by omega
 refine ⟨W, e, n0, n1, n2, n3, n4, L0 ?_⟩
 rw [<- e]
 refine ⟨Own.lower (((((h.oi.setLowR hq2 _ _).setLowR hq2 _ _).setLowR hq2 _ _).setLowR hq2 _ _).setLowR hq2 _ _) (by omega), Own.lower (((((h.orl.setLowR hq2 _ _).setLowR hq2 _ _).setLowR hq2 _ _).setLowR hq2 _ _).setLowR hq2 _ _) (by omega), ?_, ?_⟩
 ·exact ((((h.rd.other (by omega) _ _).other (by omega) _ _).other (by omega) _ _).other (by omega) _ _).other (by omega) _ _
 ·exact ((((h.only.new h2 _ _).new h2 _ _).new h2 _ _).new h2 _ _).new h2 _ _
theorem Y5s {q : Nat} {r : Rs} (w : World) (h : RdAt w q r) (_hl : r.l.length <= 4000) (hq : ∀ w', Only q w w' -> LibW w') (hp : ∀ w', Only q w w' -> PolW w') :
  Calls Tryz.prog 78 #[.pointer (some ⟨q, 0, none⟩)] w fun e w' => ∃ v u, e = .returned (.agg #[.string ⟨(Z3b r).1.name.toArray⟩, .int .i64 (Z3b r).1.pol, .bool (Z3b r).1.comp, v, u]) /\ Own rStr 9 w' w.heap.size (fun _ => False) v (Z3b r).1.ins /\ Own rRl 69 w' w.heap.size (fun _ => False) u (Z3b r).1.rules /\ RdAt w' q (Z3b r).2 /\ Only q w w' := by
 have hql := h.lt
 obtain ⟨W0, e0, HR0, HF0, HY0, HO0, HS0⟩ : ∃ W0, w.alloc (.cells #[.string ⟨#[]⟩, .int .i64 0, .bool false, .slice none 0 0, .slice none 0 0] 66) = W0 /\ Hid (RdAt W0 q r) /\ Hid (∀ i, W0.cell? ⟨w.heap.size, i, none⟩ = (#[.string ⟨#[]⟩, .int .i64 0, .bool false, .slice none 0 0, .slice none 0 0] : Array Value)[i]?) /\ Hid (∀ i, W0.frozen? ⟨w.heap.size, i, none⟩ = false) /\ Hid (Only q w W0) /\ Hid (w.heap.size < W0.heap.size) :=
  ⟨_, rfl, L0 (h.alloc _), L0 (fun i => by simp), L0 (fun i => by simp), L0 (Only.alloc _ _), L0 (by simp)⟩
 have HQL := L0 hql
 have HL := L0 hq
 have HPO := L0 hp
 obtain ⟨⟨nm, r1⟩, h1⟩ : ∃ x, Z27 r = x := ⟨_, rfl⟩
 obtain ⟨⟨pw, r2⟩, h2⟩ : ∃ x, Z3w r1 = x := ⟨_, rfl⟩
 obtain ⟨⟨cm, r3⟩, h3⟩ : ∃ x, atR r2 [99, 111, 109, 112, 108, 101, 116, 101] = x := ⟨_, rfl⟩
 obtain ⟨r4, h4⟩ : ∃ x, Z2v r3 [40] = x := ⟨_, rfl⟩
 obtain ⟨⟨ins, r5⟩, h5⟩ : ∃ x, Z0m Z27 [44] r4 [] = x := ⟨_, rfl⟩
 obtain ⟨r6, h6⟩ : ∃ x, Z2v r5 [41] = x := ⟨_, rfl⟩
 obtain ⟨r7, h7⟩ : ∃ x, Z2v r6 [123] = x := ⟨_, rfl⟩
 obtain ⟨⟨rules, r8⟩, h8⟩ : ∃ x, Z2m r7 [] = x := ⟨_, rfl⟩
 have HT : Hid (Z3b r = (⟨nm, Z8i pols pw, cm, ins, rules⟩, r8)) := L0 (by unfold Z3b; simp only [h1, h2, h3, h4, h5, h6, h7, h8])
 rw [HT.out]
 obtain ⟨pol, hpol⟩ : ∃ x, Z8i pols pw = x := ⟨_, rfl⟩
 rw [hpol]
 have HN1 : Hid (Calls Tryz.prog 74 #[.pointer (some ⟨q, 0, none⟩)] W0 fun e w' => e = .returned (.string ⟨nm.toArray⟩) /\ RdAt w' q r1 /\ Only q W0 w') := L0 (by have := Z8x W0 HR0.out; rw [h1] at this; exact this)
 have HNX : Hid (∀ w, RdAt w q r1 -> Calls Tryz.prog 104 #[.pointer (some ⟨q, 0, none⟩)] w fun e w' => e = .returned (.string ⟨pw.toArray⟩) /\ RdAt w' q r2 /\ Only q w w') := L0 fun w hr => by have := Y0y w hr; rw [h2] at this; exact this
 have HIX : Hid (∀ w, PolW w -> Calls Tryz.prog 95 #[.slice (some ⟨0, 0, none⟩) 8 8, .string ⟨pw.toArray⟩] w fun e w' => e = .returned (.int .i64 pol) /\ w = w') := L0 fun w hw => hpol ▸ Y1b pw w hw.rel
 have HAT3 : Hid (∀ w, RdAt w q r2 -> Calls Tryz.prog 73 #[.pointer (some ⟨q, 0, none⟩), .string ⟨#[99, 111, 109, 112, 108, 101, 116, 101]⟩] w fun e w' => e = .returned (.bool cm) /\ RdAt w' q r3 /\ Only q w w') := L0 fun w hr => by have := Z3g [99, 111, 109, 112, 108, 101, 116, 101] w hr; rw [h3] at this; exact this
 have HTK4 : Hid (∀ w, RdAt w q r3 -> Calls Tryz.prog 76 #[.pointer (some ⟨q, 0, none⟩), .string ⟨#[40]⟩] w fun e w' => e = .returned (.tuple #[]) /\ RdAt w' q r4 /\ Only q w w') := L0 fun w hr => by have := Z5g [40] w hr; rw [h4] at this; exact this
 have HTK6 : Hid (∀ w, RdAt w q r5 -> Calls Tryz.prog 76 #[.pointer (some ⟨q, 0, none⟩), .string ⟨#[41]⟩] w fun e w' => e = .returned (.tuple #[]) /\ RdAt w' q r6 /\ Only q w w') := L0 fun w hr => by have := Z5g [41] w hr; rw [h6] at this; exact this
 have HTK7 : Hid (∀ w, RdAt w q r6 -> Calls Tryz.prog 76 #[.pointer (some ⟨q, 0, none⟩), .string ⟨#[123]⟩] w fun e w' => e = .returned (.tuple #[]) /\ RdAt w' q r7 /\ Only q w w') := L0 fun w hr => by have := Z5g [123] w hr; rw [h7] at this; exact this
 have HLN4 : Hid (r4.l.length <= 4000) := L0 (by
  have a1 := Z6e r
  have a2 := Z8p r1
  have a3 := Z15 r2 [99, 111, 109, 112, 108, 101, 116, 101]
  have a4 := Z6p r3 [40]
  rw [h1] at a1; rw [h2] at a2; rw [h3] at a3; rw [h4] at a4
  dsimp only at a1 a2 a3
  omega)
 have HLN7 : Hid (r7.l.length <= 4000) := L0 (by
  have a5 : (Z0m Z27 [44] r4 []).2.l.length <= r4.l.length := Z8l Z6e _ _ _
  have a6 := Z6p r5 [41]
  have a7 := Z6p r6 [123]
  rw [h5] at a5; rw [h6] at a6; rw [h7] at a7
  have := HLN4.out
  dsimp only at a5
  omega)
 have H5 := L0 h5
 have H8 := L0 h8
 clear h h1 h2 h3 h4 h5 h6 h7 h8 hpol _hl hq hp hql
 dsimp only
 go_enter Tryz.func78, Tryz.ntmps78
 go_wp2_with (go_at_call 74; (with_reducible refine HN1.out.mono ?_); rintro e w1 ⟨rfl, hr1, o1⟩; obtain ⟨W3, e3, z3, k1, k2, k3, k4, W4, e4, HTI, HS3⟩ := TabI.start (nm := nm) (ty := 66) HF0.out HY0.out HS0.out HQL.out HO0.out hr1 o1; clear hr1 o1)
 clear e0 e3 e4 z3 k1 k2 k3 k4
 generalize hq3 : w1.heap.size = q3 at *
 generalize hB0 : W3.heap.size = B0 at *
 clear hq3 hB0
 obtain ⟨q2, hq2⟩ : ∃ n, w.heap.size = n := ⟨_, rfl⟩
 rw [hq2] at HTI HQL
 rw [hq2]
 clear hq2
 have HTD := L0 HTI.out.drew
 go_region_held3 (fun _ => True) (trivial) (first
  | (go_at_call 104; (with_reducible refine (HNX.out W4.drew HTD.out.rd).mono ?_); rintro e w5 ⟨rfl, hr5, o5⟩; have HT5 := L0 (HTD.out.step o5 hr5); have HP5 := L0 (HPO.out _ HT5.out.only); clear hr5 o5)
  | (go_at_call 95; (with_reducible refine (HIX.out w5 HP5.out).mono ?_); rintro e w6 ⟨rfl, rfl⟩; have p1 := HT5.out.c1; have pz := HT5.out.z 1; obtain ⟨W6, e6, HT6⟩ : ∃ W6, w5.setCell ⟨q3, 1, none⟩ (.int .i64 pol) = W6 /\ Hid (TabI w q q2 q3 B0 r2 nm pol false (.slice none 0 0) [] (.slice none 0 0) [] W6) := ⟨_, rfl, L0 (HT5.out.setPol pol)⟩))
 go_upto_block 0 with (first
  | (go_at_call 73; (with_reducible refine (HAT3.out W6 HT6.out.rd).mono ?_); rintro e w7 ⟨rfl, hr7, o7⟩; have HT7 := L0 (HT6.out.step o7 hr7); have p2 := HT7.out.c2; have pz2 := HT7.out.z 2; obtain ⟨W8, e8, HT8⟩ : ∃ W8, w7.setCell ⟨q3, 2, none⟩ (.bool cm) = W8 /\ Hid (TabI w q q2 q3 B0 r3 nm pol cm (.slice none 0 0) [] (.slice none 0 0) [] W8) := ⟨_, rfl, L0 (HT7.out.setComp cm)⟩; clear hr7 o7)
  | (go_at_call 76; (with_reducible refine (HTK4.out W8 HT8.out.rd).mono ?_); rintro e w9 ⟨rfl, hr9, o9⟩; have HT9 := L0 (HT8.out.step o9 hr9); clear hr9 o9))
 clear p1 pz e6 p2 pz2 e8
 go_cut [] (fun wx => ∃ u, Hid (TabI w q q2 q3 B0 r5 nm pol cm u ins (.slice none 0 0) [] wx))
 case first =>
  go_wp2_with fail
  go_loopw [] (fun wr => ∃ (rr : Rs) (acc : List Txt) (u : Value), wr.cell? ⟨q, 1, none⟩ = some (.bool rr.bad) /\ wr.cell? ⟨q3, 3, none⟩ = some u /\ Hid (TabI w q q2 q3 B0 rr nm pol cm u acc (.slice none 0 0) [] wr) /\ Hid (Z0m Z27 [44] rr acc = (ins, r5)) /\ Hid (acc.length + rr.l.length <= 4000)) (fun wr => Y5n wr q)
  case atStart => exact ⟨r4, [], _, HT9.out.rd.bad.1, HT9.out.c3, HT9, H5, L0 (by simpa using HLN4.out)⟩
  case round =>
   clear HT9 H5 HLN4
   obtain ⟨⟨l1, b1⟩, acc, u, k0, k3, HTI, HIE, HLA⟩ := hrel
   cases b1
   ·obtain ⟨Au, lu, rfl⟩ := HTI.out.oi.value
    obtain ⟨⟨x, rx⟩, hx⟩ : ∃ x, Z27 ⟨l1, false⟩ = x := ⟨_, rfl⟩
    have hxl : x.length <= 140737488355328 := by have h := HTI.out.rd.wlen; have e : (Z27 ⟨l1, false⟩).1 = x := (by rw [hx]); rw [<- e]; exact h
    have HXL := L0 hxl
    have hlen1 := Z6e ⟨l1, false⟩
    rw [hx] at hlen1
    have HTD := L0 HTI.out.drew
    have HNM : Hid (Calls Tryz.prog 74 #[.pointer (some ⟨q, 0, none⟩)] wr.drew fun e w' => e = .returned (.string ⟨x.toArray⟩) /\ RdAt w' q rx /\ Only q wr.drew w') := L0 (by have := Z8x wr.drew HTD.out.rd; rw [hx] at this; exact this)
    obtain ⟨⟨b, ry⟩, hy⟩ : ∃ x, atR rx [44] = x := ⟨_, rfl⟩
    have HAT44 : Hid (∀ w, RdAt w q rx -> Calls Tryz.prog 73 #[.pointer (some ⟨q, 0, none⟩), .string ⟨#[44]⟩] w fun e w' => e = .returned (.bool b) /\ RdAt w' q ry /\ Only q w w') := L0 fun w hr => by have := Z3g [44] w hr; rw [hy] at this; exact this
    have HBY : Hid ((acc.length + 1) * rStr.bytes <= 140737488355328) := L0 (by have := HLA.out; dsimp only at this; simp only [rStr]; omega)
    have HNX2 : Hid (b = true -> ry.l.length < l1.length) := L0 fun hb => by have h := Z4v (r := rx) (s := [44]) (by rw [hy, hb]); rw [hy] at h; dsimp only at h hlen1; omega
    have HIO : Hid (b = true -> Z0m Z27 [44] ry (acc ++ [x]) = (ins, r5)) := L0 fun hb => (Z5t Z6e acc rfl hx (by rw [hy, hb])).symm.trans HIE.out
    have HIF : Hid (b = false -> (acc ++ [x], ry) = (ins, r5)) := L0 fun hb => (Z44 acc rfl hx (by rw [hy, hb])).symm.trans HIE.out
    clear hx hy hxl hlen1
    go_wp2
    go_region_law (first
     | (refine Z4l (R := rStr) X04 rfl (.tmp 24) (.tmp 27) rfl rfl (by exact HT8.out.oi.alloc _) rfl (ys := [x]) (S2 := Up (fun _ => False) w8.heap.size) (fun _ => False) rfl (by exact Z8c (by decide) [.string ⟨x.toArray⟩] ⟨rfl, HXL.out⟩ (by decide)) (fun _ _ h => h) (fun _ h => h.elim) (by exact HBY.out) (by (have := HT8.out.hB; simp; omega)) ?_; intro v9 w9 hown9 hb9 _ _; obtain ⟨A9, l9, rfl⟩ : ∃ A9 l9, v9 = .slice A9 (acc.length + 1) l9 := (by (obtain ⟨A9, l9, h⟩ := hown9.value; exact ⟨A9, l9, by rw [h, L0h, L0p]⟩)); obtain ⟨hT9, k9, z9⟩ := TabI.growI (HT8.out.step (Only.alloc _ _) (HT8.out.rd.alloc _)) hb9 hown9 (Own.nil _ _ _ _ _); obtain ⟨W9, e9, HT9⟩ : ∃ W9, w9.setCell ⟨q3, 3, none⟩ (.slice A9 (acc.length + 1) l9) = W9 /\ Hid (TabI w q q2 q3 B0 rx nm pol cm (.slice A9 (acc.length + 1) l9) (acc ++ [x]) (.slice none 0 0) [] W9) := ⟨_, rfl, L0 hT9⟩; clear hT9 hown9 hb9)
     | (go_simp; go_at_call 74; (with_reducible refine HNM.out.mono ?_); rintro e w8 ⟨rfl, hr8, o8⟩; have HT8 := L0 (HTD.out.step o8 hr8); have p3 := HT8.out.c3; have q8 : q3 < w8.heap.size := L0e _ _ p3; clear hr8 o8))
    all_goals
     cases b
     ·go_wp2_with (go_at_call 73; (with_reducible refine (HAT44.out W9 HT9.out.rd).mono ?_); rintro e w10 ⟨rfl, hr10, o10⟩; have HT10 := L0 (HT9.out.step o10 hr10); clear hr10 o10)
      go_meet
      have hz := HIF.out (by simp)
      injection hz with hz1 hz2
      exact ⟨_, L0 (by rw [<- hz1, <- hz2]; exact HT10.out)⟩
     ·go_wp2_with (go_at_call 73; (with_reducible refine (HAT44.out W9 HT9.out.rd).mono ?_); rintro e w10 ⟨rfl, hr10, o10⟩; have HT10 := L0 (HT9.out.step o10 hr10); clear hr10 o10)
      go_roundw
      case rel => exact ⟨ry, acc ++ [x], _, HT10.out.rd.bad.1, HT10.out.c3, HT10, L0 (HIO.out (by simp)), L0 (by have h1 := HNX2.out (by simp); have h2 : acc.length + l1.length <= 4000 := HLA.out; rw [L0h, L0p]; omega)⟩
      case measure => rw [HT10.out.rd.len, HTI.out.rd.len]; exact HNX2.out (by simp)
   ·have hz := (Z7e acc rfl).symm.trans HIE.out
    injection hz with hz1 hz2
    have HZ1 := L0 hz1
    have HZ2 := L0 hz2
    clear hz1 hz2
    go_wp2
    go_meet
    exact ⟨_, L0 (by rw [<- HZ1.out, <- HZ2.out]; exact HTI.out)⟩
 case rest =>
  obtain ⟨ui, HTC⟩ := hcut
  obtain ⟨Ai, li, rfl⟩ := HTC.out.oi.value
  go_wp2_with (first
   | (go_at_call 76; first
    | ((with_reducible refine (HTK6.out wc HTC.out.rd).mono ?_); rintro e w11 ⟨rfl, hr11, o11⟩; have HT11 := L0 (HTC.out.step o11 hr11); clear hr11 o11)
    | ((with_reducible refine (HTK7.out w11 HT11.out.rd).mono ?_); rintro e w12 ⟨rfl, hr12, o12⟩; have HT12 := L0 (HT11.out.step o12 hr12); clear hr12 o12)))
  go_loopw [] (fun wr => ∃ (rr : Rs) (acc : List Rl) (u : Value), wr.cell? ⟨q, 1, none⟩ = some (.bool rr.bad) /\ Hid (TabI w q q2 q3 B0 rr nm pol cm (.slice Ai ins.length li) ins u acc wr) /\ Hid (NeB (.slice Ai ins.length li) u) /\ Hid (Z2m rr acc = (rules, r8)) /\ Hid ((rr.bad = false -> acc.length + rr.l.length <= 4000) /\ acc.length <= 4001)) (fun wr => rdM wr q)
  case atStart => exact ⟨r7, [], _, HT12.out.rd.bad.1, HT12, L0 (NeB.none _), H8, L0 ⟨fun _ => by simpa using HLN7.out, by simp⟩⟩
  case round =>
   clear HT12 H8 HLN7
   obtain ⟨⟨l1, b1⟩, acc, u, k0, HTI, HNE, HRE, HLA⟩ := hrel
   cases b1
   ·obtain ⟨⟨b, ry⟩, hb⟩ : ∃ x, atR ⟨l1, false⟩ [125] = x := ⟨_, rfl⟩
    have HATB : Hid (∀ w, RdAt w q ⟨l1, false⟩ -> Calls Tryz.prog 73 #[.pointer (some ⟨q, 0, none⟩), .string ⟨#[125]⟩] w fun e w' => e = .returned (.bool b) /\ RdAt w' q ry /\ Only q w w') := L0 fun w hr => by have := Z3g [125] w hr; rw [hb] at this; exact this
    have hleny := Z15 ⟨l1, false⟩ [125]
    rw [hb] at hleny
    cases b
    ·obtain ⟨Au, lu, rfl⟩ := HTI.out.orl.value
     obtain ⟨⟨cells, rc⟩, hc⟩ : ∃ x, Z0m Z3c [44] ry [] = x := ⟨_, rfl⟩
     obtain ⟨rd, hd⟩ : ∃ x, Z2v rc [61, 62] = x := ⟨_, rfl⟩
     obtain ⟨⟨n, re⟩, hn⟩ : ∃ x, Z0i rd = x := ⟨_, rfl⟩
     obtain ⟨rf, hf⟩ : ∃ x, Z2v re [59] = x := ⟨_, rfl⟩
     have hrule : Z67 ry = (⟨cells, n⟩, rf) := by unfold Z67; simp only [hc, hd, hn, hf]
     have hni := Z63 rd
     rw [hn] at hni
     have HNI : Hid (InI n) := L0 (by unfold InI; dsimp only at hni; omega)
     have HREN := L0 ((Y3u acc rfl hb hrule).symm.trans HRE.out)
     have HRF : Hid (rf.bad = false -> rf.l.length < l1.length) := L0 fun h => by
      have h2 := Y05 (r := ry) (by rw [hrule]; exact h)
      rw [hrule] at h2
      dsimp only at h2 hleny
      omega
     have HLNY : Hid (ry.l.length <= 4000) := L0 (by have h2 : acc.length + l1.length <= 4000 := HLA.out.1 rfl; dsimp only at hleny; omega)
     have HTKD : Hid (∀ w, RdAt w q rc -> Calls Tryz.prog 76 #[.pointer (some ⟨q, 0, none⟩), .string ⟨#[61, 62]⟩] w fun e w' => e = .returned (.tuple #[]) /\ RdAt w' q rd /\ Only q w w') := L0 fun w hr => by have := Z5g [61, 62] w hr; rw [hd] at this; exact this
     have HTKF : Hid (∀ w, RdAt w q re -> Calls Tryz.prog 76 #[.pointer (some ⟨q, 0, none⟩), .string ⟨#[59]⟩] w fun e w' => e = .returned (.tuple #[]) /\ RdAt w' q rf /\ Only q w w') := L0 fun w hr => by have := Z5g [59] w hr; rw [hf] at this; exact this
     have HNB : Hid (∀ w', RdAt w' q rd -> Only q w w' -> Calls Tryz.prog 75 #[.pointer (some ⟨q, 0, none⟩)] w' fun e w'' => e = .returned (.int .i64 n) /\ RdAt w'' q re /\ Only q w' w'') := L0 fun w' hr ho => by have := Z3a w' hr (fun w'' ho' => HL.out _ (ho.trans ho')); rw [hn] at this; exact this
     have HCEL := L0 hc
     have HBYR : Hid ((acc.length + 1) * rRl.bytes <= 140737488355328) := L0 (by have := HLA.out.2; simp only [rRl]; omega)
     clear hc hd hn hf hrule hni hb hleny
     go_upto_block 4 with (first
      | (go_at_call 73; (with_reducible refine (HATB.out wr HTI.out.rd).mono ?_); rintro e w13 ⟨rfl, hr13, o13⟩; have HT13 := L0 (HTI.out.step o13 hr13); obtain ⟨W12, e12, HCL⟩ := CelL.start (ty := 69) hr13 hr13.lt; clear hr13 o13))
     clear e12
     obtain ⟨q5, hq5⟩ : ∃ n, w13.heap.size = n := ⟨_, rfl⟩
     rw [hq5] at HCL
     rw [hq5]
     clear hq5
     go_cut [] (fun wx => ∃ u5, Hid (CelL w13 q q5 rc u5 cells wx))
     case first =>
      obtain ⟨wo, hwo⟩ : ∃ x, x = wr := ⟨_, rfl⟩
      subst hwo
      go_wp2_with fail
      go_loopw [] (fun wr => ∃ (rr : Rs) (cc : List Cl) (u : Value), wr.cell? ⟨q, 1, none⟩ = some (.bool rr.bad) /\ wr.cell? ⟨q5, 0, none⟩ = some u /\ Hid (CelL w13 q q5 rr u cc wr) /\ Hid (Z0m Z3c [44] rr cc = (cells, rc)) /\ Hid (cc.length + rr.l.length <= 4000)) (fun wr => Y5n wr q)
      case atStart => exact ⟨ry, [], _, HCL.out.rd.bad.1, HCL.out.c0, HCL, HCEL, L0 (by simpa using HLNY.out)⟩
      case round =>
       clear HCL HCEL HLNY
       obtain ⟨⟨l2, b2⟩, cc, u6, k6, k7, HCI, HIE, HLC⟩ := hrel
       cases b2
       ·obtain ⟨A6, l6, rfl⟩ := HCI.out.own.value
        obtain ⟨⟨x, rx⟩, hx⟩ : ∃ x, Z3c ⟨l2, false⟩ = x := ⟨_, rfl⟩
        have hlen1 := Z53 ⟨l2, false⟩
        rw [hx] at hlen1
        have HTD2 : Hid (CelL w13 q q5 ⟨l2, false⟩ (.slice A6 cc.length l6) cc wr.drew) := L0 (HCI.out.step (Only.drew (Only.refl _ _)) HCI.out.rd)
        have HCE : Hid (Calls Tryz.prog 106 #[.pointer (some ⟨q, 0, none⟩)] wr.drew fun e w' => ∃ v, e = .returned (.agg #[.bool x.no, v]) /\ Own rRg 74 w' wr.drew.heap.size (fun _ => False) v x.rs /\ RdAt w' q rx /\ Only q wr.drew w') := L0 (by have := Y7q wr.drew HTD2.out.rd (by have h2 : cc.length + l2.length <= 4000 := HLC.out; dsimp only; omega) (fun w' ho => HL.out _ ((HT13.out.only.trans HTD2.out.only).trans ho)); rw [hx] at this; exact this)
        obtain ⟨⟨b, rz⟩, hy⟩ : ∃ x, atR rx [44] = x := ⟨_, rfl⟩
        have HATZ : Hid (∀ w, RdAt w q rx -> Calls Tryz.prog 73 #[.pointer (some ⟨q, 0, none⟩), .string ⟨#[44]⟩] w fun e w' => e = .returned (.bool b) /\ RdAt w' q rz /\ Only q w w') := L0 fun w hr => by have := Z3g [44] w hr; rw [hy] at this; exact this
        have HBY : Hid ((cc.length + ([x] : List Cl).length) * rCl.bytes <= 140737488355328) := L0 (by have h2 : cc.length + l2.length <= 4000 := HLC.out; simp only [rCl, L0p]; omega)
        have HNX2 : Hid (b = true -> rz.l.length < l2.length) := L0 fun hb => by have h := Z4v (r := rx) (s := [44]) (by rw [hy, hb]); rw [hy] at h; dsimp only at h hlen1; omega
        have HIO : Hid (b = true -> Z0m Z3c [44] rz (cc ++ [x]) = (cells, rc)) := L0 fun hb => (Z5t Z53 cc rfl hx (by rw [hy, hb])).symm.trans HIE.out
        have HIF : Hid (b = false -> (cc ++ [x], rz) = (cells, rc)) := L0 fun hb => (Z44 cc rfl hx (by rw [hy, hb])).symm.trans HIE.out
        have HLO : Hid (∀ g, (Value.slice A6 cc.length l6).ownBlock = some g -> g < wr.heap.size) := L0 fun g hg => (HCI.out.own.lt g hg).2
        have HQW : Hid (q5 < wr.heap.size) := L0 HCI.out.hq.2.2
        clear hx hy hlen1
        go_wp2
        go_region_law (first
         | (refine Z4l (R := rCl) X2u rfl (.tmp 53) (.tmp 56) rfl rfl (by exact HC8.out.own.alloc _) rfl (ys := [x]) (S2 := Up (Up (fun _ => False) wr.drew.heap.size) w8.heap.size) (Up (Up (fun _ => False) wr.drew.heap.size) w8.heap.size) rfl (by exact Z8c (by decide) [.bool x.no, .slice Ax x.rs.length lx] HX8.out (by decide)) (fun _ _ h => h) (by (intro g hg _; exact HS8.out g hg)) (by exact HBY.out) (by (have := HC8.out.hq.2.2; simp; omega)) ?_; intro v9 w9 hown9 hb9 _ _; obtain ⟨A9, l9, rfl⟩ : ∃ A9 l9, v9 = .slice A9 (cc.length + 1) l9 := (by (obtain ⟨A9, l9, h⟩ := hown9.value; exact ⟨A9, l9, by rw [h, L0h, L0p]⟩)); obtain ⟨hT9, k9, z9⟩ := CelL.grow (HC8.out.step (Only.alloc _ _) (HC8.out.rd.alloc _)) hb9 hown9; obtain ⟨W9, e9, HC9⟩ : ∃ W9, w9.setCell ⟨q5, 0, none⟩ (.slice A9 (cc.length + 1) l9) = W9 /\ Hid (CelL w13 q q5 rx (.slice A9 (cc.length + 1) l9) (cc ++ [x]) W9) := ⟨_, rfl, L0 hT9⟩; clear hT9 hown9 hb9)
         | (go_simp; go_at_call 106; (with_reducible refine HCE.out.mono ?_); rintro e w8 ⟨v8, rfl, hx8, hr8, o8⟩; obtain ⟨Ax, lx, rfl⟩ := hx8.value; have HX8 : Hid (rCl.rel w8 (Up (fun _ => False) wr.drew.heap.size) [.bool x.no, .slice Ax x.rs.length lx] x) := L0 ⟨_, rfl, hx8.rel (by decide)⟩; have HC8 := L0 (HTD2.out.step o8 hr8); have p3 := HC8.out.c0; have q8 : q5 < w8.heap.size := L0e _ _ p3; have HS8 : Hid (∀ g, Up (Up (fun _ => False) wr.drew.heap.size) w8.heap.size g -> Up (fun _ => False) (q5 + 1) g /\ (Value.slice A6 cc.length l6).ownBlock ≠ some g) := L0 (Y6v HQW.out HLO.out o8.size); clear hx8 hr8 o8))
        all_goals
         cases b
         ·go_wp2_with (go_at_call 73; (with_reducible refine (HATZ.out W9 HC9.out.rd).mono ?_); rintro e w10 ⟨rfl, hr10, o10⟩; have HC10 := L0 (HC9.out.step o10 hr10); clear hr10 o10)
          go_meet
          have hz := HIF.out (by simp)
          injection hz with hz1 hz2
          exact ⟨_, L0 (by rw [<- hz1, <- hz2]; exact HC10.out)⟩
         ·go_wp2_with (go_at_call 73; (with_reducible refine (HATZ.out W9 HC9.out.rd).mono ?_); rintro e w10 ⟨rfl, hr10, o10⟩; have HC10 := L0 (HC9.out.step o10 hr10); clear hr10 o10)
          go_roundw
          case rel => exact ⟨rz, cc ++ [x], _, HC10.out.rd.bad.1, HC10.out.c0, HC10, L0 (HIO.out (by simp)), L0 (by have h1 := HNX2.out (by simp); have h2 : cc.length + l2.length <= 4000 := HLC.out; rw [L0h, L0p]; omega)⟩
          case measure => rw [HC10.out.rd.len, HCI.out.rd.len]; exact HNX2.out (by simp)
       ·have hz := (Z7e cc rfl).symm.trans HIE.out
        injection hz with hz1 hz2
        have HZ1 := L0 hz1
        have HZ2 := L0 hz2
        clear hz1 hz2
        go_wp2
        go_meet
        exact ⟨_, L0 (by rw [<- HZ1.out, <- HZ2.out]; exact HCI.out)⟩
     case rest =>
      obtain ⟨u5, HC5⟩ := hcut
      obtain ⟨A5, l5, rfl⟩ := HC5.out.own.value
      have HQ13 : Hid (B0 <= w13.heap.size /\ w13.heap.size <= q5 /\ q < q5 + 1 /\ ∀ g, (Value.slice Au acc.length lu).ownBlock = some g -> g < q5) := L0 (by
       have h1 := HT13.out.hB
       have h2 := HC5.out.hq
       exact ⟨h1, h2.2.1, by omega, fun g hg => by have := (HT13.out.orl.lt g hg).2; omega⟩)
      go_wp2_with (first
       | (go_at_call 76; first
        | ((with_reducible refine (HTKD.out wc HC5.out.rd).mono ?_); rintro e w14 ⟨rfl, hr14, o14⟩; have HC14 := L0 (HC5.out.step o14 hr14); clear hr14 o14)
        | ((with_reducible refine (HTKF.out W16 H16.out.1).mono ?_); rintro e w17 ⟨rfl, hr17, o17⟩; obtain ⟨hc17, t0, t1, hrel17⟩ := Y7r (cells := cells) (n := n) (l5 := l5) (A5 := A5) HT13.out H16.out K16.out O16.out o17 hr17 HNI.out; have HT17 := L0 hc17; have HR17 := L0 hrel17; have kk := HT17.out.c4; clear hr17 hc17 hrel17))
       | (go_at_call 75; (with_reducible refine (HNB.out w14 HC14.out.rd (HT13.out.only.trans HC14.out.only)).mono ?_); rintro e w15 ⟨rfl, hr15, o15⟩; have HC15 := L0 (HC14.out.step o15 hr15); have p5 := HC15.out.c1; have pz5 := HC15.out.z 1; obtain ⟨W16, e16, H16, K16, O16⟩ := HC15.out.out n; clear hr15 o15)
       | (at_builtin; refine Z0a (R := rRl) (x := ⟨cells, n⟩) X2v rfl (.tmp 70) (.tmp 72) rfl rfl HT17.out.orl [.slice A5 cells.length l5, .int .i64 n] rfl rfl (Up (fun _ => False) (q5 + 1)) HR17.out (by (intro g hg _; exact ⟨.inr (by (have := HQ13.out; rcases hg with hg | hg; exact hg.elim; omega)), fun e => by (have := HQ13.out.2.2.2 g e; rcases hg with hg | hg; exact hg.elim; omega)⟩)) HBYR.out HT17.out.hB ?_; intro v18 w18 hown18 hb18 hg18 he18; obtain ⟨A8, l8, rfl⟩ : ∃ A8 l8, v18 = .slice A8 (acc.length + 1) l8 := (by (obtain ⟨A8, l8, h⟩ := hown18.value; exact ⟨A8, l8, by rw [h, L0h, L0p]⟩)); obtain ⟨hT18, k18, z18⟩ := HT17.out.growR hb18 (Own.kept_flat HT17.out.oi Y62 hg18 HNE.out) hown18; have HNE8 := L0 (NeB.next HNE.out (fun g hg => (HT17.out.oi.lt g hg).2) he18); obtain ⟨W19, e19, HT19⟩ : ∃ W19, w18.setCell ⟨q3, 4, none⟩ (.slice A8 (acc.length + 1) l8) = W19 /\ Hid (TabI w q q2 q3 B0 rf nm pol cm (.slice Ai ins.length li) ins (.slice A8 (acc.length + 1) l8) (acc ++ [⟨cells, n⟩]) W19) := ⟨_, rfl, L0 hT18⟩; clear hT18 hown18 hb18 hg18 he18))
      go_roundw
      case rel => exact ⟨rf, acc ++ [⟨cells, n⟩], _, HT19.out.rd.bad.1, HT19, HNE8, HREN, L0 ⟨fun hb => by have h1 := HRF.out hb; have h2 : acc.length + l1.length <= 4000 := HLA.out.1 (by simp); rw [L0h, L0p]; omega, by have h2 : acc.length + l1.length <= 4000 := HLA.out.1 (by simp); rw [L0h, L0p]; omega⟩⟩
      case measure => rw [HT19.out.rd.m, HTI.out.rd.m]; exact X1b HRF.out
    ·have HZ := L0 ((Y2m acc rfl hb).symm.trans HRE.out)
     clear hb hleny
     obtain ⟨Av, lv, rfl⟩ := HTI.out.orl.value
     go_wp2_with (go_at_call 73; (with_reducible refine (HATB.out wr HTI.out.rd).mono ?_); rintro e w13 ⟨rfl, hr13, o13⟩; have HT13 := L0 (HTI.out.step o13 hr13); obtain ⟨W20, e20, n0, n1, n2, n3, n4, H20⟩ := HT13.out.done; have d0 := HT13.out.c0; have d1 := HT13.out.c1; have d2 := HT13.out.c2; have d3 := HT13.out.c3; have d4 := HT13.out.c4; have f0 := HT13.out.f0; have f1 := HT13.out.f1; have f2 := HT13.out.f2; have f3 := HT13.out.f3; have f4 := HT13.out.f4; have y0 := HT13.out.y 0; have y1 := HT13.out.y 1; have y2 := HT13.out.y 2; have y3 := HT13.out.y 3; have y4 := HT13.out.y 4; clear hr13 o13)
     refine bodyPost_ret (by simp [results, Tryz.results78, go_sem, n0, n1, n2, n3, n4]; rfl) rfl ?_
     have hz := HZ.out
     injection hz with hz1 hz2
     exact ⟨_, _, rfl, H20.out.1, by rw [<- hz1]; exact H20.out.2.1, by rw [<- hz2]; exact H20.out.2.2.1, H20.out.2.2.2⟩
   ·have HZ := L0 ((Z7g acc rfl).symm.trans HRE.out)
    obtain ⟨Av, lv, rfl⟩ := HTI.out.orl.value
    obtain ⟨W20, e20, n0, n1, n2, n3, n4, H20⟩ := HTI.out.done
    have d0 := HTI.out.c0
    have d1 := HTI.out.c1
    have d2 := HTI.out.c2
    have d3 := HTI.out.c3
    have d4 := HTI.out.c4
    have f0 := HTI.out.f0
    have f1 := HTI.out.f1
    have f2 := HTI.out.f2
    have f3 := HTI.out.f3
    have f4 := HTI.out.f4
    have y0 := HTI.out.y 0
    have y1 := HTI.out.y 1
    have y2 := HTI.out.y 2
    have y3 := HTI.out.y 3
    have y4 := HTI.out.y 4
    go_wp2
    refine bodyPost_ret (by simp [results, Tryz.results78, go_sem, n0, n1, n2, n3, n4]; rfl) rfl ?_
    have hz := HZ.out
    injection hz with hz1 hz2
    exact ⟨_, _, rfl, H20.out.1, by rw [<- hz1]; exact H20.out.2.1, by rw [<- hz2]; exact H20.out.2.2.1, H20.out.2.2.2⟩
