import Derived.Test.YtlopccnehgolnacGreatDoorGK8
import Derived.Test.YtlopccnehgolnacGreatDoorGK0
import Derived.Deep.DeepMust
import Derived.Lib.Hide
namespace Go.Proofs.YtlopccnehgolnacGreatDoor
open Go.RowKit Rb
set_option maxRecDepth 100000
set_option maxHeartbeats 800000
def Only (q : Nat) (w w' : World) : Prop := w.grownBy w' (some q)
theorem Only.refl (q : Nat) (w : World) : Only q w w := ⟨rfl, rfl, rfl, L0g _, fun _ _ _ => rfl⟩
theorem Only.size {q : Nat} {w w' : World} (h : Only q w w') : w.heap.size <= w'.heap.size := World.grownBy.size h
theorem Only.trans {q : Nat} {w w' w'' : World} (h : Only q w w') (k : Only q w' w'') : Only q w w'' :=
 ⟨k.os.trans h.os, k.tape.trans h.tape, k.output.trans h.output, L0h h.size k.size, fun j hj hne => (k.block j (L0c hj h.size) hne).trans (h.block j hj hne)⟩
theorem Only.below {q : Nat} {w w' : World} (h : Bw w w') : Only q w w' := Below.grownBy_ h
theorem Only.set {q : Nat} (w : World) (i : Nat) (u : Value) : Only q w (w.setCell (zn q i) u) := Z0u w (zn q i) u
theorem Only.alloc {q : Nat} (w : World) (o : Obj) : Only q w (w.alloc o) := .below ((L0m _ _).alloc (L0g _) o)
theorem Only.cell {q : Nat} {w w' : World} (h : Only q w w') {b : Nat} (hb : b < w.heap.size) (hne : b ≠ q) (o : Nat) : w'.cell? (zn b o) = w.cell? (zn b o) := (Z1p h hb (fun e => hne (L0s e).symm) o).1
theorem Only.frozen {q : Nat} {w w' : World} (h : Only q w w') {b : Nat} (hb : b < w.heap.size) (hne : b ≠ q) (o : Nat) : w'.frozen? (zn b o) = w.frozen? (zn b o) := (Z1p h hb (fun e => hne (L0s e).symm) o).2
theorem Only.toBelow {q : Nat} {w w' : World} (h : Only q w w') {B : Nat} (hB : B <= q) (hl : B <= w.heap.size) : Below B w w' :=
 ⟨h.os, h.tape, h.output, h.size, fun k hk => h.block k (L0c hk hl) (fun e => by have := L0s e; omega)⟩
theorem Own.only {α : Type} {R : Rd α} {e : TypeId} {q base : Nat} {w w' : World} {v : Value} {xs : List α} (h : Own R e w base (fun _ => False) v xs) (ho : Only q w w') (hq : q < base) : Own R e w' base (fun _ => False) v xs := by
 have hlt := h.lt
 obtain ⟨S, h1, h2⟩ := h
 refine ⟨S, h1.kept ho ?_ ?_, h2⟩
 ·cases hv : v.ownBlock with
  | none => exact .inl rfl
  | some g =>
   refine .inr fun e => ?_
   have := (hlt g hv).1
   have := L0s e
   omega
 intro g hg hS
 cases hg
 rcases h2 _ hS with h | h
 ·exact h
 omega
structure Rs where
 l : List Txt
 bad : Bool
def Z3j (r : Rs) : Txt × Rs := match r.l with | [] => ([], ⟨[], true⟩) | s :: l => (s, ⟨l, r.bad⟩)
def atR (r : Rs) (s : Txt) : Bool × Rs := match r.l with | [] => (false, r) | x :: l => if x == s then (true, ⟨l, r.bad⟩) else (false, r)
def Z28 (r : Rs) (s : Txt) : Rs := if (atR r s).1 then (atR r s).2 else ⟨(atR r s).2.l, true⟩
def RdAt (w : World) (q : Nat) (r : Rs) : Prop :=
 ∃ A c, w.cell? (zn q 0) = some (.slice A r.l.length c) /\ w.cell? (zn q 1) = some (.bool r.bad) /\ w.frozen? (zn q 0) = false /\ w.frozen? (zn q 1) = false /\ (rSl rStr).rel w (fun b => b < q) [.slice A r.l.length c] r.l
theorem RdAt.lt {w : World} {q : Nat} {r : Rs} (h : RdAt w q r) : q < w.heap.size := by
 obtain ⟨A, c, h0, _⟩ := h
 exact L0d _ _ h0
theorem RdAt.below {w w' : World} {q : Nat} {r : Rs} (h : RdAt w q r) (hb : Bw w w') : RdAt w' q r := by
 have hq := h.lt
 obtain ⟨A, c, h0, h1, z0, z1, hr⟩ := h
 exact ⟨A, c, (hb.ce 0 hq).trans h0, (hb.ce 1 hq).trans h1, (hb.fr 0 hq).trans z0, (hb.fr 1 hq).trans z1, Rd.below hr hb⟩
theorem RdAt.alloc {w : World} {q : Nat} {r : Rs} (h : RdAt w q r) (o : Obj) : RdAt (w.alloc o) q r := h.below ((L0m _ _).alloc (L0g _) o)
theorem RdAt.other {w : World} {q b : Nat} {r : Rs} (h : RdAt w q r) (hb : q < b) (i : Nat) (u : Value) : RdAt (w.setCell (zn b i) u) q r := by
 obtain ⟨A, c, h0, h1, z0, z1, hr⟩ := h
 have hne : ¬ (b = q) := by omega
 exact ⟨A, c, (L0a _ _ _ _ (by simp <;> omega)).trans h0, (L0a _ _ _ _ (by simp <;> omega)).trans h1, by rw [L0k]; exact z0, by rw [L0k]; exact z1, (rSl rStr).keep hr (.setCell (by simp <;> omega) _)⟩
theorem RdAt.setBad {w : World} {q : Nat} {r : Rs} (h : RdAt w q r) (b : Bool) : RdAt (w.setCell (zn q 1) (.bool b)) q ⟨r.l, b⟩ := by
 obtain ⟨A, c, h0, h1, z0, z1, hr⟩ := h
 exact ⟨A, c, (cso).trans h0, L0e _ _ _ h1, by rw [L0k]; exact z0, by rw [L0k]; exact z1, (rSl rStr).keep hr (.setCell (by simp) _)⟩
theorem RdAt.cut {w : World} {q b off c : Nat} {s : Txt} {l : List Txt} {bad : Bool} (h : RdAt w q ⟨s :: l, bad⟩) (hc : w.cell? (zn q 0) = some (.slice (some (zn b off)) (l.length + 1) c)) : RdAt (w.setCell (zn q 0) (.slice (some (zn b (off + 1))) l.length (c - 1))) q ⟨l, bad⟩ := by
 obtain ⟨A, c', h0, h1, z0, z1, hr⟩ := h
 have h2 := h0.symm.trans hc
 simp only [L0r, L3j, Value.slice.injEq, true_and] at h2
 obtain ⟨rfl, rfl⟩ := h2
 obtain ⟨A1, k1, hA0, hc1, hc2, hby, hE⟩ := rSl.elems hr
 injection hA0 with e1 e2 e3
 subst e1 e3
 have hd := hE.drop 1
 have hadd : (some ((zn b off) : Addr)).map (·.add (1 * rStr.k)) = some (zn b (off + 1)) := rfl
 rw [hadd] at hd
 simp only [L4s, L3h] at hd
 simp only [L0r] at hc1 hby
 refine ⟨some (zn b (off + 1)), c' - 1, L0e _ _ _ h0, (cso).trans h1, by rw [L0k]; exact z0, by rw [L0k]; exact z1, ?_⟩
 refine (rSl rStr).keep (w := w) ⟨some (zn b (off + 1)), c' - 1, rfl, by show l.length <= _; omega, by omega, ?_, hd⟩ (.setCell (by simp) _)
 show l.length * _ <= _
 simp only [rStr] at hby ⊢
 omega
theorem RdAt.cut1 {w : World} {q b off : Nat} {s : Txt} {l : List Txt} {bad : Bool} (h : RdAt w q ⟨s :: l, bad⟩) (hc : w.cell? (zn q 0) = some (.slice (some (zn b off)) (l.length + 1) 1)) : RdAt (w.setCell (zn q 0) (.slice (some (zn b off)) l.length 0)) q ⟨l, bad⟩ := by
 obtain ⟨A, c', h0, h1, z0, z1, hr⟩ := h
 have h2 := h0.symm.trans hc
 simp only [L0r, L3j, Value.slice.injEq, true_and] at h2
 obtain ⟨rfl, rfl⟩ := h2
 obtain ⟨A1, k1, hA0, hc1, hc2, hby, hE⟩ := rSl.elems hr
 injection hA0 with e1 e2 e3
 subst e1 e3
 simp only [L0r] at hc1
 obtain rfl : l = [] := L1g (by omega)
 exact ⟨some (zn b off), 0, L0e _ _ _ h0, (cso).trans h1, by rw [L0k]; exact z0, by rw [L0k]; exact z1, ⟨some (zn b off), 0, rfl, L0g _, by simp, by simp, fun i x hx => by simp at hx⟩⟩
theorem RdAt.word {w : World} {q : Nat} {s : Txt} {l : List Txt} {bad : Bool} (h : RdAt w q ⟨s :: l, bad⟩) : ∃ b off c, w.cell? (zn q 0) = some (.slice (some (zn b off)) (l.length + 1) c) /\ w.cell? (zn q 1) = some (.bool bad) /\ w.frozen? (zn q 0) = false /\ w.frozen? (zn q 1) = false /\ w.cell? (zn b off) = some (sq s) /\ l.length + 1 <= c /\ b < q /\ l.length < 8796093022208 := by
 obtain ⟨A, c, h0, h1, z0, z1, hr⟩ := h
 obtain ⟨A1, k1, hA0, hc1, hc2, hby, hE⟩ := rSl.elems hr
 injection hA0 with e1 e2 e3
 subst e1 e3
 obtain ⟨b, off, x, rfl, hbq, hb, hx, hxl, g0⟩ := hE.str (i := 0) (by simp)
 obtain rfl : s = x := L0s hx
 simp only [L3x] at g0
 simp only [L0r, rStr] at hby
 exact ⟨b, off, c, h0, h1, z0, z1, g0, hc1, hbq, by omega⟩
theorem RdAt.empty {w : World} {q : Nat} {bad : Bool} (h : RdAt w q ⟨[], bad⟩) : ∃ A c, w.cell? (zn q 0) = some (.slice A 0 c) /\ w.cell? (zn q 1) = some (.bool bad) /\ w.frozen? (zn q 0) = false /\ w.frozen? (zn q 1) = false := by
 obtain ⟨A, c, h0, h1, z0, z1, hr⟩ := h
 exact ⟨A, c, h0, h1, z0, z1⟩
theorem Y2b {q : Nat} {r : Rs} (w : World) (h : RdAt w q r) :
  Calls Tryz.prog 104 #[.pointer (some (zn q 0))] w fun e w' => e = .returned (.string ⟨(Z3j r).1.toArray⟩) /\ RdAt w' q (Z3j r).2 /\ Only q w w' := by
 have H := L0 h
 obtain ⟨l, bad⟩ := r
 cases l with
 | nil =>
  obtain ⟨A, c, h0, h1, z0, z1⟩ := h.empty
  have HF := L0 (h.setBad true)
  clear h
  go_enter Tryz.func104, Tryz.ntmps104
  go_wp2
  go_ret
  exact ⟨rfl, HF.o, Only.set _ _ _⟩
 | cons s l =>
  obtain ⟨b, off, c, h0, h1, z0, z1, g0, hc, hb, hl⟩ := h.word
  clear h
  by_cases c1 : c = 1
  ·subst c1
   obtain rfl : l = [] := L1g (by omega)
   have HC := L0 (H.o.cut1 h0)
   go_enter Tryz.func104, Tryz.ntmps104
   go_wp2
   go_ret
   exact ⟨rfl, HC.o, Only.set _ _ _⟩
  have HC := L0 (H.o.cut h0)
  go_enter Tryz.func104, Tryz.ntmps104
  go_wp2
  go_ret
  exact ⟨rfl, HC.o, Only.set _ _ _⟩
theorem Z3z {q : Nat} {r : Rs} (s : Txt) (w : World) (h : RdAt w q r) :
  Calls Tryz.prog 73 #[.pointer (some (zn q 0)), sq s] w fun e w' => e = .returned (.bool (atR r s).1) /\ RdAt w' q (atR r s).2 /\ Only q w w' := by
 have H := L0 h
 obtain ⟨l, bad⟩ := r
 cases l with
 | nil =>
  obtain ⟨A, c, h0, h1, z0, z1⟩ := h.empty
  clear h
  go_enter Tryz.func73, Tryz.ntmps73
  go_wp2
  go_ret
  exact ⟨rfl, H.o, Only.refl _ _⟩
 | cons x l =>
  obtain ⟨b, off, c, h0, h1, z0, z1, g0, hc, hb, hl⟩ := h.word
  clear h
  cases hxs : (x == s)
  ·have HA : Hid (atR ⟨x :: l, bad⟩ s = (false, ⟨x :: l, bad⟩)) := L0 (by unfold atR; simp [hxs])
   rw [HA.o]
   go_enter Tryz.func73, Tryz.ntmps73
   go_wp2
   go_ret
   exact ⟨rfl, H.o, Only.refl _ _⟩
  have HA : Hid (atR ⟨x :: l, bad⟩ s = (true, ⟨l, bad⟩)) := L0 (by unfold atR; simp [hxs])
  rw [HA.o]
  by_cases c1 : c = 1
  ·subst c1
   obtain rfl : l = [] := L1g (by omega)
   have HC := L0 (H.o.cut1 h0)
   go_enter Tryz.func73, Tryz.ntmps73
   go_wp2
   go_ret
   exact ⟨rfl, HC.o, Only.set _ _ _⟩
  have HC := L0 (H.o.cut h0)
  go_enter Tryz.func73, Tryz.ntmps73
  go_wp2
  go_ret
  exact ⟨rfl, HC.o, Only.set _ _ _⟩
theorem RdAt.bad {w : World} {q : Nat} {r : Rs} (h : RdAt w q r) : w.cell? (zn q 1) = some (.bool r.bad) /\ w.frozen? (zn q 1) = false := by
 obtain ⟨A, c, h0, h1, z0, z1, hr⟩ := h
 exact ⟨h1, z1⟩
theorem Z6e {q : Nat} {r : Rs} (s : Txt) (w : World) (h : RdAt w q r) :
  Calls Tryz.prog 76 #[.pointer (some (zn q 0)), sq s] w fun e w' => e = .returned (.tuple #[]) /\ RdAt w' q (Z28 r s) /\ Only q w w' := by
 have HA := L0 (Z3z s w h)
 obtain ⟨⟨f, r1⟩, hr1⟩ : ∃ x, atR r s = x := ⟨_, rfl⟩
 rw [hr1] at HA
 have HT : Hid (Z28 r s = if f then r1 else ⟨r1.l, true⟩) := L0 (by unfold Z28; rw [hr1])
 rw [HT.o]
 clear hr1
 go_enter Tryz.func76, Tryz.ntmps76
 cases f
 ·go_wp2_with (go_at_call 73; (with_reducible refine HA.o.mono ?_); rintro e w1 ⟨rfl, h1, o1⟩; obtain ⟨k1, z1⟩ := h1.bad; have H1 := L0 h1; have O1 := L0 o1; clear h1 o1)
  go_end0
  exact ⟨rfl, H1.o.setBad true, O1.out.trans (Only.set _ _ _)⟩
 go_wp2_with (go_at_call 73; (with_reducible refine HA.o.mono ?_); rintro e w1 ⟨rfl, h1, o1⟩; obtain ⟨k1, z1⟩ := h1.bad; have H1 := L0 h1; have O1 := L0 o1; clear h1 o1)
 go_end0
 exact ⟨rfl, H1.o, O1.out⟩
