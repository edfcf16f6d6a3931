import Derived.Test.YtlopccnehgolnacGreatDoorDel
import Derived.Deep.RegionHeld3
import Derived.BigRegion
namespace Go.Proofs.YtlopccnehgolnacGreatDoor
open Go.RowKit Rb
set_option maxRecDepth 100000
set_option maxHeartbeats 1600000
def delD (l : List Dm) (s : Txt) : List Dm := l.filter fun d => !(d.name == s)
def delT (l : List Tb) (s : Txt) : List Tb := l.filter fun d => !(d.name == s)
def Z0r (b : Bk) (s : Txt) : Bk := ⟨delD b.doms s, delT b.tabs s⟩
section
variable {α : Type} {R : Rd α} {e : TypeId} {w : World} {base : Nat} {S S' : Nat -> Prop} {v : Value} {xs : List α}
theorem OwnS.mono (h : OwnS R e w base S v xs) (hS : ∀ b, S b -> S' b) (hr : ∀ b, S' b -> b < base) : OwnS R e w base S' v xs := by
 have hlt := h.lt
 obtain ⟨cells, h1, h2, h3, h4⟩ := h
 exact ⟨cells, h1, fun g hg hb => by have := hr g hb; have := (hlt g hg).1; omega, h3, fun i x hx => R.mono (h4 i x hx) fun b hb _ => hS b hb⟩
theorem OwnS.belowB (h : OwnS R e w base S v xs) {w' : World} {B : Nat} (hb : Below B w w') (hv : ∀ g, v.ownBlock = some g -> g < B) (hS : ∀ b, S b -> b < B) : OwnS R e w' base S v xs := by
 obtain ⟨cells, h1, h2, h3, h4⟩ := h
 refine ⟨cells, ⟨h1.1, ?_⟩, h2, h3, fun i x hx => R.keep (h4 i x hx) fun b hs _ => hb.block b (hS b hs)⟩
 rcases h1.2 with h0 | ⟨g, cap, cur, rfl, hg, hh, rest⟩
 ·exact .inl h0
 exact .inr ⟨g, cap, cur, rfl, hg, (hb.block g (hv g rfl)).trans hh, rest⟩
theorem OwnS.shape (h : OwnS R e w base S v xs) : ∃ A n c, v = .slice A n c := by
 obtain ⟨A, c, h⟩ := h.self.value
 exact ⟨A, _, c, h⟩
theorem OwnS.lower (h : OwnS R e w base S v xs) {base' : Nat} (hb : base' <= base) : OwnS R e w base' S v xs := by
 obtain ⟨cells, h1, h2, h3, h4⟩ := h
 refine ⟨cells, ⟨h1.1, ?_⟩, h2, h3, h4⟩
 rcases h1.2 with h0 | ⟨g, cap, cur, hv, hg, rest⟩
 ·exact .inl h0
 exact .inr ⟨g, cap, cur, hv, L0h hb hg, rest⟩
end
theorem X0g {S : Nat -> Prop} {A : Option Addr} {c : Nat} {l : List Dm} (w : World) (hE : Elems rDm w S A l) (hb : l.length * 32 <= 140737488355328) (hS : ∀ b, S b -> b < w.heap.size) :
  Calls Tryz.prog 55 #[.slice A l.length c] w fun e w' => ∃ A' c', e = .returned (.slice A' l.length c') /\ OwnS rDm 63 w' w.heap.size S (.slice A' l.length c') l /\ Bw w w' := by
 refine (Y70 w hE hb).mono ?_
 rintro e w' ⟨z, rfl, h1, h2⟩
 obtain ⟨A', c', rfl⟩ := h1.self.value
 exact ⟨A', c', rfl, h1.mono (fun _ h => h.1) hS, h2⟩
theorem X0h {S : Nat -> Prop} {A : Option Addr} {c : Nat} {l : List Tb} (w : World) (hE : Elems rTb w S A l) (hb : l.length * 80 <= 140737488355328) (hS : ∀ b, S b -> b < w.heap.size) :
  Calls Tryz.prog 58 #[.slice A l.length c] w fun e w' => ∃ A' c', e = .returned (.slice A' l.length c') /\ OwnS rTb 66 w' w.heap.size S (.slice A' l.length c') l /\ Bw w w' := by
 refine (X2n w hE hb).mono ?_
 rintro e w' ⟨z, rfl, h1, h2⟩
 obtain ⟨A', c', rfl⟩ := h1.self.value
 exact ⟨A', c', rfl, h1.mono (fun _ h => h.1) hS, h2⟩
theorem Z4v {S : Nat -> Prop} {cs : List Value} {b : Bk} (s : Txt) (w : World) (hl : rBk.rel w S cs b) (hSw : ∀ q, S q -> q < w.heap.size) :
  Calls Tryz.prog 35 #[.agg cs.toArray, sq s] w fun e w' => ∃ v u, e = .returned (.agg #[v, u]) /\ OwnS rDm 63 w' w.heap.size S v (delD b.doms s) /\ OwnS rTb 66 w' w.heap.size S u (delT b.tabs s) /\
   (∀ g, v.ownBlock = some g -> u.ownBlock ≠ some g) /\ Bw w w' := by
 obtain ⟨v0, u0, rfl, hd, ht⟩ := hl
 obtain ⟨A, c, rfl, _, _, hbd, hED⟩ := rSl.elems hd
 obtain ⟨B, d, rfl, _, _, hbt, hET⟩ := rSl.elems ht
 have hbd' : b.doms.length * 32 <= 140737488355328 := by simpa [rDm] using hbd
 have hbt' : b.tabs.length * 80 <= 140737488355328 := by simpa [rTb] using hbt
 obtain ⟨X, e1, HB1, k0, k1, nm, r0, r1, z0, z1, hsz⟩ : ∃ X, ((w.alloc (.cells #[.slice A b.doms.length c, .slice B b.tabs.length d] 38)).alloc (.cells #[sq s] 9)).alloc (.cells #[nl, nl] 38) = X /\ Hid (Bw w X) /\
   X.cell? (zn w.heap.size 0) = some (.slice A b.doms.length c) /\ X.cell? (zn w.heap.size 1) = some (.slice B b.tabs.length d) /\ X.cell? (zn (w.heap.size + 1) 0) = some (sq s) /\
   X.cell? (zn (w.heap.size + 2) 0) = some (nl) /\ X.cell? (zn (w.heap.size + 2) 1) = some (nl) /\ X.frozen? (zn (w.heap.size + 2) 0) = false /\ X.frozen? (zn (w.heap.size + 2) 1) = false /\ X.heap.size = w.heap.size + 3 := by
  have fz : ∀ (w : World) (cs : Array Value) (t : TypeId) (o : Nat), (w.alloc (.cells cs t)).frozen? (zn w.heap.size o) = false := fun w cs t o => by simp
  have q1 : (w.alloc (.cells #[.slice A b.doms.length c, .slice B b.tabs.length d] 38)).heap.size = w.heap.size + 1 := by simp
  have q2 : ((w.alloc (.cells #[.slice A b.doms.length c, .slice B b.tabs.length d] 38)).alloc (.cells #[sq s] 9)).heap.size = w.heap.size + 2 := by simp
  refine ⟨_, rfl, L0 ((bA.alloc (by simp) _).alloc (by simp <;> omega) _), ?_, ?_, ?_, ?_, ?_, ?_, ?_, by simp⟩
  ·exact (L0j _ _ _ (by simp <;> omega)).trans ((L0j _ _ _ (by simp)).trans (L0b _ _ _ _))
  ·exact (L0j _ _ _ (by simp <;> omega)).trans ((L0j _ _ _ (by simp)).trans (L0b _ _ _ _))
  ·rw [<- q1]; exact (L0j _ _ _ (by simp)).trans (L0b _ _ _ _)
  ·rw [<- q2]; exact L0b _ _ _ _
  ·rw [<- q2]; exact L0b _ _ _ _
  ·rw [<- q2]; exact fz _ _ _ _
  rw [<- q2]; exact fz _ _ _ _
 have HSZ := L0 hsz
 have hq0 : w.heap.size < X.heap.size := by omega
 have hq1 : w.heap.size + 1 < X.heap.size := by omega
 have hq2 : w.heap.size + 2 < X.heap.size := by omega
 have HCELL : Hid (∀ w', Bw X w' -> w'.cell? (zn w.heap.size 0) = some (.slice A b.doms.length c) /\ w'.cell? (zn w.heap.size 1) = some (.slice B b.tabs.length d) /\ w'.cell? (zn (w.heap.size + 1) 0) = some (sq s)) := L0 fun w' hb => ⟨(hb.ce 0 hq0).trans k0, (hb.ce 1 hq0).trans k1, (hb.ce 0 hq1).trans nm⟩
 have HRES : Hid (∀ w', Bw X w' -> w'.cell? (zn (w.heap.size + 2) 0) = some (nl) /\ w'.cell? (zn (w.heap.size + 2) 1) = some (nl) /\ w'.frozen? (zn (w.heap.size + 2) 0) = false /\ w'.frozen? (zn (w.heap.size + 2) 1) = false) := L0 fun w' hb =>
  ⟨(hb.ce 0 hq2).trans r0, (hb.ce 1 hq2).trans r1, (hb.fr 0 hq2).trans z0, (hb.fr 1 hq2).trans z1⟩
 have HS : Hid (∀ w', Bw X w' -> ∀ q, S q -> q < w'.heap.size) := L0 fun w' hb q hq => by have := hSw q hq; have := hb.size; omega
 have HED : Hid (∀ w', Bw X w' -> Elems rDm w' S A b.doms) := L0 fun w' hb => hED.keep (.of_below (HB1.o.trans (hb.mono HB1.o.size)))
 have HET : Hid (∀ w', Bw X w' -> Elems rTb w' S B b.tabs) := L0 fun w' hb => hET.keep (.of_below (HB1.o.trans (hb.mono HB1.o.size)))
 have HBD := L0 hbd'
 have HBT := L0 hbt'
 have HSW := L0 hSw
 have HXD : Hid (Bw X X.drew) := L0 ⟨rfl, rfl, rfl, L0g _, fun _ _ => rfl⟩
 clear hq0 hq1 hq2 hd ht hbd hbt hED hET hbd' hbt' hSw r0 r1 z0 z1 hsz
 go_enter Tryz.func35, Tryz.ntmps35
 go_wp2
 have hx1 : ¬ (w.heap.size = w.heap.size + 1 + 1) := by omega
 have hx2 : ¬ (w.heap.size + 1 + 1 = w.heap.size) := by omega
 go_region_held3 (fun w' => w'.cell? (zn w.heap.size 0) = some (.slice A b.doms.length c) /\ w'.cell? (zn w.heap.size 1) = some (.slice B b.tabs.length d) /\ w'.cell? (zn (w.heap.size + 1) 0) = some (sq s)) (go_keep) (first
  | ((go_at_call 55; (with_reducible refine (X0g X.drew (HED.o _ HXD.o) HBD.o (HS.o _ HXD.o)).mono ?_); rintro e w2 ⟨A2, c2, rfl, ho2, hb2⟩; have HB2 : Hid (Bw X w2) := L0 (HXD.o.trans (hb2.mono HXD.o.size)); have HO2 : Hid (OwnS rDm 63 w2 X.heap.size S (.slice A2 b.doms.length c2) b.doms) := L0 ho2; obtain ⟨p0, p1, p2⟩ := HCELL.o _ HB2.o; clear ho2 hb2))
  | ((go_at_call 54; (with_reducible refine (X4w (S := S) (base := X.heap.size) s w2 HO2.o HB2.o.size (by have := HBD.o; omega) p2 (by have := HSZ.o; omega)).mono ?_); rintro e w3 ⟨v3, rfl, ho3, hb3, hg3, _⟩; obtain ⟨A3, n3, c3, rfl⟩ := ho3.shape; have HB3 := L0 (HB2.o.trans hb3); have HO3 := L0 ho3; obtain ⟨n0, n1, n2⟩ := HCELL.o _ HB3.o; clear ho3 hb3 hg3 p0 p1 p2))
  | ((go_at_call 58; (with_reducible refine (X0h w3 (HET.o _ HB3.o) HBT.o (HS.o _ HB3.o)).mono ?_); rintro e w4 ⟨A4, c4, rfl, ho4, hb4⟩; have HB4 := L0 (HB3.o.trans (hb4.mono HB3.o.size)); have HO4 := L0 ho4; have HO34 := L0 (HO3.o.below hb4); have HQ4 := L0 hb4.size; obtain ⟨p0, p1, p2⟩ := HCELL.o _ HB4.o; clear ho4 hb4 n0 n1 n2))
  | ((go_at_call 57; (with_reducible refine (X4x (S := S) (base := w3.heap.size) s w4 HO4.o HQ4.o (by have := HBT.o; omega) p2 (by have := HSZ.o; have := HB3.o.size; omega)).mono ?_); rintro e w5 ⟨u5, rfl, ho5, hb5, hg5, hu5⟩; obtain ⟨A5, n5, c5, rfl⟩ := ho5.shape; clear hu5; have HB5 := L0 (HB4.o.trans (hb5.mono HB3.o.size)); have HO5 := L0 ho5; obtain ⟨n0, n1, n2⟩ := HCELL.o _ HB5.o; obtain ⟨r0, r1, z0, z1⟩ := HRES.o _ HB5.o; have HB35 := L0 hb5; clear ho5 hb5 hg5 p0 p1 p2)))
 all_goals
  go_wp2
  have y0 : ((w5.setCell (zn (w.heap.size + 2) 0) (.slice A3 n3 c3)).setCell (zn (w.heap.size + 2) 1) (.slice A5 n5 c5)).cell? (zn (w.heap.size + 2) 0) = some (.slice A3 n3 c3) := (cso).trans (L0e _ _ _ r0)
  have y1 : ((w5.setCell (zn (w.heap.size + 2) 0) (.slice A3 n3 c3)).setCell (zn (w.heap.size + 2) 1) (.slice A5 n5 c5)).cell? (zn (w.heap.size + 2) 1) = some (.slice A5 n5 c5) := L0e _ _ _ ((cso).trans r1)
  have hsx := HSZ.o
  have hs3 := HB3.o.size
  have HG : w5.grownBy ((w5.setCell (zn (w.heap.size + 2) 0) (.slice A3 n3 c3)).setCell (zn (w.heap.size + 2) 1) (.slice A5 n5 c5)) (some (w.heap.size + 2)) := Z0b [.slice A3 n3 c3, .slice A5 n5 c5] 0
  have l3 := HO3.o.lt
  have l5 := HO5.o.lt
  have hS := HSW.o
  refine bodyPost_ret (by simp [results, Tryz.results35, go_sem, y0, y1]; rfl) rfl ?_
  refine ⟨_, _, rfl, ?_, ?_, fun g h1 h2 => ?_, ?_⟩
  ·refine OwnS.lower (OwnS.kept (HO34.o.belowB HB35.o (fun g hg => (l3 g hg).2) (fun q hq => by have := hS q hq; omega)) HG ?_ fun g hg hq => ?_) (by omega)
   ·cases hv : (Value.slice A3 n3 c3).ownBlock with
    | none => exact .inl rfl
    | some g => exact .inr fun he => by injection he with he; have := (l3 g hv).1; omega
   injection hg with hg; have := hS g hq; omega
  ·refine OwnS.lower (OwnS.kept HO5.o HG ?_ fun g hg hq => ?_) (by omega)
   ·cases hv : (Value.slice A5 n5 c5).ownBlock with
    | none => exact .inl rfl
    | some g => exact .inr fun he => by injection he with he; have := (l5 g hv).1; omega
   injection hg with hg; have := hS g hq; omega
  ·have := (l3 g h1).2; have := (l5 g h2).1; omega
  exact ((HB1.o.trans (HB5.o.mono HB1.o.size)).setCell (show w.heap.size <= w.heap.size + 2 by omega) _).setCell (show w.heap.size <= w.heap.size + 2 by omega) _
