import Derived.Test.YtlopccnehgolnacGreatDoorGK16
import Derived.Test.YtlopccnehgolnacGreatDoorGK8
import Derived.BigRegion
import Derived.BigQuiet
import Derived.Deep.RegionHeld3
import Derived.Deep.DeepMust
namespace Go.Proofs.YtlopccnehgolnacGreatDoor
open Go.RowKit Rb
open Go.World renaming setCell -> jA
set_option maxRecDepth 100000
set_option maxHeartbeats 12800000
theorem X4i : ElemOf Tryz.prog rRl 64 69 := .mk' Tryz.underlying64 (z := .agg #[nl, .int .i64 0]) (k := 2) (b := 32) (by kernel_rfl) rfl rfl rfl (by decide) (by decide)
section
variable {w wr : World} {base : Nat} {S : Nat -> Prop} {v : Value} {cls : List Cl}
theorem X4e (h : OwnS rCl 72 w base S v cls) : ∃ raws : List (List Value), Own (rRaw 2 32) 72 w base (fun _ => False) v raws /\ raws.length = cls.length /\ ∀ (i : Nat) (x : Cl), cls[i]? = some x -> ∃ r, raws[i]? = some r /\ rCl.rel w S r x := by
 obtain ⟨cells, h1, h2, h3, h4⟩ := h
 have hk : rCl.k = 2 := rfl
 refine ⟨(List.range cls.length).map fun i => (cells.drop (i * 2)).take 2, ⟨fun _ => False, ⟨cells, by simpa [rRaw, hk] using h1, fun _ _ h => h, fun _ => by have := h3 (by decide); simp only [rCl] at this; simpa [rRaw] using this, fun i x hx => ?_⟩, fun _ h => h.elim⟩, by simp, fun i x hx => ?_⟩
 ·obtain ⟨hi, rfl⟩ := L0n.1 hx
  have hi' : i < cls.length := by simpa using hi
  have hr := h4 i cls[i] (L0f hi')
  rw [hk] at hr
  simp only [List.getElem_map, List.getElem_range]
  exact ⟨rfl, rCl.len hr, rCl.one hr⟩
 obtain ⟨hi, rfl⟩ := L0n.1 hx
 exact ⟨_, by simp [hi]; rfl, h4 i cls[i] hx⟩
theorem X4p {raws : List (List Value)} (h : Own (rRaw 2 32) 72 w base (fun _ => False) v raws) (hl : raws.length = cls.length) (hS : ∀ g, v.ownBlock = some g -> ¬ S g) (hr : ∀ (i : Nat) (x : Cl), cls[i]? = some x -> ∃ r, raws[i]? = some r /\ rCl.rel w S r x) : OwnS rCl 72 w base S v cls := by
 obtain ⟨S', ⟨cells, h1, h2, h3, h4⟩, h5⟩ := h
 have hk : rCl.k = 2 := rfl
 have hk2 : (rRaw 2 32).k = 2 := rfl
 refine ⟨cells, by rw [<- hl]; exact h1, hS, fun _ => by rw [<- hl]; exact h3 (by decide), fun i x hx => ?_⟩
 obtain ⟨r, hr1, hr2⟩ := hr i x hx
 obtain ⟨e, _⟩ := h4 i r hr1
 rw [hk2] at e
 rw [hk, e]
 exact hr2
end
theorem X3q {w : World} {base g c n i : Nat} {raws : List (List Value)} {b0 u0 u : Value} (h : Own (rRaw 2 32) 72 w base (fun _ => False) (.slice (some (zn g 0)) n c) raws) (hn : n = raws.length) (hi : raws[i]? = some [b0, u0]) (hu : u.oneCell' = true) :
  Own (rRaw 2 32) 72 (w.setCell (zn g (i * 2 + 1)) u) base (fun _ => False) (.slice (some (zn g 0)) n c) (raws.set i [b0, u]) := by
 subst hn
 obtain ⟨hlt, he⟩ := L0n.1 hi
 have hk2 : (rRaw 2 32).k = 2 := rfl
 have := h.set (g := g) (cap := c) rfl (i := i) (j := 1) (x' := [b0, u]) (u := u) hlt (by decide) (fun es S hr => by
  obtain ⟨rfl, _, h1⟩ := hr
  rw [he] at h1 ⊢
  refine ⟨rfl, rfl, fun z hz => ?_⟩
  simp at hz
  rcases hz with rfl | rfl
  ·exact h1 _ (by simp)
  exact hu)
 rw [hk2] at this
 exact this
theorem Y6m {S : Nat -> Prop} {cs : List Value} {b : Bk} (w : World) (hl : rBk.rel w S cs b) (hSw : ∀ q, S q -> q < w.heap.size) :
  Calls Tryz.prog 39 #[.agg cs.toArray] w fun e w' => ∃ v u, e = .returned (.agg #[v, u]) /\ rBk.rel w' (fun q => w.heap.size <= q) [v, u] b /\ Bw w w' := by
 obtain ⟨v0, u0, rfl, hd, ht⟩ := hl
 obtain ⟨A, c, rfl, _, _, hbd, hDE⟩ := rSl.elems hd
 obtain ⟨B, d0, rfl, _, _, hbt, hTE⟩ := rSl.elems ht
 have hbd' : b.doms.length * 32 <= 140737488355328 := by simpa [rDm] using hbd
 have hbt' : b.tabs.length * 80 <= 140737488355328 := by simpa [rTb] using hbt
 obtain ⟨X, e1, HB1, p0, p1, r0, r1, z0, z1, hsz⟩ : ∃ X, (w.alloc (.cells #[.slice A b.doms.length c, .slice B b.tabs.length d0] 38)).alloc (.cells #[nl, nl] 38) = X /\ Hid (Bw w X) /\
   X.cell? (zn w.heap.size 0) = some (.slice A b.doms.length c) /\ X.cell? (zn w.heap.size 1) = some (.slice B b.tabs.length d0) /\ X.cell? (zn (w.heap.size + 1) 0) = some (nl) /\ X.cell? (zn (w.heap.size + 1) 1) = some (nl) /\
   X.frozen? (zn (w.heap.size + 1) 0) = false /\ X.frozen? (zn (w.heap.size + 1) 1) = false /\ X.heap.size = w.heap.size + 2 := by
  have fz : ∀ (w : World) (cs : Array Value) (t : TypeId) (o : Nat), (w.alloc (.cells cs t)).frozen? (zn w.heap.size o) = false := fun w cs t o => by simp
  have z1 : (w.alloc (.cells #[.slice A b.doms.length c, .slice B b.tabs.length d0] 38)).heap.size = w.heap.size + 1 := by simp
  refine ⟨_, rfl, L0 (bA.alloc (by simp) _), ?_, ?_, ?_, ?_, ?_, ?_, by simp⟩
  ·exact (L0j _ _ _ (by simp)).trans (L0b _ _ _ _)
  ·exact (L0j _ _ _ (by simp)).trans (L0b _ _ _ _)
  ·rw [<- z1]; exact L0b _ _ _ _
  ·rw [<- z1]; exact L0b _ _ _ _
  ·rw [<- z1]; exact fz _ _ _ _
  rw [<- z1]; exact fz _ _ _ _
 have HSW := L0 hSw
 have HDE := L0 (hDE.keep (.of_below HB1.o))
 have HTE := L0 (hTE.keep (.of_below HB1.o))
 have HBD := L0 hbd'
 have hbt2 : b.tabs.length <= 1759218604441 := by omega
 have HSZ := L0 hsz
 have HX0 : Hid (w.heap.size < X.heap.size) := L0 (by omega)
 have HX1 : Hid (w.heap.size + 1 < X.heap.size) := L0 (by omega)
 have HP1 := L0 p1
 have HRES := L0 (show X.cell? (zn (w.heap.size + 1) 0) = some (nl) /\ X.cell? (zn (w.heap.size + 1) 1) = some (nl) /\ X.frozen? (zn (w.heap.size + 1) 0) = false /\ X.frozen? (zn (w.heap.size + 1) 1) = false from ⟨r0, r1, z0, z1⟩)
 clear hd ht hbd hbt hDE hTE hSw hbd' hbt' r0 r1 z0 z1 hsz p1
 go_enter Tryz.func39, Tryz.ntmps39
 go_wp2_with (go_at_call 55; (with_reducible refine (Y70 (c := c) X HDE.o HBD.o).mono ?_); rintro e w2 ⟨z, rfl, ho2, hb2⟩; obtain ⟨A2, n2, c2, rfl⟩ := ho2.shape; have HB2 := L0 hb2; have HO2 := L0 ho2; have p1 := (hb2.ce 1 HX0.o).trans HP1.o; obtain ⟨W0, W3, e0, e3, w00, w01, wf1, HB3, HO3, HN3, o0, o1, of, q1⟩ : ∃ W0 W3, w2.alloc (.cells #[.slice A2 n2 c2, nl] 38) = W0 /\ W0.setCell (zn w2.heap.size 1) (nl) = W3 /\ W0.cell? (zn w2.heap.size 0) = some (.slice A2 n2 c2) /\ W0.cell? (zn w2.heap.size 1) = some (nl) /\ W0.frozen? (zn w2.heap.size 1) = false /\ Hid (Bw X W3) /\ Hid (OwnS rDm 63 W3 X.heap.size (fun q => S q /\ q < X.heap.size) (.slice A2 n2 c2) b.doms) /\ Hid (X.heap.size <= w2.heap.size /\ W3.heap.size = w2.heap.size + 1) /\ W3.cell? (zn w2.heap.size 0) = some (.slice A2 n2 c2) /\ W3.cell? (zn w2.heap.size 1) = some (nl) /\ W3.frozen? (zn w2.heap.size 1) = false /\ W3.cell? (zn w.heap.size 1) = some (.slice B b.tabs.length d0) := (by (have ha := (L0m w2.heap.size w2).alloc (L0g _) (.cells #[.slice A2 n2 c2, nl] 38); have hs := ha.setCell (p := (zn w2.heap.size 1)) (L0g _) (nl); exact ⟨_, _, rfl, rfl, L0b _ _ _ _, L0b _ _ _ _, by simp, L0 (HB2.o.trans (hs.mono HB2.o.size)), L0 (HO2.o.below hs), L0 ⟨HB2.o.size, by simp [jA]⟩, (cso).trans (L0b _ _ _ _), L0e _ _ _ (L0b _ _ _ _), by rw [L0k]; simp, (hs.ce 1 (L0c HX0.o HB2.o.size)).trans p1⟩)); clear ho2 hb2 p0 p1 e1)
 clear e3 e0 w00 w01 wf1
 have HO0 := L0 o0
 clear o0
 go_loopw [17] (fun si wr => ∃ (k : Nat) (vo : Value), si = .int .i64 k /\ k <= b.tabs.length /\ Hid (Below w2.heap.size W3 wr) /\ wr.cell? (zn w2.heap.size 0) = some (.slice A2 n2 c2) /\ wr.cell? (zn w2.heap.size 1) = some vo /\ wr.frozen? (zn w2.heap.size 1) = false /\ Hid (Own rTb 66 wr (w2.heap.size + 1) (fun _ => False) vo (b.tabs.take k))) (fun si _ => b.tabs.length - (intOf si).toNat)
 exact ⟨0, _, by go_num, L0o _, L0 (L0m _ _), HO0.o, o1, of, L0 (Own.nil _ _ _ _ _)⟩
 clear o1 of q1
 obtain ⟨k, vo, rfl, hk, HB, o0, o1, of, HOW⟩ := hrel
 obtain ⟨wo, hwo⟩ : ∃ x, x = wr := ⟨_, rfl⟩
 subst hwo
 by_cases hlt : k < b.tabs.length
 ·have hkz : (k : Int) < b.tabs.length := by omega
  have HBX : Hid (Bw X wo) := L0 (HB3.o.trans (HB.o.mono HN3.o.1))
  obtain ⟨q, off, t, TA, tc, TR, td, rfl, hq, ht0, htr, g0, g1, g2, g3, g4⟩ := (HTE.o.keep (.of_below HBX.o)).tb hlt
  have HT0 := L0 ht0
  obtain ⟨v1, u1, e1', hnm, hpol, hti, htrr⟩ := htr
  simp only [L1f, and_true, true_and] at e1'
  obtain ⟨rfl, rfl⟩ := e1'
  obtain ⟨TA', tc', he, _, _, hib, hIE⟩ := rSl.elems hti
  injection he with ha _ hc
  subst ha hc
  obtain ⟨TR', td', he, _, _, hrb, hRE⟩ := rSl.elems htrr
  injection he with ha _ hc
  subst ha hc
  have hib' : t.ins.length * 16 <= 140737488355328 := by simpa [rStr] using hib
  have HIB := L0 hib'
  have hrl : t.rules.length <= 4398046511104 := by simp only [rRl] at hrb; omega
  have HNW : Hid (w2.heap.size + 1 <= wo.heap.size) := L0 (by have := HN3.o.2; have := HB.o.size; omega)
  have HNM := L0 hnm
  have HPOL := L0 hpol
  obtain ⟨W4, e4, HB4, m0, m1, m2, m3, m4, fm3, fm4, hs4⟩ : ∃ W4, wo.alloc (.cells #[sq t.name, .int .i64 t.pol, .bool t.comp, .slice TA t.ins.length tc, .slice TR t.rules.length td] 66) = W4 /\ Hid (Bw wo W4) /\ W4.cell? (zn wo.heap.size 0) = some (sq t.name) /\ W4.cell? (zn wo.heap.size 1) = some (.int .i64 t.pol) /\ W4.cell? (zn wo.heap.size 2) = some (.bool t.comp) /\ W4.cell? (zn wo.heap.size 3) = some (.slice TA t.ins.length tc) /\ W4.cell? (zn wo.heap.size 4) = some (.slice TR t.rules.length td) /\
    W4.frozen? (zn wo.heap.size 3) = false /\ W4.frozen? (zn wo.heap.size 4) = false /\ W4.heap.size = wo.heap.size + 1 :=
   ⟨_, rfl, L0 bA, L0b _ _ _ _, L0b _ _ _ _, L0b _ _ _ _, L0b _ _ _ _, L0b _ _ _ _, by simp, by simp, by simp⟩
  have HIE := L0 (hIE.keep (.of_below HB4.o))
  have HREo := L0 hRE
  have HOUT := L0 (show wo.cell? (zn w2.heap.size 0) = some (.slice A2 n2 c2) /\ wo.cell? (zn w2.heap.size 1) = some vo /\ wo.frozen? (zn w2.heap.size 1) = false from ⟨o0, o1, of⟩)
  have HMLT : Hid (wo.heap.size < W4.heap.size) := L0 (by omega)
  clear ht0 hti htrr hib hrb hIE hRE hib' hs4 o0 o1 of hq hnm hpol
  go_wp2_with (go_at_call 42; (with_reducible refine (Y1i (c := tc) W4 HIE.o HIB.o).mono ?_); rintro e w5 ⟨z5, rfl, ho5, hb5⟩; obtain ⟨A5, n5, c5, rfl⟩ := ho5.shape; have y3 := (hb5.ce 3 HMLT.o).trans m3; have yf := (hb5.fr 3 HMLT.o).trans fm3; obtain ⟨W6, e6, HB6, HO6, HM6, s0, s1, s2, s3, s4, sf⟩ : ∃ W6, w5.setCell (zn wo.heap.size 3) (.slice A5 n5 c5) = W6 /\ Hid (Bw wo W6) /\ Hid (OwnS rStr 9 W6 W4.heap.size (fun q => (S q) /\ q < W4.heap.size) (.slice A5 n5 c5) t.ins) /\ Hid (W4.heap.size <= W6.heap.size) /\ W6.cell? (zn wo.heap.size 0) = some (sq t.name) /\ W6.cell? (zn wo.heap.size 1) = some (.int .i64 t.pol) /\ W6.cell? (zn wo.heap.size 2) = some (.bool t.comp) /\ W6.cell? (zn wo.heap.size 3) = some (.slice A5 n5 c5) /\ W6.cell? (zn wo.heap.size 4) = some (.slice TR t.rules.length td) /\ W6.frozen? (zn wo.heap.size 4) = false := (by (exact ⟨_, rfl, L0 ((HB4.o.trans (hb5.mono HB4.o.size)).setCell (p := (zn wo.heap.size 3)) (L0g _) _), L0 (ho5.grown (Z0b [.slice A5 n5 c5] 3 : w5.grownBy (w5.setCells wo.heap.size 3 [.slice A5 n5 c5]) (some wo.heap.size)) fun g hg => by (injection hg with hg; subst hg; exact ⟨fun h => by (have := (ho5.lt _ h).1; have := HMLT.o; omega), fun h => by (have := HSW.o _ h.1; have := HN3.o.1; have := HNW.o; have := HX0.o; omega)⟩)), L0 (L0h hb5.size (by simp [jA])), (cso).trans ((hb5.ce 0 HMLT.o).trans m0), (cso).trans ((hb5.ce 1 HMLT.o).trans m1), (cso).trans ((hb5.ce 2 HMLT.o).trans m2), L0e _ _ _ y3, (cso).trans ((hb5.ce 4 HMLT.o).trans m4), by (rw [L0k]; exact (hb5.fr 4 HMLT.o).trans fm4)⟩)); clear ho5 hb5)
  obtain ⟨VA, vn, vcc, rfl⟩ : ∃ A n c, vo = .slice A n c := by obtain ⟨A, c, h⟩ := HOW.o.value; exact ⟨A, _, c, h⟩
  have HMW : Hid (wo.heap.size < W6.heap.size) := L0 (L0d _ _ s0)
  have HSC := L0 (show W6.cell? (zn wo.heap.size 0) = some (sq t.name) /\ W6.cell? (zn wo.heap.size 1) = some (.int .i64 t.pol) /\ W6.cell? (zn wo.heap.size 2) = some (.bool t.comp) /\ W6.cell? (zn wo.heap.size 3) = some (.slice A5 n5 c5) /\ W6.cell? (zn wo.heap.size 4) = some (.slice TR t.rules.length td) /\ W6.frozen? (zn wo.heap.size 4) = false from ⟨s0, s1, s2, s3, s4, sf⟩)
  clear e6 e4 y3 yf m0 m1 m2 m3 m4 fm3 fm4 s0 s1 s2 s3 s4 sf g0 g1 g2 g3 g4
  go_loopw [6, 28] (fun u sj wr => ∃ (j : Nat) (ru : Value), u = ru /\ sj = .int .i64 j /\ j <= t.rules.length /\ Hid (Bw W6 wr) /\ Hid (Own rRl 69 wr W6.heap.size (fun _ => False) ru (t.rules.take j))) (fun _ sj _ => t.rules.length - (intOf sj).toNat)
  exact ⟨0, _, rfl, by go_num, L0o _, L0 (L0m _ _), L0 (Own.nil _ _ _ _ _)⟩
  obtain ⟨j, ru, hu, rfl, hj, HB7, HR7⟩ := hrel
  obtain rfl := hu.symm
  obtain ⟨RA, rn, rc, rfl⟩ : ∃ A n c, ru = .slice A n c := by obtain ⟨A, c, h⟩ := HR7.o.value; exact ⟨A, _, c, h⟩
  obtain ⟨wi, hwi⟩ : ∃ x, x = wr := ⟨_, rfl⟩
  subst hwi
  by_cases hlt2 : j < t.rules.length
  ·have hjz : (j : Int) < t.rules.length := by omega
   have HBW : Hid (Bw wo wi) := L0 (HB6.o.trans (HB7.o.mono HB6.o.size))
   obtain ⟨q2, off2, r, cv, rfl, _, hq2, hr0, hri, hrc, h0, h1⟩ := (HREo.o.keep (.of_below HBW.o)).rl hlt2
   obtain ⟨CA, cc, rfl, _, _, hcb, hCE⟩ := rSl.elems hrc
   have HR0 := L0 hr0
   have HRI := L0 hri
   have hcb' : r.cells.length * 32 <= 140737488355328 := by simpa [rCl] using hcb
   have hcl : r.cells.length <= 4398046511104 := by omega
   have HCB := L0 hcb'
   obtain ⟨W7, e7, HB70, kf, hs7⟩ : ∃ W7, wi.alloc (.cells #[.slice CA r.cells.length cc, .int .i64 r.out] 69) = W7 /\ Hid (Bw wi W7) /\ W7.frozen? (zn wi.heap.size 0) = false /\ W7.heap.size = wi.heap.size + 1 := ⟨_, rfl, L0 bA, by simp, by simp⟩; have k0 := ac0 e7; have k1 := ac1 e7
   have HK7 : Hid (wi.heap.size < W7.heap.size) := L0 (by omega)
   have HCE := L0 (hCE.keep (.of_below HB70.o))
   clear hr0 hri hrc hcb hcb' hCE hs7 hq2
   go_wp2_with (go_at_call 65; (with_reducible refine (X2l (c := cc) W7 HCE.o HCB.o).mono ?_); rintro e w8 ⟨z8, rfl, ho8, hb8⟩; obtain ⟨A8, c8, rfl⟩ := ho8.self.value; have y0 := (hb8.ce 0 HK7.o).trans k0; have yf := (hb8.fr 0 HK7.o).trans kf; obtain ⟨W9, e9, HB9, HO9, x0, x1⟩ : ∃ W9, w8.setCell (zn wi.heap.size 0) (.slice A8 r.cells.length c8) = W9 /\ Hid (Bw wi W9) /\ Hid (OwnS rCl 72 W9 W7.heap.size (fun q => S q /\ q < W7.heap.size) (.slice A8 r.cells.length c8) r.cells) /\ W9.cell? (zn wi.heap.size 0) = some (.slice A8 r.cells.length c8) /\ W9.cell? (zn wi.heap.size 1) = some (.int .i64 r.out) := (by (exact ⟨_, rfl, L0 ((HB70.o.trans (hb8.mono HB70.o.size)).setCell (p := (zn wi.heap.size 0)) (L0g _) _), L0 (ho8.grown (Z0b [.slice A8 r.cells.length c8] 0 : w8.grownBy (w8.setCells wi.heap.size 0 [.slice A8 r.cells.length c8]) (some wi.heap.size)) fun g hg => by (injection hg with hg; subst hg; exact ⟨fun h => by (have := (ho8.lt _ h).1; have := HK7.o; omega), fun h => by (have := HSW.o _ h.1; have := HBW.o.size; have := HN3.o.1; have := HNW.o; have := HX0.o; omega)⟩)), L0e _ _ _ y0, (cso).trans ((hb8.ce 1 HK7.o).trans k1)⟩)); clear ho8 hb8)
   obtain ⟨raws0, hw0, hl0, hr0⟩ := X4e HO9.o
   have HW0 := L0 hw0
   have HL0 := L0 hl0
   have HRR0 := L0 hr0
   have HX9 := L0 (show W9.cell? (zn wi.heap.size 0) = some (.slice A8 r.cells.length c8) /\ W9.cell? (zn wi.heap.size 1) = some (.int .i64 r.out) from ⟨x0, x1⟩)
   have H8 := L0 HO9.o.lt
   have HR9 : Hid (wi.heap.size < W9.heap.size) := L0 (L0d _ _ x0)
   clear hw0 hl0 hr0 e9 e7 y0 yf k0 k1 kf x0 x1 h0 h1
   go_loopw [39] (fun si wr => ∃ (i : Nat) (raws : List (List Value)), si = .int .i64 i /\ i <= r.cells.length /\ Hid (W9.grownBy wr (Value.slice A8 r.cells.length c8).ownBlock) /\ Hid (Own (rRaw 2 32) 72 wr W7.heap.size (fun _ => False) (.slice A8 r.cells.length c8) raws) /\ Hid (raws.length = r.cells.length) /\
    Hid (∀ (q : Nat) (y : Cl), q < i -> r.cells[q]? = some y -> ∃ z, raws[q]? = some z /\ rCl.rel wr (fun b => W9.heap.size <= b) z y) /\ Hid (∀ (q : Nat) (y : Cl), i <= q -> r.cells[q]? = some y -> ∃ z, raws[q]? = some z /\ rCl.rel wr (fun q => S q /\ q < W7.heap.size) z y)) (fun si _ => r.cells.length - (intOf si).toNat)
   exact ⟨0, raws0, by go_num, L0o _, L0 ⟨rfl, rfl, rfl, L0g _, fun _ _ _ => rfl⟩, HW0, HL0, L0 fun q y h => by omega, L0 fun q y _ h => HRR0.o q y h⟩
   obtain ⟨i, raws, rfl, hi, HG9, HRW, HRL, HNEW, HOLD⟩ := hrel
   have hne8 : (Value.slice A8 r.cells.length c8).ownBlock ≠ some wi.heap.size := fun h => by have := (H8.o _ h).1; have := HK7.o; omega
   have x0 : wr.cell? (zn wi.heap.size 0) = some (.slice A8 r.cells.length c8) := (L1d (HG9.o.block wi.heap.size HR9.o (fun h => hne8 h.symm))).trans HX9.o.1
   have x1 : wr.cell? (zn wi.heap.size 1) = some (.int .i64 r.out) := (L1d (HG9.o.block wi.heap.size HR9.o (fun h => hne8 h.symm))).trans HX9.o.2
   by_cases hlt3 : i < r.cells.length
   ·have hiz : (i : Int) < r.cells.length := by omega
    obtain ⟨x, hx⟩ : ∃ x, r.cells[i]? = some x := ⟨_, L0f hlt3⟩
    obtain ⟨rr, hrr, hrel⟩ := HOLD.o i x (L0g _) hx
    obtain ⟨v9, rfl, hv9⟩ := hrel
    obtain ⟨GA, gc, rfl, _, _, hgb, hGE⟩ := rSl.elems hv9
    have hgb' : x.rs.length * 16 <= 140737488355328 := by simpa [rRg] using hgb
    rcases HRW.o.form with ⟨_, h0⟩ | ⟨g8, cap8, hv8, hg8, hgl8⟩
    ·rw [h0] at hrr; simp at hrr
    injection hv8 with hA hn hc
    subst hA hc
    obtain ⟨S', ho, _⟩ := HRW.o
    obtain ⟨cs9, hcs9, hcell⟩ := OwnS.elem (cap := c8) ho (by rw [hn]) hrr
    obtain ⟨rfl, _, _⟩ := hcs9
    have j1 : wr.cell? (zn g8 (i * 2 + 1)) = some (.slice GA x.rs.length gc) := by have := hcell 1 _ rfl; simpa [rRaw] using this
    have jf : wr.frozen? (zn g8 (i * 2 + 1)) = false := ho.frozen rfl _
    have hin : (i : Int) < r.cells.length := by omega
    have hx1 : ¬ (wi.heap.size = g8) := by have := HK7.o; omega
    have hx2 : ¬ (g8 = wi.heap.size) := by omega
    have HGE := L0 (hGE.keep (w' := wr.drew) fun _ _ _ => rfl)
    have HGB := L0 hgb'
    have HX := L0 hx
    have HRRW := L0 hrr
    have HNN : Hid (r.cells.length = raws.length) := L0 hn
    have H8b := L0 (H8.o g8 rfl)
    have HWR : Hid (wi.heap.size < wr.heap.size) := L0 (L0d _ _ x0)
    have HGL := L0 hgl8
    clear hcell hGE hv9 hgb hgb' hx hrr ho hn hg8 hgl8 x1
    go_wp2
    go_region_law (first
     | ((go_simp; go_at_call 66; (with_reducible refine (X2m (c := gc) wr.drew HGE.o HGB.o).mono ?_); rintro e w10 ⟨z10, rfl, ho10, hb10⟩; obtain ⟨A10, n10, c10, rfl⟩ := ho10.shape; have HB10 : Hid (Bw wr w10) := L0 ((show Bw wr wr.drew from ⟨rfl, rfl, rfl, L0g _, fun _ _ => rfl⟩).trans hb10); have HO10 : Hid (OwnS rRg 74 w10 wr.heap.size (fun b => (S b /\ b < W7.heap.size) /\ b < wr.heap.size) (.slice A10 n10 c10) x.rs) := L0 ho10; have x0' := (HB10.o.ce 0 HWR.o).trans x0; have j1' := (HB10.o.ce (i * 2 + 1) HGL.o).trans j1; have jf' := (HB10.o.fr (i * 2 + 1) HGL.o).trans jf; clear ho10 hb10)))
    all_goals
     go_wp2
     go_roundw
     case rel =>
      have hs9 := HG9.o.size
      have h8 := H8b.o
      have hk7 := HK7.o
      have hgs : w10.grownBy (w10.setCell (zn g8 (i * 2 + 1)) (.slice A10 n10 c10)) (some g8) := Z0b [.slice A10 n10 c10] (i * 2 + 1)
      have hKn : Keeps (fun b => W9.heap.size <= b) w10 (w10.setCell (zn g8 (i * 2 + 1)) (.slice A10 n10 c10)) := .grown hgs fun g hg h => by injection hg with hg; omega
      have hKo : Keeps (fun q => S q /\ q < W7.heap.size) w10 (w10.setCell (zn g8 (i * 2 + 1)) (.slice A10 n10 c10)) := .grown hgs fun g hg h => by injection hg with hg; omega
      refine ⟨i + 1, raws.set i [.bool x.no, .slice A10 n10 c10], by go_num, hlt3, L0 (Z0f HG9.o (Z0f (Z0i HB10.o) hgs)), L0 (X3q (HRW.o.below HB10.o) HNN.o HRRW.o rfl), L0 (by rw [L3s]; exact HRL.o), L0 fun q y hq hy => ?_, L0 fun q y hq hy => ?_⟩
      ·by_cases hqi : q = i
       ·subst hqi
        have hxy : x = y := by have := HX.o; rw [hy] at this; exact (L0s this).symm
        subst hxy
        refine ⟨_, L2r (by have := HRL.o; omega), _, rfl, ?_⟩
        have h1 : (rSl rRg).rel w10 (Up (fun _ => False) wr.heap.size) [.slice A10 n10 c10] x.rs := (HO10.o.self.flat fun _ _ _ _ _ _ h => h).rel (by decide)
        exact (rSl rRg).keep ((rSl rRg).mono h1 fun b hb _ => by
         rcases hb with h | h
         ·exact h.elim
         exact L0h hs9 h) hKn
       obtain ⟨z, hz1, hz2⟩ := HNEW.o q y (by omega) hy
       exact ⟨z, by rw [L3d (by omega)]; exact hz1, rCl.keep (Rd.below hz2 HB10.o) hKn⟩
      obtain ⟨z, hz1, hz2⟩ := HOLD.o q y (by omega) hy
      exact ⟨z, by rw [L3d (by omega)]; exact hz1, rCl.keep (Rd.below hz2 HB10.o) hKo⟩
     simp [intOf]; omega
   have hiz : ¬ (i : Int) < r.cells.length := by omega
   have hcl' : OwnS rCl 72 wr W7.heap.size (fun b => W9.heap.size <= b) (.slice A8 r.cells.length c8) r.cells := X4p HRW.o HRL.o (fun g hg h => by have := (H8.o g hg).2; omega) fun q y hy => HNEW.o q y (by have := (L0n.1 hy).1; omega) hy
   have hk7 := HK7.o
   have hr9 := HR9.o
   have hbw : Bw wi wr := HB9.o.trans ((L0m wi.heap.size W9).grown HG9.o (L2b hr9) fun g hg => by have := (H8.o g hg).1; omega)
   have HREL : Hid (rRl.rel wr (fun q => wi.heap.size <= q) [.slice A8 r.cells.length c8, .int .i64 r.out] r) := L0 ⟨_, rfl, HRI.o, (rSl rCl).mono (hcl'.self.rel (by decide)) fun q hq _ => by
    rcases hq with h | h
    ·exact L0h (L2b hr9) h
    omega⟩
   have HRO := L0 (HR7.o.below hbw)
   have HBWR := L0 hbw
   have HS1 : Hid (∀ q, wi.heap.size <= q -> q < wr.heap.size -> Up (fun _ => False) W6.heap.size q /\ (Value.slice RA rn rc).ownBlock ≠ some q) := L0 fun q h1 _ => ⟨.inr (L0h HB7.o.size h1), fun h => by have := (HR7.o.lt q h).2; omega⟩
   have hpl : (t.rules.take j).length <= j := L4d _ _
   have HBY : Hid (((t.rules.take j).length + 1) * rRl.bytes <= 140737488355328) := L0 (by simp only [rRl]; omega)
   have HSB : Hid (W6.heap.size <= wr.heap.size) := L0 (L0h HB7.o.size hbw.size)
   clear hcl' hbw hpl hk7 hr9
   go_wp2_with (at_builtin; refine Z0a (R := rRl) (x := r) X4i rfl (.tmp 55) (.tmp 57) rfl rfl HRO.o [.slice A8 r.cells.length c8, .int .i64 r.out] rfl rfl (fun q => wi.heap.size <= q) HREL.o (by exact HS1.o) HBY.o HSB.o ?_; intro v12 w12 hown12 hb12 _ _; have HW12 := L0 hown12; have HB12 := L0 hb12; clear hown12 hb12)
   go_roundw
   exact ⟨j + 1, _, rfl, by go_num, hlt2, L0 (HB7.o.trans ((HBWR.o.mono HB7.o.size).trans HB12.o)), L0 (by rw [L1k, HR0.o]; exact HW12.o)⟩
   simp [intOf]; omega
  have hjz : ¬ (j : Int) < t.rules.length := by omega
  have HRF : Hid (Own rRl 69 wi W6.heap.size (fun _ => False) (.slice RA rn rc) t.rules) := L0 (by have := HR7.o; rwa [L0l (by omega)] at this)
  have HBW : Hid (Bw wo wi) := L0 (HB6.o.trans (HB7.o.mono HB6.o.size))
  obtain ⟨s0, s1, s2, s3, s4, sf⟩ := HSC.o
  replace s0 := (HB7.o.ce 0 HMW.o).trans s0
  replace s1 := (HB7.o.ce 1 HMW.o).trans s1
  replace s2 := (HB7.o.ce 2 HMW.o).trans s2
  replace s3 := (HB7.o.ce 3 HMW.o).trans s3
  replace s4 := (HB7.o.ce 4 HMW.o).trans s4
  replace sf := (HB7.o.fr 4 HMW.o).trans sf
  obtain ⟨W10, e10, HB10, HG10, v0, v1, v2, v3, v4⟩ : ∃ W10, wi.setCell (zn wo.heap.size 4) (.slice RA rn rc) = W10 /\ Hid (Bw wo W10) /\ Hid (wi.grownBy W10 (some wo.heap.size)) /\ W10.cell? (zn wo.heap.size 0) = some (sq t.name) /\ W10.cell? (zn wo.heap.size 1) = some (.int .i64 t.pol) /\ W10.cell? (zn wo.heap.size 2) = some (.bool t.comp) /\ W10.cell? (zn wo.heap.size 3) = some (.slice A5 n5 c5) /\ W10.cell? (zn wo.heap.size 4) = some (.slice RA rn rc) :=
   ⟨_, rfl, L0 (HBW.o.setCell (p := (zn wo.heap.size 4)) (L0g _) _), L0 (Z0b [.slice RA rn rc] 4), (cso).trans s0, (cso).trans s1, (cso).trans s2, (cso).trans s3, L0e _ _ _ s4⟩
  have hio : (rSl rStr).rel W10 (fun q => wo.heap.size <= q) [.slice A5 n5 c5] t.ins := by
   have h1 : (rSl rStr).rel wi (Up (fun _ => False) W4.heap.size) [.slice A5 n5 c5] t.ins := ((HO6.o.below (HB7.o)).self.flat fun _ _ _ _ _ _ h => h).rel (by decide)
   have hm := HMLT.o
   refine (rSl rStr).mono ((rSl rStr).keep h1 (.grown HG10.o fun g hg => ?_)) fun q hq _ => ?_
   ·injection hg with hg; subst hg
    rintro (h | h)
    ·exact h
    omega
   rcases hq with h | h
   ·exact h.elim
   exact L0h (L2b hm) h
  have hro : (rSl rRl).rel W10 (fun q => wo.heap.size <= q) [.slice RA rn rc] t.rules := by
   have h1 := HRF.o.rel (by decide)
   have hm := HMW.o
   refine (rSl rRl).mono ((rSl rRl).keep h1 (.grown HG10.o fun g hg => ?_)) fun q hq _ => ?_
   ·injection hg with hg; subst hg
    rintro (h | h)
    ·exact h
    omega
   rcases hq with h | h
   ·exact h.elim
   exact L0h (L2b hm) h
  have HREL : Hid (rTb.rel W10 (fun q => wo.heap.size <= q) [sq t.name, .int .i64 t.pol, .bool t.comp, .slice A5 n5 c5, .slice RA rn rc] t) := L0 ⟨_, _, rfl, HNM.o, HPOL.o, hio, hro⟩
  have HOWT := L0 (HOW.o.below HB10.o)
  have hN : w2.heap.size < wo.heap.size := by have := HNW.o; omega
  obtain ⟨o0, o1, of⟩ := HOUT.o
  replace o0 := (HB10.o.ce 0 hN).trans o0
  replace o1 := (HB10.o.ce 1 hN).trans o1
  replace of := (HB10.o.fr 1 hN).trans of
  have HS1 : Hid (∀ q, wo.heap.size <= q -> q < W10.heap.size -> Up (fun _ => False) (w2.heap.size + 1) q /\ (Value.slice VA vn vcc).ownBlock ≠ some q) := L0 fun q h1 _ => ⟨.inr (by have := HNW.o; omega), fun h => by have := (HOW.o.lt q h).2; omega⟩
  have hpl : (b.tabs.take k).length <= k := L4d _ _
  have HBY : Hid (((b.tabs.take k).length + 1) * rTb.bytes <= 140737488355328) := L0 (by simp only [rTb]; omega)
  have HSB : Hid (w2.heap.size + 1 <= W10.heap.size) := L0 (L0h HNW.o HB10.o.size)
  have HN0 := L0 hN
  clear hio hro hpl hN s0 s1 s2 s3
  go_wp2_with (at_builtin; refine Z0a (R := rTb) (x := t) Y55 rfl (.tmp 63) (.tmp 65) rfl rfl HOWT.o [sq t.name, .int .i64 t.pol, .bool t.comp, .slice A5 n5 c5, .slice RA rn rc] rfl rfl (fun q => wo.heap.size <= q) HREL.o (by exact HS1.o) HBY.o HSB.o ?_; intro v12 w12 hown12 hb12 _ _; obtain ⟨PA, pn, pc, rfl⟩ : ∃ A n c, v12 = .slice A n c := (by (obtain ⟨A, c, h⟩ := hown12.value; exact ⟨A, _, c, h⟩)); have o0' := (hb12.ce 0 (L2s _)).trans o0; have o1' := (hb12.ce 1 (L2s _)).trans o1; have of' := (hb12.fr 1 (L2s _)).trans of; have HW12 := L0 hown12; have HB12 := L0 hb12; clear hown12 hb12)
  go_roundw
  case rel =>
   refine ⟨k + 1, _, by go_num, hlt, L0 ((HB.o.trans ((HB10.o.mono (by have := HN0.o; omega)).trans (HB12.o.mono (L1m _)))).setCell (p := (zn w2.heap.size 1)) (L0g _) _), (cso).trans o0', L0e _ _ _ o1', by rw [L0k]; exact of', L0 ?_⟩
   obtain ⟨S', q1, q2⟩ := HW12.o
   rw [L1k, HT0.o]
   refine ⟨S', q1.grown (Z0b [.slice PA pn pc] 1 : w12.grownBy (w12.setCells w2.heap.size 1 [.slice PA pn pc]) (some w2.heap.size)) fun g hg => ?_, q2⟩
   injection hg with hg
   subst hg
   refine ⟨fun h => by have := (q1.lt _ h).1; omega, fun h => ?_⟩
   rcases q2 _ h with h | h
   ·exact h
   omega
  simp [intOf]; omega
 have hkz : ¬ (k : Int) < b.tabs.length := by omega
 have HF : Hid (Own rTb 66 wo (w2.heap.size + 1) (fun _ => False) vo b.tabs) := L0 (by have := HOW.o; rwa [L0l (by omega)] at this)
 obtain ⟨VA, vc, rfl⟩ := HF.o.value
 have hb3 : Bw X wo := HB3.o.trans (HB.o.mono HN3.o.1)
 obtain ⟨r0, r1, z0, z1⟩ := HRES.o
 replace r0 := (hb3.ce 0 HX1.o).trans r0
 replace r1 := (hb3.ce 1 HX1.o).trans r1
 replace z0 := (hb3.fr 0 HX1.o).trans z0
 replace z1 := (hb3.fr 1 HX1.o).trans z1
 have HB3o := L0 hb3
 clear hb3 HOW
 go_wp2
 have y0 : ((wo.setCell (zn (w.heap.size + 1) 0) (.slice A2 n2 c2)).setCell (zn (w.heap.size + 1) 1) (.slice VA b.tabs.length vc)).cell? (zn (w.heap.size + 1) 0) = some (.slice A2 n2 c2) := (cso).trans (L0e _ _ _ r0)
 have y1 : ((wo.setCell (zn (w.heap.size + 1) 0) (.slice A2 n2 c2)).setCell (zn (w.heap.size + 1) 1) (.slice VA b.tabs.length vc)).cell? (zn (w.heap.size + 1) 1) = some (.slice VA b.tabs.length vc) := L0e _ _ _ ((cso).trans r1)
 have HG : wo.grownBy ((wo.setCell (zn (w.heap.size + 1) 0) (.slice A2 n2 c2)).setCell (zn (w.heap.size + 1) 1) (.slice VA b.tabs.length vc)) (some (w.heap.size + 1)) := Z0b [.slice A2 n2 c2, .slice VA b.tabs.length vc] 0
 refine bodyPost_ret (by simp [results, Tryz.results39, go_sem, y0, y1]; rfl) rfl ?_
 have hsz := HSZ.o
 have hn3 := HN3.o
 have hdr := HO3.o.belowB HB.o (fun g hg => by
  have := (HO2.o.lt g hg).2; exact this) (fun q hq => by have := hq.2; omega)
 have hD : (rSl rDm).rel wo (Up (fun _ => False) X.heap.size) [.slice A2 n2 c2] b.doms := (hdr.self.flat fun _ _ _ _ _ _ h => h).rel (by decide)
 have hT := HF.o.rel (by decide)
 refine ⟨_, _, rfl, ⟨_, _, rfl, ?_, ?_⟩, ?_⟩
 ·refine (rSl rDm).mono ((rSl rDm).keep hD (.grown HG fun g hg => ?_)) fun q hq _ => ?_
  ·injection hg with hg; subst hg
   rintro (h | h)
   ·exact h
   omega
  rcases hq with h | h
  ·exact h.elim
  omega
 ·refine (rSl rTb).mono ((rSl rTb).keep hT (.grown HG fun g hg => ?_)) fun q hq _ => ?_
  ·injection hg with hg; subst hg
   rintro (h | h)
   ·exact h
   omega
  rcases hq with h | h
  ·exact h.elim
  omega
 exact ((HB1.o.trans (HB3o.o.mono HB1.o.size)).setCell (p := (zn (w.heap.size + 1) 0)) (L1m _) _).setCell (p := (zn (w.heap.size + 1) 1)) (L1m _) _
theorem X2d : ElemOf Tryz.prog rBk 32 38 := .mk' Tryz.underlying32 (z := .agg #[nl, nl]) (k := 2) (b := 48) (by kernel_rfl) rfl rfl rfl (by decide) (by decide)
theorem Elems.bk {w : World} {S : Nat -> Prop} {A : Option Addr} {l : List Bk} (h : Elems rBk w S A l) {i : Nat} (hi : i < l.length) : ∃ b off x A1 c1 A2 c2, A = some (zn b off) /\ b < w.heap.size /\ l[i]? = some x /\ rBk.rel w S [.slice A1 x.doms.length c1, .slice A2 x.tabs.length c2] x /\
  w.cell? (zn b (off + i * 2)) = some (.slice A1 x.doms.length c1) /\ w.cell? (zn b (off + i * 2 + 1)) = some (.slice A2 x.tabs.length c2) := by
 obtain ⟨b, off, es, hA, hS, hb, hr, hc⟩ := h i l[i] (L0f hi)
 have hr' := hr
 obtain ⟨v, u, rfl, h1, h2⟩ := hr
 obtain ⟨A1, c1, rfl, _⟩ := rSl.elems h1
 obtain ⟨A2, c2, rfl, _⟩ := rSl.elems h2
 exact ⟨b, off, l[i], A1, c1, A2, c2, hA, hb, L0f hi, hr', hc 0 _ rfl, hc 1 _ rfl⟩
theorem Y5s {S : Nat -> Prop} {cs : List Value} {b : Bk} (w : World) (hl : rBk.rel w S cs b) (hSw : ∀ q, S q -> q < w.heap.size) :
  Calls Tryz.prog 39 #[.agg cs.toArray] w fun e w' => ∃ A c B d, e = .returned (.agg #[.slice A b.doms.length c, .slice B b.tabs.length d]) /\ rBk.rel w' (fun q => w.heap.size <= q) [.slice A b.doms.length c, .slice B b.tabs.length d] b /\ Bw w w' := by
 refine (Y6m w hl hSw).mono ?_
 rintro e w' ⟨v, u, rfl, hr, hb⟩
 have hr' := hr
 obtain ⟨v', u', e1, h1, h2⟩ := hr
 simp only [L1f, and_true] at e1
 obtain ⟨rfl, rfl⟩ := e1
 obtain ⟨A, c, rfl, _⟩ := rSl.elems h1
 obtain ⟨B, d, rfl, _⟩ := rSl.elems h2
 exact ⟨A, c, B, d, rfl, hr', hb⟩
theorem Y6s {S : Nat -> Prop} {v : Value} {st : List Bk} {sb : Nat} (w : World) (_hc : w.cell? (zn sb 0) = some v) (hl : (rSl rBk).rel w S [v] st) (hSw : ∀ q, S q -> q < w.heap.size) :
  Calls Tryz.prog 12 #[.pointer (some (zn sb 0))] w fun e w' => ∃ u, e = .returned u /\ Own rBk 38 w' w.heap.size (fun _ => False) u st /\ Bw w w' := by
 obtain ⟨A, c, rfl, _, _, hby, hE⟩ := rSl.elems hl
 have hln : st.length <= 2932031007402 := by simp only [rBk] at hby; omega
 have HE := L0 hE
 have HSW := L0 hSw
 clear hl hE hby hSw
 go_enter Tryz.func12, Tryz.ntmps12
 go_wp2
 clear _hc
 go_loopw [3, 13] (fun c3 si wr => ∃ (k : Nat) (u : Value), c3 = u /\ si = .int .i64 k /\ k <= st.length /\ Hid (Bw w wr) /\ Hid (Own rBk 38 wr w.heap.size (fun _ => False) u (st.take k))) (fun _ si _ => st.length - (intOf si).toNat)
 exact ⟨0, _, rfl, by go_num, L0o _, L0 (L0m _ _), L0 (Own.nil _ _ _ _ _)⟩
 obtain ⟨k, u, hu, rfl, hk, HB, HO⟩ := hrel
 obtain rfl := hu.symm
 obtain ⟨UA, un, uc, rfl⟩ : ∃ A n c, u = .slice A n c := by obtain ⟨A, c, h⟩ := HO.o.value; exact ⟨A, _, c, h⟩
 by_cases hlt : k < st.length
 ·have hkz : (k : Int) < st.length := by omega
  obtain ⟨q, off, x, A1, c1, A2, c2, rfl, hq, hx, hr, g0, g1⟩ := (HE.o.keep (.of_below HB.o)).bk hlt
  have HX := L0 hx
  obtain ⟨W2, e2, HB2, HR2, HSZ⟩ : ∃ W2, wr.alloc (.cells #[.slice A1 x.doms.length c1, .slice A2 x.tabs.length c2] 38) = W2 /\ Hid (Bw wr W2) /\ Hid (rBk.rel W2 S [.slice A1 x.doms.length c1, .slice A2 x.tabs.length c2] x) /\ Hid (wr.heap.size < W2.heap.size) := ⟨_, rfl, L0 bA, L0 (Rd.alloc hr _), L0 (by simp)⟩; have j0 := ac0 e2; have j1 := ac1 e2
  have HS2 : Hid (∀ q, S q -> q < W2.heap.size) := L0 fun q h => by have := HSW.o q h; have := HB.o.size; have := HSZ.o; omega
  have hpl : (st.take k).length <= k := L4d _ _
  have HBY : Hid (((st.take k).length + 1) * rBk.bytes <= 140737488355328) := L0 (by simp only [rBk]; omega)
  clear hx hr hpl
  go_wp2_with (first
   | (go_at_call 39; (with_reducible refine (Y5s W2 HR2.o HS2.o).mono ?_); rintro e w3 ⟨A3, c3, B3, d3, rfl, hr3, hb3⟩; have HR3 := L0 hr3; have HB3 := L0 (HB2.o.trans (hb3.mono HB2.o.size)); have HO3 := L0 (HO.o.below HB3.o); have HSB : Hid (w.heap.size <= w3.heap.size) := L0 (L0h HB.o.size HB3.o.size); have HS1 : Hid (∀ q, W2.heap.size <= q -> q < w3.heap.size -> Up (fun _ => False) w.heap.size q /\ (Value.slice UA un uc).ownBlock ≠ some q) := L0 (fun q h1 _ => ⟨.inr (by have := HB.o.size; have := HSZ.o; omega), fun h => by (have := (HO.o.lt q h).2; have := HSZ.o; omega)⟩); clear hr3 hb3)
   | (at_builtin; refine Z0a (R := rBk) (x := x) X2d rfl (.tmp 17) (.tmp 20) rfl rfl HO3.o [.slice A3 x.doms.length c3, .slice B3 x.tabs.length d3] rfl rfl (fun q => W2.heap.size <= q) HR3.o (by exact HS1.o) HBY.o HSB.o ?_; intro v4 w4 ho4 hb4 _ _; have HO4 := L0 ho4; have HB4 := L0 hb4; clear ho4 hb4))
  go_roundw
  exact ⟨k + 1, _, rfl, by go_num, hlt, L0 ((HB.o.trans (HB3.o.mono HB.o.size)).trans HB4.o), L0 (by rw [L1k, HX.o]; exact HO4.o)⟩
  simp [intOf]; omega
 have hkz : ¬ (k : Int) < st.length := by omega
 go_wp2
 go_ret
 exact ⟨_, rfl, by have := HO.o; rwa [L0l (by omega)] at this, HB.o⟩
