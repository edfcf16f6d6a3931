import Derived.Test.YtlopccnehgolnacGreatDoorGK42
import Derived.Test.YtlopccnehgolnacGreatDoorParse
namespace Go.Proofs.YtlopccnehgolnacGreatDoor
open Go.RowKit Rb
open Nat renaming lt_of_le_of_lt -> jA
open Go.World renaming setCell -> jB
set_option maxRecDepth 100000
set_option maxHeartbeats 6400000
def putB (x : Ses) (s : Txt) : Int × Ses :=
 if (Z0f s).e ≠ 0 then ((Z0f s).e, x)
 else if (Z0f s).is then (0, { x with mine := Y02 x.mine (Z0f s).t, gone := addN x.gone (Z0f s).t.name })
 else (0, { x with mine := Z8x x.mine (Z0f s).d, gone := addN x.gone (Z0f s).d.name })
theorem Y3c (s : Txt) : (∃ e : Int, e ≠ 0 /\ Z0f s = ⟨dm0, tb0, false, e⟩) \/ (∃ d, Z5f d = true /\ Z0f s = ⟨d, tb0, false, 0⟩) \/ ∃ t, Z0s t = true /\ Z0f s = ⟨dm0, t, true, 0⟩ := by
 unfold Z0f
 split
 ·exact .inl ⟨5, by decide, rfl⟩
 ·split
  ·split
   ·exact .inl ⟨1, by decide, rfl⟩
   ·rename_i h
    refine .inr (.inl ⟨_, ?_, rfl⟩)
    simp only [not_or] at h
    simpa using h.2.2
  ·split
   ·split
    ·exact .inl ⟨1, by decide, rfl⟩
    ·rename_i h
     refine .inr (.inr ⟨_, ?_, rfl⟩)
     simp only [not_or] at h
     simpa using h.2.2
   ·exact .inl ⟨1, by decide, rfl⟩
theorem Y5s {s : Txt} {d : Dm} {t : Tb} {is : Bool} {x : Int} (h : Z0f s = ⟨d, t, is, x⟩) (w : World) (hs : s.length <= 140737488355328) (hw : LibW w) (hp : PolW w) :
  Calls Tryz.prog 44 #[.string ⟨s.toArray⟩] w fun e w' => ∃ A c B d', e = .returned (.tuple #[.agg #[.string ⟨d.name.toArray⟩, .int .i64 d.lo, .int .i64 d.hi], .agg #[.string ⟨t.name.toArray⟩, .int .i64 t.pol, .bool t.comp, .slice A t.ins.length c, .slice B t.rules.length d'], .bool is, .int .i64 x]) /\
   rTb.rel w' (Up (fun _ => False) w.heap.size) [.string ⟨t.name.toArray⟩, .int .i64 t.pol, .bool t.comp, .slice A t.ins.length c, .slice B t.rules.length d'] t /\ Below w.heap.size w w' := by
 refine (Y5t s w hs hw hp).mono ?_
 rintro e w' ⟨v, u, rfl, hr, hb⟩
 rw [h] at hr ⊢
 have hr' := hr
 obtain ⟨_, _, e1, _, _, hi, hrr⟩ := hr'
 simp only [L1g, and_true, true_and] at e1
 obtain ⟨rfl, rfl⟩ := e1
 obtain ⟨A, c, e2, _⟩ := rSl.elems hi
 obtain ⟨B, d', e3, _⟩ := rSl.elems hrr
 subst e2 e3
 exact ⟨A, c, B, d', rfl, hr, hb⟩
theorem X09 {s : Txt} {d : Dm} {x : Int} (h : Z0f s = ⟨d, tb0, false, x⟩) (w : World) (hs : s.length <= 140737488355328) (hw : LibW w) (hp : PolW w) :
  Calls Tryz.prog 44 #[.string ⟨s.toArray⟩] w fun e w' => ∃ A c B d', e = .returned (.tuple #[.agg #[.string ⟨d.name.toArray⟩, .int .i64 d.lo, .int .i64 d.hi], .agg #[.string ⟨#[]⟩, .int .i64 0, .bool false, .slice A 0 c, .slice B 0 d'], .bool false, .int .i64 x]) /\
   rTb.rel w' (Up (fun _ => False) w.heap.size) [.string ⟨#[]⟩, .int .i64 0, .bool false, .slice A 0 c, .slice B 0 d'] tb0 /\ Below w.heap.size w w' := Y5s h w hs hw hp
theorem X07 {s : Txt} {x : Int} (h : Z0f s = ⟨dm0, tb0, false, x⟩) (w : World) (hs : s.length <= 140737488355328) (hw : LibW w) (hp : PolW w) :
  Calls Tryz.prog 44 #[.string ⟨s.toArray⟩] w fun e w' => ∃ A c B d', e = .returned (.tuple #[.agg #[.string ⟨#[]⟩, .int .i64 0, .int .i64 0], .agg #[.string ⟨#[]⟩, .int .i64 0, .bool false, .slice A 0 c, .slice B 0 d'], .bool false, .int .i64 x]) /\
   rTb.rel w' (Up (fun _ => False) w.heap.size) [.string ⟨#[]⟩, .int .i64 0, .bool false, .slice A 0 c, .slice B 0 d'] tb0 /\ Below w.heap.size w w' := Y5s h w hs hw hp
theorem X08 {s : Txt} {t : Tb} (h : Z0f s = ⟨dm0, t, true, 0⟩) (w : World) (hs : s.length <= 140737488355328) (hw : LibW w) (hp : PolW w) :
  Calls Tryz.prog 44 #[.string ⟨s.toArray⟩] w fun e w' => ∃ A c B d', e = .returned (.tuple #[.agg #[.string ⟨#[]⟩, .int .i64 0, .int .i64 0], .agg #[.string ⟨t.name.toArray⟩, .int .i64 t.pol, .bool t.comp, .slice A t.ins.length c, .slice B t.rules.length d'], .bool true, .int .i64 0]) /\
   rTb.rel w' (Up (fun _ => False) w.heap.size) [.string ⟨t.name.toArray⟩, .int .i64 t.pol, .bool t.comp, .slice A t.ins.length c, .slice B t.rules.length d'] t /\ Below w.heap.size w w' := Y5s h w hs hw hp
section
variable {w W w4 : World} {sb o : Nat} {T : Nat -> Prop} {x : Ses}
def Tn (T : Nat -> Prop) (w W : World) : Nat -> Prop := fun q => (T q \/ w.heap.size <= q) /\ q < W.heap.size
theorem Tn.lt {T : Nat -> Prop} {w W : World} {q : Nat} (h : Tn T w W q) : q < W.heap.size := h.2
theorem Y0y {b : Bk} {v u : Value} {q : Nat} {nm : Value} (hx : SesAt W sb o T x) (hT : ∀ q, T q -> q < w.heap.size) (hs : ¬ T sb /\ sb < w.heap.size) (hf : ∀ j, W.frozen? ⟨sb, j, none⟩ = false) (hb3 : Below w.heap.size w W)
  (ho : OwnS rDm 63 w4 W.heap.size (Tn T w W) v b.doms) (hp : OwnS rTb 66 w4 W.heap.size (Tn T w W) u b.tabs) (hb4 : Below W.heap.size W w4) (hn : W.cell? ⟨q, 0, none⟩ = some nm /\ q ≠ sb) :
  ∃ W5, (w4.setCell ⟨sb, o + 3, none⟩ v).setCell ⟨sb, o + 4, none⟩ u = W5 /\ Hid (SesAt W5 sb o (Tn T w W5) { x with mine := b }) /\ Hid (Wrote sb o W W5) /\ Hid (W5.cell? ⟨q, 0, none⟩ = some nm /\ q < W5.heap.size) /\ Hid (∀ j, W5.frozen? ⟨sb, j, none⟩ = false) /\ w4.frozen? ⟨sb, o + 3, none⟩ = false /\ w4.frozen? ⟨sb, o + 4, none⟩ = false /\
   (∃ y, w4.cell? ⟨sb, o + 3, none⟩ = some y) /\ ∃ y, w4.cell? ⟨sb, o + 4, none⟩ = some y := by
 have hsW : sb < W.heap.size := L0c hs.2 hb3.size
 have hx4 := hx.below hb4
 obtain ⟨D, dc, B, bc, G, gc, R, rc, _, c0, c1, c2, c3, c4, c5, c6⟩ := hx4.out
 have hT4 : ∀ q, T q -> q < W.heap.size := fun q h => L0c (hT q h) hb3.size
 have hnT : ¬ Tn T w w4 sb := fun h => by
  rcases h.1 with h | h
  ·exact hs.1 h
  ·have := hs.2; omega
 have sub : ∀ b, Up (Tn T w W) W.heap.size b -> b < w4.heap.size -> Tn T w w4 b := fun b h hl => ⟨by
  rcases h with h | h
  ·exact h.1
  ·exact .inr (L0h hb3.size h), hl⟩
 have hr : rBk.rel w4 (Tn T w w4) [v, u] b := ⟨v, u, rfl, (rSl rDm).mono (ho.self.rel (by decide)) sub, (rSl rTb).mono (hp.self.rel (by decide)) sub⟩
 have hx4' : SesAt w4 sb o (Tn T w w4) x := hx4.mono fun b h _ => ⟨.inl h, L0c (hT4 b h) hb4.size⟩
 have hfr : ∀ j, w4.frozen? ⟨sb, j, none⟩ = false := fun j => (hb4.fr j hsW).trans (hf j)
 have hql : q < W.heap.size := L0f _ _ hn.1
 have hz : ((w4.setCell ⟨sb, o + 3, none⟩ v).setCell ⟨sb, o + 4, none⟩ u).heap.size = w4.heap.size := by simp [jB]
 refine ⟨_, rfl, L0 ?_, L0 (((Wrote.below hb4 hsW).trans (.set 3 (by decide) v)).trans (.set 4 (by decide) u)), L0 ⟨?_, by rw [hz]; exact L0c hql hb4.size⟩, L0 fun j => by rw [L0l, L0l]; exact hfr j, hfr _, hfr _, ⟨_, c3⟩, ⟨_, c4⟩⟩
 ·have h := hx4'.setMine hnT hr
  exact h.mono fun b hb _ => ⟨hb.1, by rw [hz]; exact hb.2⟩
 ·refine (L0a _ _ _ _ (by simp; try (intro h; exact absurd h hn.2))).trans ((L0a _ _ _ _ (by simp; try (intro h; exact absurd h hn.2))).trans ?_)
  exact (hb4.ce 0 hql).trans hn.1
theorem Y0x {l : List Txt} {u : Value} (hx : SesAt W sb o (Tn T w W) x) (hs : ¬ T sb /\ sb < w.heap.size) (hf : ∀ j, W.frozen? ⟨sb, j, none⟩ = false) (hw3 : w.heap.size <= W.heap.size)
  (ho : (rSl rStr).rel w4 (Up (Tn T w W) W.heap.size) [u] l) (hb4 : Below W.heap.size W w4) :
  ∃ W5, w4.setCell ⟨sb, o + 5, none⟩ u = W5 /\ Hid (SesAt W5 sb o (Tn T w W5) { x with gone := l }) /\ Hid (Wrote sb o W W5) /\ Hid (∀ j, W5.frozen? ⟨sb, j, none⟩ = false) /\ w4.frozen? ⟨sb, o + 5, none⟩ = false /\ ∃ y, w4.cell? ⟨sb, o + 5, none⟩ = some y := by
 have hsW : sb < W.heap.size := L0c hs.2 hw3
 have hx4 := hx.below hb4
 obtain ⟨D, dc, B, bc, G, gc, R, rc, _, c0, c1, c2, c3, c4, c5, c6⟩ := hx4.out
 have hnT : ¬ Tn T w w4 sb := fun h => by
  rcases h.1 with h | h
  ·exact hs.1 h
  ·have := hs.2; omega
 have sub : ∀ b, Up (Tn T w W) W.heap.size b -> b < w4.heap.size -> Tn T w w4 b := fun b h hl => ⟨by
  rcases h with h | h
  ·exact h.1
  ·exact .inr (L0h hw3 h), hl⟩
 have hfr : ∀ j, w4.frozen? ⟨sb, j, none⟩ = false := fun j => (hb4.fr j hsW).trans (hf j)
 have hz : (w4.setCell ⟨sb, o + 5, none⟩ u).heap.size = w4.heap.size := by simp [jB]
 refine ⟨_, rfl, L0 ?_, L0 ((Wrote.below hb4 hsW).trans (.set 5 (by decide) u)), L0 fun j => by rw [L0l]; exact hfr j, hfr _, ⟨_, c5⟩⟩
 have h := (hx4.mono fun b hb _ => (⟨hb.1, L0c hb.2 hb4.size⟩ : Tn T w w4 b)).setGone hnT ((rSl rStr).mono ho sub)
 exact h.mono fun b hb _ => ⟨hb.1, by rw [hz]; exact hb.2⟩
end
theorem Y93 {T : Nat -> Prop} {sb o : Nat} {x : Ses} (s : Txt) (w : World) (hx : SesAt w sb o T x) (hT : ∀ q, T q -> q < w.heap.size) (hs : ¬ T sb) (hf : ∀ j, w.frozen? ⟨sb, j, none⟩ = false) (hl : s.length <= 140737488355328) (hw : LibW w) (hp : PolW w) {nd nt : Nat} (hn : Neat x.mine nd nt) (hnd : nd < 1000000000000) (hnt : nt < 1000000000000) (hg : x.gone.length < 1000000000000) :
  Calls Tryz.prog 34 #[.pointer (some ⟨sb, o, none⟩), .string ⟨s.toArray⟩] w fun e w' => e = .returned (.int .i64 (putB x s).1) /\ SesAt w' sb o (Tn T w w') (putB x s).2 /\ Wrote sb o w w' := by
 obtain ⟨D, dc, B, bc, G, gc, R, rc, hr, c0, c1, c2, c3, c4, c5, c6⟩ := hx.out
 have hsl : sb < w.heap.size := L0f _ _ c0
 have HX := L0 hx
 have HT := L0 hT
 have HSB := L0 (And.intro hs hsl)
 have HF0 := L0 hf
 have HL := L0 hl
 have HW := L0 hw
 have HP := L0 hp
 have HN := L0 hn
 have HND := L0 hnd
 have HNT := L0 hnt
 have HG := L0 hg
 have HR := L0 hr
 have HC := L0 (show w.cell? ⟨sb, o + 3, none⟩ = some (.slice D x.mine.doms.length dc) /\ w.cell? ⟨sb, o + 4, none⟩ = some (.slice B x.mine.tabs.length bc) from ⟨c3, c4⟩)
 clear hx hT hs hf hl hw hp hn hnd hnt hg hr c0 c1 c2 c3 c4 c5 c6 hsl
 rcases Y3c s with ⟨e0, hx0, hps⟩ | ⟨d, hd, hps⟩ | ⟨t, ht, hps⟩
 ·have HPS := L0 hps
  have HV : Hid (putB x s = (e0, x)) := L0 (by unfold putB; rw [hps]; exact if_pos hx0)
  have hq0 : (e0 == 0) = false := beq_eq_false_iff_ne.2 hx0
  have hq1 : (e0 != 0) = true := bne_iff_ne.2 hx0
  clear hps
  go_enter Tryz.func34, Tryz.ntmps34
  go_wp2_with (go_at_call 44; (with_reducible refine (X07 HPS.out w HL.out HW.out HP.out).mono ?_); rintro e w1 ⟨A1, c1, B1, d1, rfl, hr1, hb1⟩; have HB1 := L0 hb1; clear hb1 hr1; obtain ⟨W2, e2, HPB, HB2, HX1⟩ := PrB.start w1 63 66; obtain ⟨W3, e3, n0, n1, n2, m0, m1, m2, m3, m4, HB3, _⟩ := HPB.out.store dm0 [] 0 false (.slice A1 0 c1) (.slice B1 0 d1); have a0 := HPB.out.a0; have a1 := HPB.out.a1; have a2 := HPB.out.a2; have b0 := HPB.out.b0; have b1 := HPB.out.b1; have b2 := HPB.out.b2; have b3 := HPB.out.b3; have b4 := HPB.out.b4; have x0 := HPB.out.x 0; have x1 := HPB.out.x 1; have x2 := HPB.out.x 2; have y0 := HPB.out.y 0; have y1 := HPB.out.y 1; have y2 := HPB.out.y 2; have y3 := HPB.out.y 3; have y4 := HPB.out.y 4; have HBW := L0 (HB3.out _ HB1.out.size _ (HB1.out.trans (HB2.out.mono HB1.out.size))); simp only [dm0] at e3 n0 n1 n2)
  go_ret
  exact ⟨by rw [HV.out]; rfl, by rw [HV.out]; exact (HX.out.below HBW.out).mono fun b hb _ => ⟨.inl hb, L0c (HT.out b hb) HBW.out.size⟩, .below HBW.out HSB.out.2⟩
 ·have HPS := L0 hps
  have HV : Hid (putB x s = (0, { x with mine := Z8x x.mine d, gone := addN x.gone d.name })) := L0 (by unfold putB; rw [hps]; rfl)
  have HDM : Hid (d.name.length <= 140737488355328 /\ InI d.lo /\ InI d.hi) := L0 (by obtain ⟨q1, q2, q3⟩ := Z9h hd; have z1 := Z6b q1; have z2 := (Z1c _).1 q2; have z3 := (Z1c _).1 q3; exact ⟨by omega, ⟨by omega, by omega⟩, ⟨by omega, by omega⟩⟩)
  have HND' : Hid ((x.mine.doms.map (·.name)).Nodup) := L0 HN.out.hd
  have HNL : Hid (x.mine.doms.length < 1000000000000) := L0 (jA HN.out.ld HND.out)
  clear hps hd
  go_enter Tryz.func34, Tryz.ntmps34
  go_upto_region 7 with (first
   | (go_at_call 44; (with_reducible refine (X09 HPS.out w HL.out HW.out HP.out).mono ?_); rintro e w1 ⟨A1, c1, B1, d1, rfl, hr1, hb1⟩; have HB1 := L0 hb1; have HR1 := L0 hr1; clear hb1 hr1; obtain ⟨W2, e2, HPB, HB2, HX1⟩ := PrB.start w1 63 66; obtain ⟨W3, e3, n0, n1, n2, m0, m1, m2, m3, m4, HB3, _⟩ := HPB.out.store d [] 0 false (.slice A1 0 c1) (.slice B1 0 d1); have a0 := HPB.out.a0; have a1 := HPB.out.a1; have a2 := HPB.out.a2; have b0 := HPB.out.b0; have b1 := HPB.out.b1; have b2 := HPB.out.b2; have b3 := HPB.out.b3; have b4 := HPB.out.b4; have x0 := HPB.out.x 0; have x1 := HPB.out.x 1; have x2 := HPB.out.x 2; have y0 := HPB.out.y 0; have y1 := HPB.out.y 1; have y2 := HPB.out.y 2; have y3 := HPB.out.y 3; have y4 := HPB.out.y 4; have HBW := L0 (HB3.out _ HB1.out.size _ (HB1.out.trans (HB2.out.mono HB1.out.size))); have HU := L0 (HB3.out w1.heap.size (L0g _) w1 HB2.out)))
  have HQL : Hid (w.heap.size <= w1.heap.size) := L0 HB1.out.size
  have c3 := (HBW.out.ce (o + 3) HSB.out.2).trans HC.out.1
  have c4 := (HBW.out.ce (o + 4) HSB.out.2).trans HC.out.2
  have HNM : Hid (W3.drew.cell? ⟨w1.heap.size, 0, none⟩ = some (.string ⟨d.name.toArray⟩) /\ w1.heap.size ≠ sb) := L0 ⟨(show W3.drew.cell? _ = _ from n0), by have := HSB.out.2; have := HQL.out; omega⟩
  have HBD : Hid (Below w.heap.size w W3.drew) := L0 (HBW.out.trans ⟨rfl, rfl, rfl, L0g _, fun _ _ => rfl⟩)
  have HX3 := L0 (HX.out.below HBD.out)
  have HF : Hid (∀ j, W3.drew.frozen? ⟨sb, j, none⟩ = false) := L0 fun j => (HBD.out.fr j HSB.out.2).trans (HF0.out j)
  have hf3 : W3.drew.frozen? ⟨sb, o + 3, none⟩ = false := HF.out (o + 3)
  have hf4 : W3.drew.frozen? ⟨sb, o + 4, none⟩ = false := HF.out (o + 4)
  have HREL : Hid (rBk.rel W3.drew (Tn T w W3.drew) [.slice D x.mine.doms.length dc, .slice B x.mine.tabs.length bc] x.mine) := L0 (by
   obtain ⟨v', u', _, _, e1, _, h1, h2, _⟩ := HR.out
   simp only [L1g, and_true, true_and] at e1
   obtain ⟨rfl, rfl, _⟩ := e1
   exact rBk.mono (Rd.below (show rBk.rel w T _ x.mine from ⟨_, _, rfl, h1, h2⟩) HBD.out) fun b hb _ => ⟨.inl hb, L0c (HT.out b hb) HBD.out.size⟩)
  have HSD : Hid (∀ q, Tn T w W3.drew q -> q < W3.drew.heap.size) := L0 fun q h => Tn.lt h
  clear e2 e3 a0 a1 a2 b0 b1 b2 b3 b4 x0 x1 x2 y0 y1 y2 y3 y4
  go_region_law (first
  | ((go_simp; go_at_call 46; (with_reducible refine (Y3s d W3.drew HREL.out HSD.out HDM.out HND'.out HNL.out).mono ?_); rintro e w4 ⟨v4, u4, rfl, ho4, hp4, hb4⟩; obtain ⟨A4, n4, k4, rfl⟩ := ho4.shape; obtain ⟨B4, m4', j4, rfl⟩ := hp4.shape; obtain ⟨W5, e5, HX5, HWR5, HN5, HF5, af3, af4, a3, a4⟩ := Y0y (W := W3.drew) HX3.out HT.out HSB.out HF.out HBD.out ho4 hp4 hb4 HNM.out; obtain ⟨y3, a3⟩ := a3; obtain ⟨y4, a4⟩ := a4; clear ho4 hp4 hb4)))
  all_goals
   have HB5 : Hid (Below W5.heap.size W5 W5.drew) := L0 ⟨rfl, rfl, rfl, L0g _, fun _ _ => rfl⟩
   have HX5d := L0 (HX5.out.below HB5.out)
   obtain ⟨D5, dc5, B5, bc5, G5, gc5, R5, rc5, hr5, _, _, _, _, _, g5, _⟩ := HX5d.out.out
   have HU5 : Hid ((rSl rStr).rel W5.drew (Tn T w W5.drew) [.slice G5 x.gone.length gc5] x.gone) := L0 (by
    obtain ⟨_, _, _, _, e1, _, _, _, h3, _⟩ := hr5
    simp only [L1g, and_true, true_and] at e1
    obtain ⟨_, _, rfl, _⟩ := e1
    exact h3)
   have g5' : W5.cell? ⟨sb, o + 5, none⟩ = some (.slice G5 x.gone.length gc5) := g5
   have n5 := HN5.out.1
   have nz5 := HN5.out.2
   have hf5 : W5.drew.frozen? ⟨sb, o + 5, none⟩ = false := HF5.out (o + 5)
   have HW3 : Hid (w.heap.size <= W5.drew.heap.size) := L0 (L0h HBD.out.size HWR5.out.hg.size)
   clear hr5 g5 a3 a4 af3 af4 e5 hf3 hf4 c3 c4 n0 n1 n2 m0 m1 m2 m3 m4
   go_upto_region 8 with fail
   go_region_law (first
    | ((go_simp; go_at_call 36; (with_reducible refine (Z13 d.name W5.drew HU5.out HDM.out.1 HG.out (fun _ h => Tn.lt h)).mono ?_); rintro e w6 ⟨u6, rfl, hr6, hb6⟩; obtain ⟨A6, k6, rfl, _⟩ := rSl.elems hr6; obtain ⟨W7, e7, HX7, HWR7, HF7, af5, a5⟩ := Y0x (W := W5.drew) HX5d.out HSB.out HF5.out HW3.out hr6 hb6; obtain ⟨y5, a5⟩ := a5; clear hr6 hb6)))
   all_goals
    go_wp2
    go_ret
    exact ⟨by rw [HV.out]; rfl, by rw [HV.out]; exact HX7.out, (((Wrote.below HBD.out HSB.out.2).trans HWR5.out).trans (.below HB5.out (L0c HSB.out.2 (L0h HBD.out.size HWR5.out.hg.size)))).trans HWR7.out⟩
 ·have HPS := L0 hps
  have HV : Hid (putB x s = (0, { x with mine := Y02 x.mine t, gone := addN x.gone t.name })) := L0 (by unfold putB; rw [hps]; rfl)
  have HNL0 : Hid (t.name.length <= 140737488355328) := L0 (by have := Z6s ht; omega)
  have HND' : Hid ((x.mine.tabs.map (·.name)).Nodup) := L0 HN.out.ht
  have HNL : Hid (x.mine.tabs.length < 1000000000000) := L0 (jA HN.out.lt HNT.out)
  clear hps ht
  go_enter Tryz.func34, Tryz.ntmps34
  go_upto_region 5 with (first
   | (go_at_call 44; (with_reducible refine (X08 HPS.out w HL.out HW.out HP.out).mono ?_); rintro e w1 ⟨A1, c1, B1, d1, rfl, hr1, hb1⟩; have HB1 := L0 hb1; have HR1 := L0 hr1; clear hb1 hr1; obtain ⟨W2, e2, HPB, HB2, HX1⟩ := PrB.start w1 63 66; obtain ⟨W3, e3, n0, n1, n2, m0, m1, m2, m3, m4, HB3, _⟩ := HPB.out.store dm0 t.name t.pol t.comp (.slice A1 t.ins.length c1) (.slice B1 t.rules.length d1); have a0 := HPB.out.a0; have a1 := HPB.out.a1; have a2 := HPB.out.a2; have b0 := HPB.out.b0; have b1 := HPB.out.b1; have b2 := HPB.out.b2; have b3 := HPB.out.b3; have b4 := HPB.out.b4; have x0 := HPB.out.x 0; have x1 := HPB.out.x 1; have x2 := HPB.out.x 2; have y0 := HPB.out.y 0; have y1 := HPB.out.y 1; have y2 := HPB.out.y 2; have y3 := HPB.out.y 3; have y4 := HPB.out.y 4; have HBW := L0 (HB3.out _ HB1.out.size _ (HB1.out.trans (HB2.out.mono HB1.out.size))); have HU := L0 (HB3.out w1.heap.size (L0g _) w1 HB2.out); simp only [dm0] at e3 n0 n1 n2))
  have HQL : Hid (w.heap.size <= w1.heap.size) := L0 HB1.out.size
  have c3 := (HBW.out.ce (o + 3) HSB.out.2).trans HC.out.1
  have c4 := (HBW.out.ce (o + 4) HSB.out.2).trans HC.out.2
  have HNM : Hid (W3.drew.cell? ⟨(w1.heap.size + 1), 0, none⟩ = some (.string ⟨t.name.toArray⟩) /\ (w1.heap.size + 1) ≠ sb) := L0 ⟨(show W3.drew.cell? _ = _ from m0), by have := HSB.out.2; have := HQL.out; omega⟩
  have HBD : Hid (Below w.heap.size w W3.drew) := L0 (HBW.out.trans ⟨rfl, rfl, rfl, L0g _, fun _ _ => rfl⟩)
  have HX3 := L0 (HX.out.below HBD.out)
  have HF : Hid (∀ j, W3.drew.frozen? ⟨sb, j, none⟩ = false) := L0 fun j => (HBD.out.fr j HSB.out.2).trans (HF0.out j)
  have hf3 : W3.drew.frozen? ⟨sb, o + 3, none⟩ = false := HF.out (o + 3)
  have hf4 : W3.drew.frozen? ⟨sb, o + 4, none⟩ = false := HF.out (o + 4)
  have HREL : Hid (rBk.rel W3.drew (Tn T w W3.drew) [.slice D x.mine.doms.length dc, .slice B x.mine.tabs.length bc] x.mine) := L0 (by
   obtain ⟨v', u', _, _, e1, _, h1, h2, _⟩ := HR.out
   simp only [L1g, and_true, true_and] at e1
   obtain ⟨rfl, rfl, _⟩ := e1
   exact rBk.mono (Rd.below (show rBk.rel w T _ x.mine from ⟨_, _, rfl, h1, h2⟩) HBD.out) fun b hb _ => ⟨.inl hb, L0c (HT.out b hb) HBD.out.size⟩)
  have HSD : Hid (∀ q, Tn T w W3.drew q -> q < W3.drew.heap.size) := L0 fun q h => Tn.lt h
  have HTB : Hid (rTb.rel W3.drew (Tn T w W3.drew) [.string ⟨t.name.toArray⟩, .int .i64 t.pol, .bool t.comp, .slice A1 t.ins.length c1, .slice B1 t.rules.length d1] t) := L0 (Rd.drew (rTb.mono (Rd.below HR1.out HU.out) fun b hb hl => ⟨.inr (by rcases hb with h | h; exact h.elim; exact h), L0c hl (by exact L0g _)⟩))
  clear e2 e3 a0 a1 a2 b0 b1 b2 b3 b4 x0 x1 x2 y0 y1 y2 y3 y4
  go_region_law (first
  | ((go_simp; go_at_call 45; (with_reducible refine (Z5w t W3.drew HREL.out HSD.out HTB.out HND'.out HNL.out).mono ?_); rintro e w4 ⟨v4, u4, rfl, ho4, hp4, hb4⟩; obtain ⟨A4, n4, k4, rfl⟩ := ho4.shape; obtain ⟨B4, m4', j4, rfl⟩ := hp4.shape; obtain ⟨W5, e5, HX5, HWR5, HN5, HF5, af3, af4, a3, a4⟩ := Y0y (W := W3.drew) HX3.out HT.out HSB.out HF.out HBD.out ho4 hp4 hb4 HNM.out; obtain ⟨y3, a3⟩ := a3; obtain ⟨y4, a4⟩ := a4; clear ho4 hp4 hb4)))
  all_goals
   have HB5 : Hid (Below W5.heap.size W5 W5.drew) := L0 ⟨rfl, rfl, rfl, L0g _, fun _ _ => rfl⟩
   have HX5d := L0 (HX5.out.below HB5.out)
   obtain ⟨D5, dc5, B5, bc5, G5, gc5, R5, rc5, hr5, _, _, _, _, _, g5, _⟩ := HX5d.out.out
   have HU5 : Hid ((rSl rStr).rel W5.drew (Tn T w W5.drew) [.slice G5 x.gone.length gc5] x.gone) := L0 (by
    obtain ⟨_, _, _, _, e1, _, _, _, h3, _⟩ := hr5
    simp only [L1g, and_true, true_and] at e1
    obtain ⟨_, _, rfl, _⟩ := e1
    exact h3)
   have g5' : W5.cell? ⟨sb, o + 5, none⟩ = some (.slice G5 x.gone.length gc5) := g5
   have n5 := HN5.out.1
   have nz5 := HN5.out.2
   have hf5 : W5.drew.frozen? ⟨sb, o + 5, none⟩ = false := HF5.out (o + 5)
   have HW3 : Hid (w.heap.size <= W5.drew.heap.size) := L0 (L0h HBD.out.size HWR5.out.hg.size)
   clear hr5 g5 a3 a4 af3 af4 e5 hf3 hf4 c3 c4 n0 n1 n2 m0 m1 m2 m3 m4
   go_upto_region 6 with fail
   go_region_law (first
    | ((go_simp; go_at_call 36; (with_reducible refine (Z13 t.name W5.drew HU5.out HNL0.out HG.out (fun _ h => Tn.lt h)).mono ?_); rintro e w6 ⟨u6, rfl, hr6, hb6⟩; obtain ⟨A6, k6, rfl, _⟩ := rSl.elems hr6; obtain ⟨W7, e7, HX7, HWR7, HF7, af5, a5⟩ := Y0x (W := W5.drew) HX5d.out HSB.out HF5.out HW3.out hr6 hb6; obtain ⟨y5, a5⟩ := a5; clear hr6 hb6)))
   all_goals
    go_wp2
    go_ret
    exact ⟨by rw [HV.out]; rfl, by rw [HV.out]; exact HX7.out, (((Wrote.below HBD.out HSB.out.2).trans HWR5.out).trans (.below HB5.out (L0c HSB.out.2 (L0h HBD.out.size HWR5.out.hg.size)))).trans HWR7.out⟩
