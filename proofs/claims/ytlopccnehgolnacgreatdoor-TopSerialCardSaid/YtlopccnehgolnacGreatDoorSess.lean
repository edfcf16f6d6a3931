import Derived.Test.YtlopccnehgolnacGreatDoorGK42
import Derived.Test.YtlopccnehgolnacGreatDoorGK16
namespace Go.Proofs.YtlopccnehgolnacGreatDoor
open Go.RowKit Rb
open Rd renaming below -> jA
set_option maxRecDepth 100000
set_option maxHeartbeats 12800000
theorem X4v {w : World} {q : Nat} {u0 u1 u2 u3 u4 u5 u6 : Value} (v0 v1 v2 v3 v4 v5 v6 : Value) (h0 : w.cell? (zn q 0) = some u0) (h1 : w.cell? (zn q 1) = some u1) (h2 : w.cell? (zn q 2) = some u2) (h3 : w.cell? (zn q 3) = some u3) (h4 : w.cell? (zn q 4) = some u4) (h5 : w.cell? (zn q 5) = some u5) (h6 : w.cell? (zn q 6) = some u6) :
  ∃ W, ((((((w.setCell (zn q 0) v0).setCell (zn q 1) v1).setCell (zn q 2) v2).setCell (zn q 3) v3).setCell (zn q 4) v4).setCell (zn q 5) v5).setCell (zn q 6) v6 = W /\ w.grownBy W (some q) /\ W.cell? (zn q 0) = some v0 /\ W.cell? (zn q 1) = some v1 /\ W.cell? (zn q 2) = some v2 /\ W.cell? (zn q 3) = some v3 /\ W.cell? (zn q 4) = some v4 /\ W.cell? (zn q 5) = some v5 /\ W.cell? (zn q 6) = some v6 :=
 ⟨_, rfl, (Z0b [v0, v1, v2, v3, v4, v5, v6] 0 : w.grownBy (w.setCells q 0 [v0, v1, v2, v3, v4, v5, v6]) (some q)), (cso).trans ((cso).trans ((cso).trans ((cso).trans ((cso).trans ((cso).trans (L0e _ _ _ (h0))))))), (cso).trans ((cso).trans ((cso).trans ((cso).trans ((cso).trans (L0e _ _ _ ((cso).trans (h1))))))), (cso).trans ((cso).trans ((cso).trans ((cso).trans (L0e _ _ _ ((cso).trans ((cso).trans (h2))))))), (cso).trans ((cso).trans ((cso).trans (L0e _ _ _ ((cso).trans ((cso).trans ((cso).trans (h3))))))), (cso).trans ((cso).trans (L0e _ _ _ ((cso).trans ((cso).trans ((cso).trans ((cso).trans (h4))))))), (cso).trans (L0e _ _ _ ((cso).trans ((cso).trans ((cso).trans ((cso).trans ((cso).trans (h5))))))), L0e _ _ _ ((cso).trans ((cso).trans ((cso).trans ((cso).trans ((cso).trans ((cso).trans (h6)))))))⟩
theorem X1x {S4 S5 : Nat -> Prop} {x : Ses} {w X wa wb wc : World} {A3 B3 A4 A5 : Option Addr} {c3 d3 c4 c5 : Nat} (h0 : InI x.frm)
  (hXS : X.heap.size = w.heap.size + 2) (hX : Bw w X) (hM : ∀ j u, [.bool x.opn, .bool x.strict, .int .i64 x.frm][j]? = some u -> X.cell? (zn (w.heap.size + 1) j) = some u) (hR : ∀ j u, [.bool false, .bool false, .int .i64 0, nl, nl, nl, nl][j]? = some u -> X.cell? (zn w.heap.size j) = some u) (hF : ∀ j, X.frozen? (zn w.heap.size j) = false)
  (ha : Bw X wa) (hab : Bw wa wb) (hbc : Bw wb wc) (h3 : rBk.rel wa (fun q => X.heap.size <= q) [.slice A3 x.mine.doms.length c3, .slice B3 x.mine.tabs.length d3] x.mine)
  (h4 : OwnS rStr 9 wb wa.heap.size S4 (.slice A4 x.gone.length c4) x.gone) (h5 : OwnS rStr 9 wc wb.heap.size S5 (.slice A5 x.read.length c5) x.read)
  {y3 y4 y5 y6 : Value} (k3 : wc.cell? (zn (w.heap.size + 1) 3) = some y3) (k4 : wc.cell? (zn (w.heap.size + 1) 4) = some y4) (k5 : wc.cell? (zn (w.heap.size + 1) 5) = some y5) (k6 : wc.cell? (zn (w.heap.size + 1) 6) = some y6) :
  ∃ W, (((wc.setCell (zn (w.heap.size + 1) 3) (.slice A3 x.mine.doms.length c3)).setCell (zn (w.heap.size + 1) 4) (.slice B3 x.mine.tabs.length d3)).setCell (zn (w.heap.size + 1) 5) (.slice A4 x.gone.length c4)).setCell (zn (w.heap.size + 1) 6) (.slice A5 x.read.length c5) = W /\
   Hid (Bw w W) /\ Hid (rSes.rel W (fun q => w.heap.size + 2 <= q) [.bool x.opn, .bool x.strict, .int .i64 x.frm, .slice A3 x.mine.doms.length c3, .slice B3 x.mine.tabs.length d3, .slice A4 x.gone.length c4, .slice A5 x.read.length c5] x) /\
   Hid (∀ j u, [.bool x.opn, .bool x.strict, .int .i64 x.frm, .slice A3 x.mine.doms.length c3, .slice B3 x.mine.tabs.length d3, .slice A4 x.gone.length c4, .slice A5 x.read.length c5][j]? = some u -> W.cell? (zn (w.heap.size + 1) j) = some u) /\
   Hid (∀ j u, [.bool false, .bool false, .int .i64 0, nl, nl, nl, nl][j]? = some u -> W.cell? (zn w.heap.size j) = some u) /\ Hid (∀ j, W.frozen? (zn w.heap.size j) = false) := by
 have hXc : Bw X wc := ha.trans ((hab.trans (hbc.mono hab.size)).mono ha.size)
 have hG : wc.grownBy ((((wc.setCell (zn (w.heap.size + 1) 3) (.slice A3 x.mine.doms.length c3)).setCell (zn (w.heap.size + 1) 4) (.slice B3 x.mine.tabs.length d3)).setCell (zn (w.heap.size + 1) 5) (.slice A4 x.gone.length c4)).setCell (zn (w.heap.size + 1) 6) (.slice A5 x.read.length c5)) (some (w.heap.size + 1)) := (Z0b [.slice A3 x.mine.doms.length c3, .slice B3 x.mine.tabs.length d3, .slice A4 x.gone.length c4, .slice A5 x.read.length c5] 3 : wc.grownBy (wc.setCells (w.heap.size + 1) 3 [.slice A3 x.mine.doms.length c3, .slice B3 x.mine.tabs.length d3, .slice A4 x.gone.length c4, .slice A5 x.read.length c5]) (some (w.heap.size + 1)))
 have hK : Keeps (fun q => w.heap.size + 2 <= q) wc _ := .grown hG fun g hg h => by injection hg with hg; omega
 have hn0 : w.heap.size < X.heap.size := by omega
 have hn1 : w.heap.size + 1 < X.heap.size := by omega
 have hsz := ha.size
 have hsz2 := hab.size
 have m : ∀ j u, j < 3 -> [Value.bool x.opn, .bool x.strict, .int .i64 x.frm][j]? = some u -> wc.cell? (zn (w.heap.size + 1) j) = some u := fun j u _ hu => (hXc.ce j hn1).trans (hM j u hu)
 obtain ⟨_, _, e3, h31, h32⟩ := h3
 simp only [L1f, and_true] at e3
 obtain ⟨rfl, rfl⟩ := e3
 refine ⟨_, rfl, L0 ?_, L0 ⟨_, _, _, _, rfl, h0, ?_, ?_, ?_, ?_⟩, L0 ?_, L0 ?_, L0 ?_⟩
 ·exact (hX.trans (hXc.mono (by omega))).grown hG (by have := hXc.size; omega) fun k hk => by injection hk with hk; omega
 ·exact (rSl rDm).keep ((rSl rDm).mono (jA (jA h31 hab) hbc) fun q hq _ => by omega) hK
 ·exact (rSl rTb).keep ((rSl rTb).mono (jA (jA h32 hab) hbc) fun q hq _ => by omega) hK
 ·exact (rSl rStr).keep ((rSl rStr).mono (((h4.below hbc).self.flat fun _ _ _ _ _ _ h => h).rel (by decide)) fun q hq _ => by rcases hq with h | h; exact h.elim; omega) hK
 ·exact (rSl rStr).keep ((rSl rStr).mono ((h5.self.flat fun _ _ _ _ _ _ h => h).rel (by decide)) fun q hq _ => by rcases hq with h | h; exact h.elim; omega) hK
 ·intro j u hu
  match j, hu with
  | 0, hu => exact (cso).trans ((cso).trans ((cso).trans ((cso).trans (m 0 u (by decide) hu))))
  | 1, hu => exact (cso).trans ((cso).trans ((cso).trans ((cso).trans (m 1 u (by decide) hu))))
  | 2, hu => exact (cso).trans ((cso).trans ((cso).trans ((cso).trans (m 2 u (by decide) hu))))
  | 3, hu => obtain rfl := L0s hu; exact (cso).trans ((cso).trans ((cso).trans (L0e _ _ _ k3)))
  | 4, hu => obtain rfl := L0s hu; exact (cso).trans ((cso).trans (L0e _ _ _ ((cso).trans k4)))
  | 5, hu => obtain rfl := L0s hu; exact (cso).trans (L0e _ _ _ ((cso).trans ((cso).trans k5)))
  | 6, hu => obtain rfl := L0s hu; exact L0e _ _ _ ((cso).trans ((cso).trans ((cso).trans k6)))
  | j + 7, hu => simp at hu
 ·intro j u hu
  exact (L1d (hG.block _ (by have := hXc.size; show w.heap.size < _; omega) (by simp))).trans ((hXc.ce j hn0).trans (hR j u hu))
 intro j
 exact (L1a (hG.block _ (by have := hXc.size; show w.heap.size < _; omega) (by simp))).trans ((hXc.fr j hn0).trans (hF j))
theorem Y4q {S : Nat -> Prop} {xs : List Value} {x : Ses} {sb k : Nat} (w : World) (hk : k < 4) (hl : rSes.rel w S xs x) (hcs : ∀ j u, xs[j]? = some u -> w.cell? (zn sb (1 + k * 7 + j)) = some u) (hSw : ∀ q, S q -> q < w.heap.size) :
  Calls Tryz.prog 14 #[.pointer (some (zn sb 0)), .int .i64 k] w fun e w' => ∃ ys, e = .returned (.agg ys.toArray) /\ rSes.rel w' (fun q => w.heap.size <= q) ys x /\ Bw w w' := by
 obtain ⟨xv, xu, xg, xr, rfl, h0, hxd, hxt, hxg, hxr⟩ := hl
 obtain ⟨DA, dc, rfl, _, _, _, hDE⟩ := rSl.elems hxd
 obtain ⟨TA0, tc0, rfl, _, _, _, hTE⟩ := rSl.elems hxt
 obtain ⟨GA, gc, rfl, _, _, hgb, hGE⟩ := rSl.elems hxg
 obtain ⟨RA, rc, rfl, _, _, hrb, hRE⟩ := rSl.elems hxr
 have hsb : sb < w.heap.size := L0d _ _ (hcs 0 _ rfl)
 obtain ⟨W0, e0, HZ0, c0, c1, c2, c3, c4, c5, c6⟩ : ∃ W0, w.alloc (.cells #[.bool false, .bool false, .int .i64 0, nl, nl, nl, nl] 41) = W0 /\ W0.heap.size = w.heap.size + 1 /\ W0.cell? (zn sb (1 + k * 7)) = some (.bool x.opn) /\ W0.cell? (zn sb (1 + k * 7 + 1)) = some (.bool x.strict) /\ W0.cell? (zn sb (1 + k * 7 + 2)) = some (.int .i64 x.frm) /\ W0.cell? (zn sb (1 + k * 7 + 3)) = some (.slice DA x.mine.doms.length dc) /\ W0.cell? (zn sb (1 + k * 7 + 4)) = some (.slice TA0 x.mine.tabs.length tc0) /\ W0.cell? (zn sb (1 + k * 7 + 5)) = some (.slice GA x.gone.length gc) /\ W0.cell? (zn sb (1 + k * 7 + 6)) = some (.slice RA x.read.length rc) :=
  ⟨_, rfl, by simp, (L0j _ _ _ hsb).trans (hcs 0 _ rfl), (L0j _ _ _ hsb).trans (hcs 1 _ rfl), (L0j _ _ _ hsb).trans (hcs 2 _ rfl), (L0j _ _ _ hsb).trans (hcs 3 _ rfl), (L0j _ _ _ hsb).trans (hcs 4 _ rfl), (L0j _ _ _ hsb).trans (hcs 5 _ rfl), (L0j _ _ _ hsb).trans (hcs 6 _ rfl)⟩
 have hk0 : ¬ ((k : Int) < 0) := by omega
 have hk4 : ¬ ((4 : Int) <= k) := by omega
 have hk4' : (k : Int) < 4 := by omega
 obtain ⟨X, e1, HB1, HSZ, HM, HF0, HF1, HR0⟩ : ∃ X, W0.alloc (.cells #[.bool x.opn, .bool x.strict, .int .i64 x.frm, .slice DA x.mine.doms.length dc, .slice TA0 x.mine.tabs.length tc0, .slice GA x.gone.length gc, .slice RA x.read.length rc] 41) = X /\ Hid (Bw w X) /\ Hid (X.heap.size = w.heap.size + 2) /\ Hid (∀ j u, [.bool x.opn, .bool x.strict, .int .i64 x.frm, .slice DA x.mine.doms.length dc, .slice TA0 x.mine.tabs.length tc0, .slice GA x.gone.length gc, .slice RA x.read.length rc][j]? = some u -> X.cell? (zn (w.heap.size + 1) j) = some u) /\ Hid (∀ j, X.frozen? (zn w.heap.size j) = false) /\ Hid (∀ j, X.frozen? (zn (w.heap.size + 1) j) = false) /\ Hid (∀ j u, [.bool false, .bool false, .int .i64 0, nl, nl, nl, nl][j]? = some u -> X.cell? (zn w.heap.size j) = some u) := by
  refine ⟨_, rfl, L0 ?_, L0 (by simp [HZ0]), L0 ?_, L0 ?_, L0 ?_, L0 ?_⟩
  ·subst e0; exact bA.alloc (by simp) _
  ·intro j u hj
   rw [<- HZ0]
   exact (L0b _ _ _ _).trans (by simpa using hj)
  ·intro j
   subst e0
   simp
  ·intro j
   rw [<- HZ0]
   simp
  intro j u hj
  refine (L0j _ _ _ (by rw [HZ0]; exact L2s _)).trans ?_
  subst e0
  exact (L0b _ _ _ _).trans (by simpa using hj)
 have m3 := HM.o 3 _ rfl
 have m4 := HM.o 4 _ rfl
 have m5 := HM.o 5 _ rfl
 have m6 := HM.o 6 _ rfl
 clear hcs
 have HGB : Hid (x.gone.length * 16 <= 140737488355328) := L0 (by simpa [rStr] using hgb)
 have HRB : Hid (x.read.length * 16 <= 140737488355328) := L0 (by simpa [rStr] using hrb)
 clear hgb hrb
 have HS := L0 hSw
 have HD := L0 hxd
 have HT := L0 hxt
 have HG := L0 hGE
 have HR := L0 hRE
 clear hSw hxd hxt hxg hxr hDE hTE hGE hRE
 go_enter Tryz.func14, Tryz.ntmps14
 go_upto_region 4 with fail
 have mf3 : X.drew.frozen? (zn (w.heap.size + 1) 3) = false := HF1.o 3
 have mf4 : X.drew.frozen? (zn (w.heap.size + 1) 4) = false := HF1.o 4
 have mf5 : X.drew.frozen? (zn (w.heap.size + 1) 5) = false := HF1.o 5
 have mf6 : X.drew.frozen? (zn (w.heap.size + 1) 6) = false := HF1.o 6
 have HBD : Hid (Bw w X.drew) := L0 (HB1.o.trans ⟨rfl, rfl, rfl, L0g _, fun _ _ => rfl⟩)
 have HXS : Hid (w.heap.size + 1 < X.drew.heap.size) := L0 (by show _ < X.heap.size; rw [HSZ.o]; omega)
 have HREL : Hid (rBk.rel X.drew S [.slice DA x.mine.doms.length dc, .slice TA0 x.mine.tabs.length tc0] x.mine) := L0 ⟨_, _, rfl, (rSl rDm).keep HD.o (.of_below HBD.o), (rSl rTb).keep HT.o (.of_below HBD.o)⟩
 have HSD : Hid (∀ q, S q -> q < X.drew.heap.size) := L0 fun q h => by have := HS.o q h; have := HXS.o; omega
 clear c0 c1 c2 c3 c4 c5 c6 hsb e0 HZ0 e1
 go_cut [] (fun wx => ∃ A3 c3 B3 d3 A4 c4 A5 c5, Hid (Bw w wx) /\ Hid (rSes.rel wx (fun q => w.heap.size + 2 <= q) [.bool x.opn, .bool x.strict, .int .i64 x.frm, .slice A3 x.mine.doms.length c3, .slice B3 x.mine.tabs.length d3, .slice A4 x.gone.length c4, .slice A5 x.read.length c5] x) /\
  Hid (∀ j u, [.bool x.opn, .bool x.strict, .int .i64 x.frm, .slice A3 x.mine.doms.length c3, .slice B3 x.mine.tabs.length d3, .slice A4 x.gone.length c4, .slice A5 x.read.length c5][j]? = some u -> wx.cell? (zn (w.heap.size + 1) j) = some u) /\
  Hid (∀ j u, [.bool false, .bool false, .int .i64 0, nl, nl, nl, nl][j]? = some u -> wx.cell? (zn w.heap.size j) = some u) /\ Hid (∀ j, wx.frozen? (zn w.heap.size j) = false))
 case first =>
  go_region_with (first
   | (go_at_call 39; ((with_reducible refine (Y5s X.drew HREL.o HSD.o).mono ?_); rintro e wa ⟨A3, c3, B3, d3, rfl, hr3, hb3⟩; have HR3 := L0 hr3; have HB3 := L0 hb3; have a3 := (hb3.ce 3 HXS.o).trans m3; have af3 := (hb3.fr 3 HXS.o).trans mf3; have a4 := (hb3.ce 4 HXS.o).trans m4; have af4 := (hb3.fr 4 HXS.o).trans mf4; have a5 := (hb3.ce 5 HXS.o).trans m5; have af5 := (hb3.fr 5 HXS.o).trans mf5; have a6 := (hb3.ce 6 HXS.o).trans m6; have af6 := (hb3.fr 6 HXS.o).trans mf6; have HXA : Hid (w.heap.size + 1 < wa.heap.size) := L0 (L0c HXS.o hb3.size); have HBA : Hid (Bw w wa) := L0 (HBD.o.trans (hb3.mono HBD.o.size)); clear hr3 hb3))
   | (go_at_call 42; ((with_reducible refine (Y1i (c := gc) wa (HG.o.keep (.of_below HBA.o)) HGB.o).mono ?_); rintro e wb ⟨z4, rfl, ho4, hb4⟩; obtain ⟨A4, n4, c4, rfl⟩ := ho4.shape; have HO4 := L0 ho4; have HB4 := L0 hb4; have b3 := (hb4.ce 3 HXA.o).trans a3; have bf3 := (hb4.fr 3 HXA.o).trans af3; have b4 := (hb4.ce 4 HXA.o).trans a4; have bf4 := (hb4.fr 4 HXA.o).trans af4; have b5 := (hb4.ce 5 HXA.o).trans a5; have bf5 := (hb4.fr 5 HXA.o).trans af5; have b6 := (hb4.ce 6 HXA.o).trans a6; have bf6 := (hb4.fr 6 HXA.o).trans af6; have HXB : Hid (w.heap.size + 1 < wb.heap.size) := L0 (L0c HXA.o hb4.size); have HBB : Hid (Bw w wb) := L0 (HBA.o.trans (hb4.mono HBA.o.size)); clear ho4 hb4))
   | (go_at_call 42; ((with_reducible refine (Y1i (c := rc) wb (HR.o.keep (.of_below HBB.o)) HRB.o).mono ?_); rintro e wc ⟨z5, rfl, ho5, hb5⟩; obtain ⟨A5, n5, c5, rfl⟩ := ho5.shape; have HO5 := L0 ho5; have HB5 := L0 hb5; have c3 := (hb5.ce 3 HXB.o).trans b3; have cf3 := (hb5.fr 3 HXB.o).trans bf3; have c4 := (hb5.ce 4 HXB.o).trans b4; have cf4 := (hb5.fr 4 HXB.o).trans bf4; have c5 := (hb5.ce 5 HXB.o).trans b5; have cf5 := (hb5.fr 5 HXB.o).trans bf5; have c6 := (hb5.ce 6 HXB.o).trans b6; have cf6 := (hb5.fr 6 HXB.o).trans bf6; clear ho5 hb5)))
  all_goals
   obtain rfl : n4 = x.gone.length := (HO4.o.self.elems (by decide) rfl).1
   obtain rfl : n5 = x.read.length := (HO5.o.self.elems (by decide) rfl).1
   obtain ⟨WE, eE, q1, q2, q3, q4, q5⟩ := X1x h0 HSZ.o HB1.o (fun j u hu => HM.o j u (by match j, hu with | 0, hu => exact hu | 1, hu => exact hu | 2, hu => exact hu | j + 3, hu => simp at hu)) HR0.o HF0.o (wa := wa) (⟨HB3.o.os, HB3.o.tape, HB3.o.output, HB3.o.size, HB3.o.block⟩) HB4.o HB5.o HR3.o HO4.o HO5.o c3 c4 c5 c6
   rw [eE]
   clear eE m3 m4 m5 m6 mf3 mf4 mf5 mf6 a3 a4 a5 a6 af3 af4 af5 af6 b3 b4 b5 b6 bf3 bf4 bf5 bf6 c3 c4 c5 c6 cf3 cf4 cf5 cf6
   go_wp2
   go_meet
   exact ⟨_, _, _, _, _, _, _, _, q1, q2, q3, q4, q5⟩
 obtain ⟨A3, c3, B3, d3, A4, c4, A5, c5, HB, HREL, HC, HR, HF⟩ := hcut
 have k0 := HC.o 0 _ rfl
 have r0 := HR.o 0 _ rfl
 have z0 := HF.o 0
 have k1 := HC.o 1 _ rfl
 have r1 := HR.o 1 _ rfl
 have z1 := HF.o 1
 have k2 := HC.o 2 _ rfl
 have r2 := HR.o 2 _ rfl
 have z2 := HF.o 2
 have k3 := HC.o 3 _ rfl
 have r3 := HR.o 3 _ rfl
 have z3 := HF.o 3
 have k4 := HC.o 4 _ rfl
 have r4 := HR.o 4 _ rfl
 have z4 := HF.o 4
 have k5 := HC.o 5 _ rfl
 have r5 := HR.o 5 _ rfl
 have z5 := HF.o 5
 have k6 := HC.o 6 _ rfl
 have r6 := HR.o 6 _ rfl
 have z6 := HF.o 6
 obtain ⟨W7, e7, hg7, n0, n1, n2, n3, n4, n5, n6⟩ := X4v (.bool x.opn) (.bool x.strict) (.int .i64 x.frm) (.slice A3 x.mine.doms.length c3) (.slice B3 x.mine.tabs.length d3) (.slice A4 x.gone.length c4) (.slice A5 x.read.length c5) r0 r1 r2 r3 r4 r5 r6
 have HG := L0 hg7
 clear hg7
 go_wp2
 refine bodyPost_ret (by simp [results, Tryz.results14, go_sem, n0, n1, n2, n3, n4, n5, n6]; rfl) rfl ?_
 refine ⟨_, rfl, rSes.mono (rSes.keep HREL.o (.grown HG.o fun g hg h => by injection hg with hg; omega)) fun q hq _ => by omega, ?_⟩
 exact HB.o.grown HG.o HB.o.size fun k hk => by injection hk with hk; omega
