import Derived.Test.YtlopccnehgolnaaGreatDoorGGood49
import Derived.Test.YtlopccnehgolnaaGreatDoorGGood33
namespace Go.Proofs.YtlopccnehgolnaaGreatDoor
open Go.RowKit Rb
open Go.Lib renaming hid -> jI9
open Nat renaming le_refl -> nR
set_option maxRecDepth 100000
set_option maxHeartbeats 6400000
theorem X0w {C T I : Nat -> Prop} {sb k : Nat} {st : Sto} {nm tx : Txt} {ip : List Int} {A : Option Addr} {c : Nat} (w : World) (h : StoAt w sb C T st) (hin : (rSl rInt).rel w I [.slice A ip.length c] ip) (hI : ∀ q, I q -> q < w.heap.size /\ ¬ C q) (hnm : nm.length <= 140737488355328) (htx : tx.length <= 140737488355328) (h200 : ¬ 200 <= st.acts) (hk4 : k < 4) (ho : (st.ses k).opn = true) (hnd : Z18 nm = true) {f : Nat} (hv : SesInv st k f) (hlib : LibC C w) :
  Calls Tryz.prog 10 #[.pointer (some ⟨sb, 0, none⟩), .agg #[.int .i64 4, .int .i64 k, .string ⟨nm.toArray⟩, .string ⟨tx.toArray⟩, .slice A ip.length c]] w fun e w' => Z1c w sb C T (doS st ⟨4, k, nm, tx, ip⟩).1 (doS st ⟨4, k, nm, tx, ip⟩).2 e w' := by
 obtain ⟨W1, e1, HB1, HZ1, ⟨a0, a1, a2, a3, a4⟩, HQ1, HA1, HIN1, s29, f29, W2, e2, HA2, HC2, HQ2, HZ2, HIN2, ⟨b0, b1, b2, b3, b4⟩⟩ := Z14 (kd := 4) (n := (k : Int)) (nm := nm) (tx := tx) h hin
 have HTL := jI9 h.tw
 have HCL := jI9 h.cw
 have HCSB := jI9 h.csb
 have HNTS := jI9 h.nT
 have HNM := jI9 hnm
 have HTX := jI9 htx
 have HII := jI9 hI
 have HSL := jI9 h.lt
 have hq : ¬ (200 : Int) <= (st.acts : Int) := by omega
 have hwr : (st.acts : Int) + 1 <= 200 := by omega
 have hg1 : decide ((k : Int) < 0) = false := decide_eq_false (by omega)
 have hg2 : decide ((4 : Int) <= (k : Int)) = false := decide_eq_false (by omega)
 have hg3 : (0 : Int) <= (k : Int) := by omega
 have hg4 : (k : Int) < 4 := by omega
 obtain ⟨D, dc, B, bc, G, gc, R, rc, hr, x0, x1, x2, x3, x4, x5, x6⟩ := (HA2.out.ses k hk4).out
 rw [show (st.up.ses k).opn = true from ho] at x0
 clear h hin hnm htx hI hr x1 x2 x3 x4 x5 x6
 have HDS : Hid (doS st ⟨4, k, nm, tx, ip⟩ = Y1a st.up k ⟨4, k, nm, tx, ip⟩) := jI9 (by unfold doS; rw [if_neg h200, if_neg (by simp only; omega), if_neg (by simp only; omega), if_neg (by simp [ho]; omega), if_neg (by simp [hnd])]; simp)
 obtain ⟨x, hx⟩ : ∃ x, st.ses k = x := ⟨_, rfl⟩
 obtain ⟨b, hb⟩ : ∃ b, st.states[f]? = some b := ⟨_, List.getElem?_eq_getElem hv.fl⟩
 obtain ⟨v, hvw⟩ : ∃ z, Z3a b x = z := ⟨_, rfl⟩
 obtain ⟨tt, htt⟩ : ∃ z, Z2u v nm = z := ⟨_, rfl⟩
 have HD0 : Hid (doS st ⟨4, k, nm, tx, ip⟩ = (if tt = [] then noR 3 else ⟨0, 0, tt, [], []⟩, st.up.put k { x with read := addN x.read nm })) := jI9 (by
  rw [HDS.out]
  show (if Z2u (Z3a (st.at (st.ses k).frm) (st.ses k)) nm = [] then noR 3 else ⟨0, 0, Z2u (Z3a (st.at (st.ses k).frm) (st.ses k)) nm, [], []⟩, st.up.put k { st.ses k with read := addN (st.ses k).read nm }) = _
  rw [show st.at (st.ses k).frm = b by unfold Sto.at; rw [hv.fr, Int.toNat_natCast, hb]; rfl, hx, hvw, htt])
 have HRL : Hid (x.read.length < 1000000000000) := jI9 (by have := hv.rl; rw [hx] at this; omega)
 go_enter Tryz.func10, Tryz.ntmps10
 refine Code.wp_mono (Z0h Tryz.results10) ?_
 go_upto_region 11 with fail
 go_quiet (fail)
 obtain ⟨W3, e3, HB3, HZ3⟩ : ∃ W3, W2.drewN nq = W3 /\ Hid (Below W2.heap.size W2 W3) /\ Hid (W3.heap.size = w.heap.size + 2) := ⟨_, rfl, jI9 ⟨rfl, rfl, rfl, nR _, fun _ _ => rfl⟩, jI9 (show W2.heap.size = _ from HZ2.out)⟩
 rw [e3]
 have c0 : W3.cell? ⟨w.heap.size, 0, none⟩ = some (.int .i64 4) := by rw [<- e3]; exact b0
 have c1 : W3.cell? ⟨w.heap.size, 1, none⟩ = some (.int .i64 k) := by rw [<- e3]; exact b1
 have c2 : W3.cell? ⟨w.heap.size, 2, none⟩ = some (.string ⟨nm.toArray⟩) := by rw [<- e3]; exact b2
 have c3 : W3.cell? ⟨w.heap.size, 3, none⟩ = some (.string ⟨tx.toArray⟩) := by rw [<- e3]; exact b3
 have c4 : W3.cell? ⟨w.heap.size, 4, none⟩ = some (.slice A ip.length c) := by rw [<- e3]; exact b4
 clear e3 a0 a1 a2 a3 a4 b0 b1 b2 b3 b4 s29 f29 e1 e2 hq hwr x0 hg1 hg2
 have HA3 : Hid (StoAt W3 sb C T st.up) := jI9 (HA2.out.below HB3.out)
 have HC3 : Hid (Chg C w W3) := jI9 (HC2.out.trans (.below HB3.out))
 have HQ3 : Hid (Zero5 W3 (w.heap.size + 1)) := jI9 (HQ2.out.keep (HB3.out.block _ (World.block_lt_of_cell? _ _ HQ2.out.1.1)))
 have HND : Hid (Calls Tryz.prog 21 #[.string ⟨nm.toArray⟩] W3 fun e w' => e = .returned (.bool true) /\ W3 = w') := jI9 (by have := Z30 nm W3 HNM.out; rw [hnd] at this; exact this)
 go_upto_region 15 with (first | (go_at_call 21; (with_reducible refine HND.out.mono ?_); rintro e w' ⟨rfl, rfl⟩))
 go_quiet (fail)
 obtain ⟨W4, e4, HB4, HZ4⟩ : ∃ W4, W3.drewN nq = W4 /\ Hid (Below W3.heap.size W3 W4) /\ Hid (W4.heap.size = w.heap.size + 2) := ⟨_, rfl, jI9 ⟨rfl, rfl, rfl, nR _, fun _ _ => rfl⟩, jI9 (show W3.heap.size = _ from HZ3.out)⟩
 rw [e4]
 replace c0 : W4.cell? ⟨w.heap.size, 0, none⟩ = some (.int .i64 4) := by rw [<- e4]; exact c0
 replace c2 : W4.cell? ⟨w.heap.size, 2, none⟩ = some (.string ⟨nm.toArray⟩) := by rw [<- e4]; exact c2
 replace c3 : W4.cell? ⟨w.heap.size, 3, none⟩ = some (.string ⟨tx.toArray⟩) := by rw [<- e4]; exact c3
 replace c4 : W4.cell? ⟨w.heap.size, 4, none⟩ = some (.slice A ip.length c) := by rw [<- e4]; exact c4
 clear e4 c1
 have HA4 : Hid (StoAt W4 sb C T st.up) := jI9 (HA3.out.below HB4.out)
 have HC4 : Hid (Chg C w W4) := jI9 (HC3.out.trans (.below HB4.out))
 have HQ4 : Hid (Zero5 W4 (w.heap.size + 1)) := jI9 (HQ3.out.keep (HB4.out.block _ (World.block_lt_of_cell? _ _ HQ3.out.1.1)))
 have HSX : Hid (SesAt W4 sb (1 + k * 7) T (st.ses k)) := jI9 (HA4.out.ses k hk4)
 have HL4 : Hid (LibC C W4) := jI9 (hlib.chg HC4.out fun _ h => .inl h)
 rw [hx] at HSX
 have HX := jI9 hx
 have hfrx : x.frm = f := hx ▸ hv.fr
 obtain ⟨D, dc, B, bc, G, gc, R, rc, hr, x0, x1, x2, x3, x4, x5, x6⟩ := HSX.out.out
 rw [hfrx] at x2 hr
 obtain ⟨g, gcp, A1, k1, A2, k2, s0, hrb, g0, g1, hgC, hgs, hgl⟩ := HA4.out.book (f := f) (b := b) hb
 have s0' : W4.cell? ⟨sb, 0, none⟩ = some (.slice (some ⟨g, 0, none⟩) st.states.length gcp) := s0
 have hfl := hv.fl
 have hfi : (f : Int) < (st.states.length : Int) := by omega
 have hf0 : (0 : Int) <= (f : Int) := by omega
 have HBD : Hid (Below W4.heap.size W4 W4.drew) := jI9 ⟨rfl, rfl, rfl, nR _, fun _ _ => rfl⟩
 have HSB : Hid (¬ T sb /\ sb < W4.heap.size) := jI9 ⟨HNTS.out, by have := HSL.out; have := HZ4.out; omega⟩
 have HNB : Hid (Neat b 4 4) := jI9 (hv.bk b (List.mem_of_getElem? hb))
 have HMN : Hid (Neat x.mine 1000 1000) := jI9 (hx ▸ hv.mn)
 have HKP : Hid (∀ w', Below W4.heap.size W4 w' -> ((fun W' => W'.cell? ⟨sb, 0, none⟩ = some (.slice (some ⟨g, 0, none⟩) st.states.length gcp) /\ W'.cell? ⟨sb, 1 + k * 7 + 2, none⟩ = some (.int .i64 f) /\ W'.cell? ⟨g, f * 2, none⟩ = some (.slice A1 b.doms.length k1) /\ W'.cell? ⟨g, f * 2 + 1, none⟩ = some (.slice A2 b.tabs.length k2) /\ W'.cell? ⟨sb, 1 + k * 7, none⟩ = some (.bool x.opn) /\ W'.cell? ⟨sb, 1 + k * 7 + 1, none⟩ = some (.bool x.strict) /\ W'.cell? ⟨sb, 1 + k * 7 + 3, none⟩ = some (.slice D x.mine.doms.length dc) /\ W'.cell? ⟨sb, 1 + k * 7 + 4, none⟩ = some (.slice B x.mine.tabs.length bc) /\ W'.cell? ⟨sb, 1 + k * 7 + 5, none⟩ = some (.slice G x.gone.length gc) /\ W'.cell? ⟨sb, 1 + k * 7 + 6, none⟩ = some (.slice R x.read.length rc) /\ W'.cell? ⟨w.heap.size, 2, none⟩ = some (.string ⟨nm.toArray⟩))) w') := jI9 fun w' hbw => by
  have hs := HSB.out.2
  have hw : w.heap.size < W4.heap.size := by have := HZ4.out; omega
  exact ⟨(hbw.cell (p := ⟨sb, _, none⟩) hs).trans s0', (hbw.cell (p := ⟨sb, _, none⟩) hs).trans x2, (hbw.cell (p := ⟨g, _, none⟩) hgl).trans g0, (hbw.cell (p := ⟨g, _, none⟩) hgl).trans g1, (hbw.cell (p := ⟨sb, _, none⟩) hs).trans x0, (hbw.cell (p := ⟨sb, _, none⟩) hs).trans x1, (hbw.cell (p := ⟨sb, _, none⟩) hs).trans x3, (hbw.cell (p := ⟨sb, _, none⟩) hs).trans x4, (hbw.cell (p := ⟨sb, _, none⟩) hs).trans x5, (hbw.cell (p := ⟨sb, _, none⟩) hs).trans x6, (hbw.cell (p := ⟨w.heap.size, _, none⟩) hw).trans c2⟩
 have HVW : Hid (Calls Tryz.prog 26 #[.agg #[.slice A1 b.doms.length k1, .slice A2 b.tabs.length k2], .agg #[.bool x.opn, .bool x.strict, .int .i64 f, .slice D x.mine.doms.length dc, .slice B x.mine.tabs.length bc, .slice G x.gone.length gc, .slice R x.read.length rc]] W4.drew fun e w' => ∃ A3 c3 A4 c4, e = .returned (.agg #[.slice A3 v.doms.length c3, .slice A4 v.tabs.length c4]) /\ rBk.rel w' (Up T W4.drew.heap.size) [.slice A3 v.doms.length c3, .slice A4 v.tabs.length c4] v /\ Below W4.heap.size W4 w') := jI9 (by
  have h1 := Z9r (S := T) W4.drew (Rd.below hrb HBD.out) (Rd.below hr HBD.out) HA4.out.tw HNB.out (by have := HMN.out.ld; omega) (by have := HMN.out.lt; omega)
  refine h1.mono ?_
  rintro e w' ⟨v1, u1, rfl, hr1, hb1⟩
  rw [hvw] at hr1
  have hr2 := hr1
  obtain ⟨v2, u2, e2, hd, ht⟩ := hr1
  simp only [List.cons.injEq, and_true] at e2
  obtain ⟨rfl, rfl⟩ := e2
  obtain ⟨A3, c3, rfl, _⟩ := rSl.elems hd
  obtain ⟨A4, c4, rfl, _⟩ := rSl.elems ht
  exact ⟨A3, c3, A4, c4, rfl, hr2, Z6u hb1⟩)
 have HTT := jI9 htt
 have HTTL : Hid (tt.length <= 140737488355328) := jI9 (by have := Y47 v nm; rw [htt] at this; omega)
 clear hr hrb hgC hgs hx hb hvw hfl hfrx htt s0 c3 c4
 go_upto_region 24 with fail
 go_region_held3 (fun W' => W'.cell? ⟨sb, 0, none⟩ = some (.slice (some ⟨g, 0, none⟩) st.states.length gcp) /\ W'.cell? ⟨sb, 1 + k * 7 + 2, none⟩ = some (.int .i64 f) /\ W'.cell? ⟨g, f * 2, none⟩ = some (.slice A1 b.doms.length k1) /\ W'.cell? ⟨g, f * 2 + 1, none⟩ = some (.slice A2 b.tabs.length k2) /\ W'.cell? ⟨sb, 1 + k * 7, none⟩ = some (.bool x.opn) /\ W'.cell? ⟨sb, 1 + k * 7 + 1, none⟩ = some (.bool x.strict) /\ W'.cell? ⟨sb, 1 + k * 7 + 3, none⟩ = some (.slice D x.mine.doms.length dc) /\ W'.cell? ⟨sb, 1 + k * 7 + 4, none⟩ = some (.slice B x.mine.tabs.length bc) /\ W'.cell? ⟨sb, 1 + k * 7 + 5, none⟩ = some (.slice G x.gone.length gc) /\ W'.cell? ⟨sb, 1 + k * 7 + 6, none⟩ = some (.slice R x.read.length rc) /\ W'.cell? ⟨w.heap.size, 2, none⟩ = some (.string ⟨nm.toArray⟩)) (go_keep) (first
  | (go_at_call 26; ((with_reducible refine HVW.out.mono ?_); rintro e w5 ⟨A3, c3, A4, c4, rfl, hr5, hb5⟩; have HR5 := jI9 hr5; have HB5 := jI9 hb5; obtain ⟨t0, t1, t2, t3, t4, t5, t6, t7, t8, t9, t10⟩ := HKP.out w5 hb5; have HLW := jI9 (HL4.out.below hb5); clear hr5 hb5))
  | (go_at_call 25; ((with_reducible refine (X1d HTT.out w5 HR5.out HNM.out HLW.out.lib HLW.out.pol).mono ?_); rintro e w6 ⟨rfl, hb6⟩; have HB6 := jI9 (HB5.out.trans (hb6.mono HB5.out.size)); obtain ⟨y0, y1, y2, y3, y4, y5, y6, y7, y8, y9, y10⟩ := HKP.out w6 (HB5.out.trans (hb6.mono HB5.out.size)); clear hb6)))
 all_goals
  have HX6 : Hid (SesAt w6 sb (1 + k * 7) (Tn T W4 w6) x) := jI9 ((HSX.out.below HB6.out).mono fun q h _ => ⟨.inl h, Nat.lt_of_lt_of_le (HA4.out.tw q h) HB6.out.size⟩)
  have HB7 : Hid (Below w6.heap.size w6 w6.drew) := jI9 ⟨rfl, rfl, rfl, nR _, fun _ _ => rfl⟩
  have HX6d : Hid (SesAt w6.drew sb (1 + k * 7) (Tn T W4 w6.drew) x) := jI9 (HX6.out.below HB7.out)
  obtain ⟨R9, rc9, g9, hu9⟩ := HX6d.out.readOut
  have g9' : w6.cell? ⟨sb, 1 + k * 7 + 6, none⟩ = some (.slice R9 x.read.length rc9) := g9
  rw [y9] at g9'
  simp only [Option.some.injEq, Value.slice.injEq] at g9'
  obtain ⟨rfl, _, rfl⟩ := g9'
  have HU9 := jI9 hu9
  have HF6 : Hid (∀ j, w6.drew.frozen? ⟨sb, j, none⟩ = false) := jI9 fun j => (HB6.out.frozen (p := ⟨sb, j, none⟩) HSB.out.2).trans (HA4.out.frz j)
  have f9 : w6.drew.frozen? ⟨sb, 1 + k * 7 + 6, none⟩ = false := HF6.out _
  have n2 := y10
  have HW6 : Hid (W4.heap.size <= w6.drew.heap.size) := jI9 HB6.out.size
  clear y0 y1 y2 y3 y4 y5 y6 y7 y8 y10 t0 t1 t2 t3 t4 t5 t6 t7 t8 t9 t10 x0 x1 x2 x3 x4 x5 x6 g0 g1 s0' c0 c2 hfi hf0 g9 hu9
  go_upto_region 25 with fail
  go_region_law (first
   | ((go_simp; go_at_call 24; (with_reducible refine (Z12 nm w6.drew HU9.out HNM.out HRL.out (fun _ h => Tn.lt h)).mono ?_); rintro e w7 ⟨u7, rfl, hr7, hb7⟩; obtain ⟨A6, k6, rfl, _⟩ := rSl.elems hr7; obtain ⟨W8, e8, HX8, HWR8, af9, a9⟩ := Z5b (w := W4) (W := w6.drew) HX6d.out HSB.out HF6.out HW6.out hr7 hb7; obtain ⟨q9, a9⟩ := a9; clear hr7 hb7)))
  all_goals
   have hw8 : Wrote sb (1 + k * 7) W4 W8 := ((Wrote.below HB6.out HSB.out.2).trans (.below HB7.out (Nat.lt_of_lt_of_le HSB.out.2 HB6.out.size))).trans HWR8.out
   obtain ⟨HA8, HC8, HQ8, HT8⟩ := Z7l HA4.out HC4.out HQ4.out hk4 hw8 HX8.out HCSB.out HSL.out HZ4.out
   clear hw8 af9 a9 e8 y9 n2 f9
   by_cases htn : tt = []
   ·have HD : Hid (doS st ⟨4, k, nm, tx, ip⟩ = (noR 3, st.up.put k { x with read := addN x.read nm })) := jI9 (by rw [HD0.out, if_pos htn])
    subst htn
    go_wp2_with (first | (go_at_call 19; (with_reducible refine (Z4c 3 W8).mono ?_); rintro e w5 ⟨rfl, hb5⟩; obtain ⟨W6, e6, ⟨r0, r1, r2, r3, r4⟩, hz5, HP⟩ := Z7c (e := 3) HA8.out HC8.out (T := T) HT8.out HCL.out HTL.out HQ8.out ⟨by decide, by decide⟩ hb5; obtain ⟨⟨d0, d1, d2, d3, d4⟩, hf⟩ := hz5; have z0 := hf 0; have z1 := hf 1; have z2 := hf 2; have z3 := hf 3; have z4 := hf 4; clear hb5 hf))
    refine Z0d (by rfl) rfl r0 r1 r2 r3 r4 ?_
    rw [HD.out]
    exact HP.out
   ·have HD : Hid (doS st ⟨4, k, nm, tx, ip⟩ = (⟨0, 0, tt, [], []⟩, st.up.put k { x with read := addN x.read nm })) := jI9 (by rw [HD0.out, if_neg htn])
    have hte : tt.isEmpty = false := by cases tt with | nil => exact absurd rfl htn | cons a l => rfl
    have HTL2 : Hid (tt.length <= 140737488355328) := HTTL
    obtain ⟨W6', e6, r0, r1, r2, r3, r4, HP⟩ := Y02 (S := fun _ => False) (T := T) (r := ⟨0, 0, tt, [], []⟩) HA8.out HC8.out (fun q h => .inl h) HT8.out HCL.out HTL.out (Z2c (c := 0) (n := 0) (s := tt) ⟨by decide, by decide⟩ ⟨by decide, by decide⟩ HTL2.out) (fun _ h => h.elim) HQ8.out
    obtain ⟨⟨d0, d1, d2, d3, d4⟩, hf⟩ := HQ8.out
    have z0 := hf 0
    have z1 := hf 1
    have z2 := hf 2
    have z3 := hf 3
    have z4 := hf 4
    clear hf
    go_wp2
    refine Z0d (by rfl) rfl r0 r1 r2 r3 r4 ?_
    rw [HD.out]
    exact HP.out
end Go.Proofs.YtlopccnehgolnaaGreatDoor
namespace Go.Proofs.YtlopccnehgolnaaGreatDoor
open Go.RowKit Rb
structure SOk (st : Sto) : Prop where
 ne : 0 < st.states.length
 le : st.states.length <= 40
 bk : ∀ b ∈ st.states, Neat b 4 4
 ses : ∀ k, k < 4 -> (st.ses k).opn = true -> (∃ f : Nat, (st.ses k).frm = f /\ f < st.states.length)
 mn : ∀ k, k < 4 -> Neat (st.ses k).mine 1000 1000
 gl : ∀ k, k < 4 -> (st.ses k).gone.length <= 1000
 rl : ∀ k, k < 4 -> (st.ses k).read.length <= 1000000
theorem SOk.inv {st : Sto} {k : Nat} (h : SOk st) (hk : k < 4) (ho : (st.ses k).opn = true) : ∃ f, SesInv st k f := by
 obtain ⟨f, h1, h2⟩ := h.ses k hk ho
 exact ⟨f, h.mn k hk, h.gl k hk, h.rl k hk, h1, h2, h.bk, h.le⟩
theorem X01 {C T I : Nat -> Prop} {sb : Nat} {st : Sto} {a : Acn} {as' : List Value} (w : World) (h : StoAt w sb C T st) (ha : rAcn.rel w I as' a) (hI : ∀ q, I q -> q < w.heap.size /\ ¬ C q) (hok : SOk st) (hlib : LibC C w) :
  Calls Tryz.prog 10 #[.pointer (some ⟨sb, 0, none⟩), .agg as'.toArray] w fun e w' => Z1c w sb C T (doS st a).1 (doS st a).2 e w' := by
 by_cases h200 : 200 <= st.acts
 ·exact Y9x w h ha hI h200
 by_cases hkd : a.kind < 1 \/ 7 < a.kind
 ·exact Y9k w h ha hI h200 hkd
 by_cases hk1 : a.kind = 1
 ·exact Y9i w h ha hI h200 hk1 hok.ne
 have hk : 2 <= a.kind /\ a.kind <= 7 := by omega
 by_cases hn0 : a.n < 0
 ·exact X0z w h ha hI h200 hk hn0
 by_cases hn4 : 4 <= a.n
 ·exact X0u w h ha hI h200 hk hn4
 obtain ⟨kd, n, nm, tx, ip⟩ := a
 simp only at hk hn0 hn4 hk1 hkd
 obtain ⟨k, rfl⟩ : ∃ k : Nat, n = k := ⟨n.toNat, by omega⟩
 have hk4 : k < 4 := by omega
 obtain ⟨u, rfl, _, _, hnm, htx, hin⟩ := ha
 obtain ⟨A, c, rfl, _⟩ := rSl.elems hin
 cases ho : (st.ses k).opn
 ·exact Y9v w h hin hI hnm htx h200 hk4 hk ho
 obtain ⟨f, hv⟩ := hok.inv hk4 ho
 have hcs : kd = 2 \/ kd = 3 \/ kd = 4 \/ kd = 5 \/ kd = 6 \/ kd = 7 := by omega
 rcases hcs with rfl | rfl | rfl | rfl | rfl | rfl
 ·exact X0l w h hin hI hnm htx h200 hk4 ho hv hlib
 ·cases hnd : Z18 nm
  ·exact Y7y w h hin hI hnm htx h200 hk4 ho hnd
  ·exact Y9b w h hin hI hnm htx h200 hk4 ho hnd hv
 ·cases hnd : Z18 nm
  ·exact Y8k w h hin hI hnm htx h200 hk4 ho hnd
  ·exact X0w w h hin hI hnm htx h200 hk4 ho hnd hv hlib
 ·exact X1a w h hin hI hnm htx h200 hk4 ho hv
 ·exact Y6m w h hin hI hnm htx h200 hk4 ho hv hlib
 ·exact Y8m w h hin hI hnm htx h200 hk4 ho
end Go.Proofs.YtlopccnehgolnaaGreatDoor
namespace Go.Proofs.YtlopccnehgolnaaGreatDoor
open Go.RowKit Rb
open Nat renaming le_trans -> nT, le_refl -> nR
structure XGood (n m : Nat) (x : Ses) : Prop where
 fr : x.opn = true -> ∃ f : Nat, x.frm = f /\ f < n
 mn : Neat x.mine m m
 gl : x.gone.length <= m
 rl : x.read.length <= 1000 * m
structure SGood (st : Sto) : Prop where
 ne : 0 < st.states.length
 le : st.states.length <= 40
 chk : ∀ b ∈ st.states, (Z0g b).2.2 = 0
 ac : st.acts <= 200
 ses : ∀ k, XGood st.states.length st.acts (st.ses k)
theorem Neat.bk0 (nd nt : Nat) : Neat bk0 nd nt := ⟨List.nodup_nil, List.nodup_nil, Nat.zero_le _, Nat.zero_le _⟩
theorem XGood.ses0 (n m : Nat) : XGood n m ses0 := ⟨fun h => Bool.noConfusion h, Neat.bk0 _ _, Nat.zero_le _, Nat.zero_le _⟩
theorem XGood.mono {n m n' m' : Nat} {x : Ses} (h : XGood n m x) (hn : n <= n') (hm : m <= m') : XGood n' m' x :=
 ⟨fun ho => by obtain ⟨f, h1, h2⟩ := h.fr ho; exact ⟨f, h1, by omega⟩, h.mn.mono hm hm, nT h.gl hm, nT h.rl (Nat.mul_le_mul_left _ hm)⟩
theorem Z83 {b : Bk} (h : (Z0g b).2.2 = 0) : Neat b 4 4 := by
 have hc := Y9h h
 exact ⟨hc.domNames, hc.tabNames, hc.dl, hc.tl⟩
theorem SGood.ok {st : Sto} (h : SGood st) : SOk st := by
 have := h.ac
 exact ⟨h.ne, h.le, fun b hb => Z83 (h.chk b hb), fun k _ => (h.ses k).fr, fun k _ => (h.ses k).mn.mono (by omega) (by omega), fun k _ => by have := (h.ses k).gl; omega, fun k _ => by have := (h.ses k).rl; omega⟩
theorem SGood.start : SGood sto0 := by
 refine ⟨by decide, by decide, fun b hb => ?_, by decide, fun k => XGood.ses0 _ _⟩
 obtain rfl : b = bk0 := by simpa [sto0] using hb
 rfl
theorem SGood.put {st : Sto} (h : SGood st) {k : Nat} {x : Ses} (hx : XGood st.states.length st.acts x) : SGood (st.put k x) :=
 ⟨h.ne, h.le, h.chk, h.ac, fun j => by
  show XGood _ _ (if j = k then x else st.ses j)
  split
  ·exact hx
  ·exact h.ses j⟩
theorem SGood.up {st : Sto} (h : SGood st) (ha : ¬ 200 <= st.acts) : SGood st.up :=
 ⟨h.ne, h.le, h.chk, by show st.acts + 1 <= 200; omega, fun k => (h.ses k).mono (nR _) (Nat.le_succ _)⟩
theorem Z86 (b : Bk) (l : List Txt) : (Z1z b l).length <= l.length + b.doms.length + b.tabs.length := by
 have := Z5z Z08 (Z0q b) l
 simp only [Z0q, List.length_append, List.length_map] at this
 unfold Z1z
 simp only [Z0q]
 omega
theorem SGood.step {st : Sto} (h : SGood st) (a : Acn) : SGood (doS st a).2 := by
 unfold doS
 split
 ·exact h
 rename_i h200
 have hu := h.up h200
 have hua : st.up.acts = st.acts + 1 := rfl
 split
 ·exact hu
 split
 ·unfold Z5o
  split
  ·exact hu
  ·split
   ·refine hu.put ⟨fun _ => ⟨st.up.states.length - 1, ?_, ?_⟩, Neat.bk0 _ _, Nat.zero_le _, Nat.zero_le _⟩
    ·have := hu.ne
     show (st.up.states.length : Int) - 1 = _
     omega
    ·have := hu.ne
     omega
   ·exact hu
 split
 ·exact hu
 split
 ·exact hu
 generalize hk : a.n.toNat = k
 have hx := h.ses k
 have hxu := hu.ses k
 have hxe : st.up.ses k = st.ses k := rfl
 have hse : st.up.states = st.states := rfl
 unfold Y1a
 rw [hxe]
 rw [hxe] at hxu
 split
 ·refine hu.put ?_
  unfold putB
  split
  ·exact hxu
  ·split
   ·exact ⟨hx.fr, (Z6p hx.mn _).mono (Nat.le_succ _) (nR _), nT (Z08 _ _) (Nat.succ_le_succ hx.gl), by have := hxu.rl; exact this⟩
   ·exact ⟨hx.fr, (Z6y hx.mn _).mono (nR _) (Nat.le_succ _), nT (Z08 _ _) (Nat.succ_le_succ hx.gl), by have := hxu.rl; exact this⟩
 split
 ·exact hu.put ⟨hx.fr, (hx.mn.without _).mono (Nat.le_succ _) (Nat.le_succ _), nT (Z08 _ _) (Nat.succ_le_succ hx.gl), by have := hxu.rl; exact this⟩
 split
 ·refine hu.put ⟨hx.fr, hxu.mn, hxu.gl, ?_⟩
  have h1 := Z08 (st.ses k).read a.name
  have h2 := hx.rl
  show (addN (st.ses k).read a.name).length <= 1000 * (st.acts + 1)
  omega
 split
 ·refine hu.put ⟨hx.fr, hxu.mn, hxu.gl, ?_⟩
  have hb4 : Neat (st.up.at (st.ses k).frm) 4 4 := by
   unfold Sto.at
   rw [hse]
   rcases hg : st.states[(st.ses k).frm.toNat]? with _ | b
   ·exact Neat.bk0 _ _
   ·exact Z83 (h.chk b (List.mem_of_getElem? hg))
  have hv := hb4.view (st.ses k)
  have h1 := Z86 (st.up.at (st.ses k).frm) (st.ses k).read
  have h2 := Z86 (Z3a (st.up.at (st.ses k).frm) (st.ses k)) (Z1z (st.up.at (st.ses k).frm) (st.ses k).read)
  have h3 := Z08 (Z1z (Z3a (st.up.at (st.ses k).frm) (st.ses k)) (Z1z (st.up.at (st.ses k).frm) (st.ses k).read)) []
  have h4 := hx.rl
  have h5 := hb4.ld
  have h6 := hb4.lt
  have h7 := hv.ld
  have h8 := hv.lt
  have h9 := hx.mn.ld
  have h10 := hx.mn.lt
  have h11 := h.ac
  show (if (st.ses k).strict then _ else _ : List Txt).length <= 1000 * (st.acts + 1)
  split <;> omega
 split
 ·have hc : SGood (st.up.put k ses0) := hu.put (XGood.ses0 _ _)
  unfold Z16
  split
  ·exact hc
  ·split
   ·exact hc
   ·split
    ·exact hc
    ·split
     ·exact hc
     ·rename_i h40 hck
      refine ⟨by simp, by rw [List.length_append]; simp only [List.length_singleton]; omega, fun b hb => ?_, hc.ac, fun j => (hc.ses j).mono (by show _ <= (st.up.states ++ [_]).length; rw [List.length_append]; exact Nat.le_add_right _ _) (nR _)⟩
      rcases List.mem_append.1 hb with hb | hb
      ·exact h.chk b hb
      ·obtain rfl := List.mem_singleton.1 hb
       simpa using hck
 ·exact hu.put (XGood.ses0 _ _)
end Go.Proofs.YtlopccnehgolnaaGreatDoor
namespace Go.Proofs.YtlopccnehgolnaaGreatDoor
open Go.RowKit Rb
set_option maxRecDepth 100000
theorem Z6x {C T : Nat -> Prop} {sb : Nat} {st : Sto} (w : World) (h : StoAt w sb C T st) :
  Calls Tryz.prog 6 #[.pointer (some ⟨sb, 0, none⟩)] w fun e w' => ∃ u, e = .returned u /\ Own rBk 32 w' w.heap.size (fun _ => False) u st.states /\ Below w.heap.size w w' := by
 obtain ⟨v, h0, h1, _⟩ := h.row
 exact Y4x (S := fun q => q < w.heap.size) w h0 ((rSl rBk).mono (h1.self.rel (by decide)) fun q _ hl => hl) fun q hq => hq
theorem Y66 (x : Value) (as' rs : List Value) (ha : as'.length = 5) (hr : rs.length = 5) (w : World) : Calls Tryz.prog 5 #[x, .agg as'.toArray, .agg rs.toArray] w fun e w' => e = .returned (.bool true) /\ Below w.heap.size w w' := by
 obtain ⟨a0, a1, a2, a3, a4, rfl⟩ : ∃ a0 a1 a2 a3 a4, as' = [a0, a1, a2, a3, a4] := by
  match as', ha with
  | [a0, a1, a2, a3, a4], _ => exact ⟨a0, a1, a2, a3, a4, rfl⟩
 obtain ⟨r0, r1, r2, r3, r4, rfl⟩ : ∃ a0 a1 a2 a3 a4, rs = [a0, a1, a2, a3, a4] := by
  match rs, hr with
  | [a0, a1, a2, a3, a4], _ => exact ⟨a0, a1, a2, a3, a4, rfl⟩
 obtain ⟨W1, e1, HB⟩ : ∃ W1, (w.alloc (.cells #[a0, a1, a2, a3, a4] 45)).alloc (.cells #[r0, r1, r2, r3, r4] 42) = W1 /\ Hid (Below w.heap.size w W1) := ⟨_, rfl, Lib.hid (((Below.refl _ _).alloc (Nat.le_refl _) _).alloc (by simp) _)⟩
 clear ha hr
 go_enter Tryz.func5, Tryz.ntmps5
 go_wp2
 go_ret
 exact ⟨rfl, HB.out⟩
def Z63 : Acn := ⟨1, 0, [], [], []⟩
def Y08 : Acn := ⟨2, 0, [], [100, 111, 109, 97, 105, 110, 32, 97, 32, 49, 46, 46, 57], []⟩
def Z6e : Acn := ⟨6, 0, [], [], []⟩
theorem Y34 : (doS sto0 Z63).1 = ⟨0, 0, [], [], []⟩ := by rfl
theorem Y6v : (doS (doS sto0 Z63).2 Y08).1.code = 0 := by kernel_rfl
theorem Y1d : (doS (doS (doS sto0 Z63).2 Y08).2 Z6e).1.code = 0 /\ (doS (doS (doS sto0 Z63).2 Y08).2 Z6e).1.n = 1 /\ (doS (doS (doS sto0 Z63).2 Y08).2 Z6e).2.states.length = 2 := by
 refine ⟨by kernel_rfl, by kernel_rfl, by kernel_rfl⟩
end Go.Proofs.YtlopccnehgolnaaGreatDoor
namespace Go.Proofs.YtlopccnehgolnaaGreatDoor
open Go.RowKit Rb
structure At (w0 w : World) (sb : Nat) (C T : Nat -> Prop) (st : Sto) : Prop where
 sto : StoAt w sb C T st
 bl : Below w0.heap.size w0 w
 cn : ∀ q, C q -> w0.heap.size <= q
 tn : ∀ q, T q -> w0.heap.size <= q
 lib : LibC C w
 ok : SGood st
theorem At.below {w0 w w' : World} {sb : Nat} {C T : Nat -> Prop} {st : Sto} (h : At w0 w sb C T st) (hb : Below w.heap.size w w') : At w0 w' sb C T st :=
 ⟨h.sto.below hb, h.bl.trans (hb.mono h.bl.size), h.cn, h.tn, h.lib.below hb, h.ok⟩
theorem At.act {w0 w : World} {sb : Nat} {C T I : Nat -> Prop} {st : Sto} {a : Acn} {as' : List Value} (h : At w0 w sb C T st) (ha : rAcn.rel w I as' a) (hI : ∀ q, I q -> q < w.heap.size /\ ¬ C q) :
  Calls Tryz.prog 10 #[.pointer (some ⟨sb, 0, none⟩), .agg as'.toArray] w fun e w' => ∃ A c B d C' T', e = .returned (.agg #[.int .i64 (doS st a).1.code, .int .i64 (doS st a).1.n, .string ⟨(doS st a).1.text.toArray⟩, .slice A (doS st a).1.ans.length c, .slice B (doS st a).1.at'.length d]) /\
   rRep.rel w' (fun q => w.heap.size <= q /\ ¬ C' q /\ q < w'.heap.size) [.int .i64 (doS st a).1.code, .int .i64 (doS st a).1.n, .string ⟨(doS st a).1.text.toArray⟩, .slice A (doS st a).1.ans.length c, .slice B (doS st a).1.at'.length d] (doS st a).1 /\ At w0 w' sb C' T' (doS st a).2 /\ Chg C w w' /\ (∀ q, C' q -> C q \/ w.heap.size <= q) /\ ∀ q, T' q -> T q \/ w.heap.size <= q := by
 refine (X01 w h.sto ha hI h.ok.ok h.lib).mono ?_
 rintro e w' ⟨rs, C', T', rfl, hr, hs, hc, hC, hT⟩
 obtain ⟨A, c, B, d, rfl⟩ := Z59 hr
 have hz := h.bl.size
 exact ⟨A, c, B, d, C', T', rfl, hr, ⟨hs, h.bl.trans (hc.toBelow hz h.cn), fun q hq => (hC q hq).elim (h.cn q) fun h => by omega, fun q hq => (hT q hq).elim (h.tn q) fun h => by omega, h.lib.chg hc hC, h.ok.step a⟩, hc, hC, hT⟩
theorem At.new (w : World) (hl : LibW w) (hp : PolW w) : Calls Tryz.prog 9 #[] w fun e w' => ∃ sb C T, e = .returned (.pointer (some ⟨sb, 0, none⟩)) /\ At w w' sb C T sto0 := by
 refine (Y90 w).mono ?_
 rintro e w' ⟨rfl, hs, hb⟩
 refine ⟨_, _, _, rfl, hs, hb, fun q hq => by rcases hq with rfl | rfl <;> omega, fun q hq => hq.elim, fun w2 hc => ?_, SGood.start⟩
 have h2 : Below w.heap.size w w2 := hb.trans (hc.toBelow hb.size fun q hq => by rcases hq with rfl | rfl <;> omega)
 exact ⟨hl.below h2, hp.below h2⟩
theorem At.lower {w w1 w2 : World} {sb : Nat} {C T : Nat -> Prop} {st : Sto} (h : At w1 w2 sb C T st) (hb : Below w.heap.size w w1) : At w w2 sb C T st :=
 ⟨h.sto, hb.trans (h.bl.mono hb.size), fun q hq => Nat.le_trans hb.size (h.cn q hq), fun q hq => Nat.le_trans hb.size (h.tn q hq), h.lib, h.ok⟩
theorem At.act_at {w0 w : World} {sb : Nat} {C T I : Nat -> Prop} {st st' : Sto} {a : Acn} {as' : List Value} {r : Rep} (hd : doS st a = (r, st')) (h : At w0 w sb C T st) (ha : rAcn.rel w I as' a) (hI : ∀ q, I q -> q < w.heap.size /\ ¬ C q) :
  Calls Tryz.prog 10 #[.pointer (some ⟨sb, 0, none⟩), .agg as'.toArray] w fun e w' => ∃ A c B d C' T', e = .returned (.agg #[.int .i64 r.code, .int .i64 r.n, .string ⟨r.text.toArray⟩, .slice A r.ans.length c, .slice B r.at'.length d]) /\
   rRep.rel w' (fun q => w.heap.size <= q /\ ¬ C' q /\ q < w'.heap.size) [.int .i64 r.code, .int .i64 r.n, .string ⟨r.text.toArray⟩, .slice A r.ans.length c, .slice B r.at'.length d] r /\ At w0 w' sb C' T' st' /\ Chg C w w' /\ (∀ q, C' q -> C q \/ w.heap.size <= q) /\ ∀ q, T' q -> T q \/ w.heap.size <= q := by
 have := h.act ha hI
 rw [hd] at this
 exact this
theorem Y2z (w : World) (kd n : Int) (nm tx : Txt) (h1 : InI kd) (h2 : InI n) (h3 : nm.length <= 140737488355328) (h4 : tx.length <= 140737488355328) : rAcn.rel w (fun _ => False) [.int .i64 kd, .int .i64 n, .string ⟨nm.toArray⟩, .string ⟨tx.toArray⟩, .slice none 0 0] ⟨kd, n, nm, tx, []⟩ :=
 ⟨_, rfl, h1, h2, h3, h4, Z1k _ _⟩
end Go.Proofs.YtlopccnehgolnaaGreatDoor
namespace Go.Proofs.YtlopccnehgolnaaGreatDoor
open Go.RowKit Rb
open Go.Lib renaming hid -> jI9
set_option maxRecDepth 100000
set_option maxHeartbeats 3200000
theorem box5 (w : World) (v0 v1 v2 v3 v4 : Value) : ∃ W, w.alloc (.cells #[v0, v1, v2, v3, v4] 42) = W /\ Hid (Below w.heap.size w W) /\ W.cell? ⟨w.heap.size, 0, none⟩ = some v0 /\ W.cell? ⟨w.heap.size, 1, none⟩ = some v1 /\ Hid (w.heap.size < W.heap.size) :=
 ⟨_, rfl, jI9 ((Below.refl _ _).alloc (Nat.le_refl _) _), World.cell?_alloc_new _ _ _ _, World.cell?_alloc_new _ _ _ _, jI9 (by simp)⟩
theorem Y44 (w : World) (hl : LibW w) (hp : PolW w) : Calls Tryz.prog 8 #[] w fun e w' => e = .returned (.bool true) /\ Below w.heap.size w w' := by
 obtain ⟨⟨r1, s1⟩, h1⟩ : ∃ z, doS sto0 Z63 = z := ⟨_, rfl⟩
 obtain ⟨⟨r2, s2⟩, h2⟩ : ∃ z, doS s1 Y08 = z := ⟨_, rfl⟩
 obtain ⟨⟨r3, s3⟩, h3⟩ : ∃ z, doS s2 Z6e = z := ⟨_, rfl⟩
 have k1 : r1.code = 0 := by have := Y34; rw [h1] at this; rw [show r1 = _ from this]
 have k2 : r2.code = 0 := by have := Y6v; rw [h1, h2] at this; exact this
 have k3 : r3.code = 0 /\ r3.n = 1 /\ s3.states.length = 2 := by have := Y1d; rw [h1, h2, h3] at this; exact this
 obtain ⟨k3, k4, k5⟩ := k3
 have HH1 := jI9 h1
 have HH2 := jI9 h2
 have HH3 := jI9 h3
 have HL := jI9 hl
 have HP := jI9 hp
 have HNEW := jI9 (At.new w hl hp)
 clear h1 h2 h3 hl hp
 have HF : Hid (∀ (w : World) (C : Nat -> Prop) (q : Nat), False -> q < w.heap.size /\ ¬ C q) := jI9 fun _ _ _ h => h.elim
 go_enter Tryz.func8, Tryz.ntmps8
 go_upto_region 4 with (first
  | (go_at_call 9; (with_reducible refine HNEW.out.mono ?_); rintro e w1 ⟨sb, C1, T1, rfl, hA1⟩; have HA1 := jI9 hA1; clear hA1))
 go_upto_region 7 with (first
  | (go_at_call 10; first | (((refine Calls.mono (HA1.out.act_at HH1.out (Y2z w1 1 0 [] [] ⟨by decide, by decide⟩ ⟨by decide, by decide⟩ (by simp) (by simp)) (HF.out w1 C1)) ?_); rintro e v2 ⟨A2, c2, B2, d2, C2, T2, rfl, _, hA2, hc2, hC2, _⟩; obtain ⟨W2, e2, HB2, x2, y2, HS2⟩ := box5 v2 (.int .i64 0) (.int .i64 r1.n) (.string ⟨r1.text.toArray⟩) (.slice A2 r1.ans.length c2) (.slice B2 r1.at'.length d2); have HA2 := jI9 (hA2.below HB2.out); have HW2 := jI9 hA2.sto.cw; clear hA2 hc2 hC2)) | (((refine Calls.mono (HA2.out.act_at HH2.out (Y2z W2 2 0 [] [100, 111, 109, 97, 105, 110, 32, 97, 32, 49, 46, 46, 57] ⟨by decide, by decide⟩ ⟨by decide, by decide⟩ (by simp) (by simp)) (HF.out W2 C2)) ?_); rintro e v3 ⟨A3, c3, B3, d3, C3, T3, rfl, _, hA3, hc3, hC3, _⟩; obtain ⟨W3, e3, HB3, x3, y3, HS3⟩ := box5 v3 (.int .i64 0) (.int .i64 r2.n) (.string ⟨r2.text.toArray⟩) (.slice A3 r2.ans.length c3) (.slice B3 r2.at'.length d3); have HA3 := jI9 (hA3.below HB3.out); have HW3 := jI9 hA3.sto.cw; have x2b := (HB3.out.cell (p := ⟨v2.heap.size, 0, none⟩) (Nat.lt_of_lt_of_le HS2.out hc3.size)).trans ((World.cell?_of_block (a := ⟨v2.heap.size, 0, none⟩) (hc3.block v2.heap.size HS2.out (fun h => Nat.lt_irrefl _ (HW2.out _ h)))).trans x2); have HN3 : Hid (¬ C3 v2.heap.size) := jI9 (fun h => by (rcases hC3 _ h with h | h; exact Nat.lt_irrefl _ (HW2.out _ h); (have := HS2.out; omega))); have HS3b : Hid (v2.heap.size < W3.heap.size) := jI9 (World.block_lt_of_cell? _ _ x2b); clear x2; clear hA3 hc3 hC3)) | (((refine Calls.mono (HA3.out.act_at HH3.out (Y2z W3 6 0 [] [] ⟨by decide, by decide⟩ ⟨by decide, by decide⟩ (by simp) (by simp)) (HF.out W3 C3)) ?_); rintro e v4 ⟨A4, c4, B4, d4, C4, T4, rfl, _, hA4, hc4, hC4, _⟩; obtain ⟨W4, e4, HB4, x4, y4, HS4⟩ := box5 v4 (.int .i64 0) (.int .i64 1) (.string ⟨r3.text.toArray⟩) (.slice A4 r3.ans.length c4) (.slice B4 r3.at'.length d4); have HA4 := jI9 (hA4.below HB4.out); have HW4 := jI9 hA4.sto.cw; have x2c := (HB4.out.cell (p := ⟨v2.heap.size, 0, none⟩) (Nat.lt_of_lt_of_le HS3b.out hc4.size)).trans ((World.cell?_of_block (a := ⟨v2.heap.size, 0, none⟩) (hc4.block v2.heap.size HS3b.out HN3.out)).trans x2b); have x3b := (HB4.out.cell (p := ⟨v3.heap.size, 0, none⟩) (Nat.lt_of_lt_of_le HS3.out hc4.size)).trans ((World.cell?_of_block (a := ⟨v3.heap.size, 0, none⟩) (hc4.block v3.heap.size HS3.out (fun h => Nat.lt_irrefl _ (HW3.out _ h)))).trans x3); clear x2b x3; clear hA4 hc4 hC4))))
 have HST := jI9 (Z6x W4 HA4.out.sto)
 have HK5 := jI9 k5
 go_wp2_with (first
  | (go_at_call 6; (with_reducible refine HST.out.mono ?_); rintro e w9 ⟨u9, rfl, ho9, hb9⟩; obtain ⟨A9, c9, e9⟩ := ho9.value; rw [HK5.out] at e9; subst e9; have HB9 := jI9 hb9; clear ho9 hb9))
 go_ret
 exact ⟨rfl, HA4.out.bl.trans (HB9.out.mono HA4.out.bl.size)⟩
end Go.Proofs.YtlopccnehgolnaaGreatDoor
namespace Go.Proofs.YtlopccnehgolnaaGreatDoor
open Go.RowKit Rb
open Go.Lib renaming hid -> jI9
open Go.World renaming cell?_alloc_new -> cN
set_option maxRecDepth 100000
set_option maxHeartbeats 3200000
def Z4l (l : List Acn) (n : Nat) : Sto := (l.take n).foldl (fun s a => (doS s a).2) sto0
def Y7o (l : List Acn) : Sto := Z4l l 50
theorem Y2l {l : List Acn} {n : Nat} {a : Acn} (h : l[n]? = some a) : Z4l l (n + 1) = (doS (Z4l l n) a).2 := by
 unfold Z4l
 rw [Z0b h, List.foldl_append]
 rfl
theorem Y4p {l : List Acn} {n : Nat} (h : l.length <= n) (h50 : n <= 50) : Z4l l n = Y7o l := by
 unfold Y7o Z4l
 rw [List.take_of_length_le h, List.take_of_length_le (by omega)]
theorem Elems.acn {w : World} {S : Nat -> Prop} {A : Option Addr} {l : List Acn} (h : Elems rAcn w S A l) {i : Nat} (hi : i < l.length) : ∃ b off a I c, A = some ⟨b, off, none⟩ /\ S b /\ b < w.heap.size /\ l[i]? = some a /\ rAcn.rel w S [.int .i64 a.kind, .int .i64 a.n, .string ⟨a.name.toArray⟩, .string ⟨a.text.toArray⟩, .slice I a.inp.length c] a /\
  w.cell? ⟨b, off + i * 5, none⟩ = some (.int .i64 a.kind) /\ w.cell? ⟨b, off + i * 5 + 1, none⟩ = some (.int .i64 a.n) /\ w.cell? ⟨b, off + i * 5 + 2, none⟩ = some (.string ⟨a.name.toArray⟩) /\ w.cell? ⟨b, off + i * 5 + 3, none⟩ = some (.string ⟨a.text.toArray⟩) /\ w.cell? ⟨b, off + i * 5 + 4, none⟩ = some (.slice I a.inp.length c) := by
 obtain ⟨b, off, es, hA, hS, hb, hr, hc⟩ := h i l[i] (List.getElem?_eq_getElem hi)
 have hr' := hr
 obtain ⟨u, rfl, _, _, _, _, hin⟩ := hr
 obtain ⟨I, c, rfl, _⟩ := rSl.elems hin
 exact ⟨b, off, l[i], I, c, hA, hS, hb, List.getElem?_eq_getElem hi, hr', hc 0 _ rfl, hc 1 _ rfl, hc 2 _ rfl, hc 3 _ rfl, hc 4 _ rfl⟩
theorem X0p {w v W : World} {q o : Nat} {u0 u1 u2 u3 u4 : Value} (h : v.heap[q]? = w.heap[q]?) (hq : q < v.heap.size) (hb : Below v.heap.size v W) (g0 : w.cell? ⟨q, o, none⟩ = some u0) (g1 : w.cell? ⟨q, o + 1, none⟩ = some u1) (g2 : w.cell? ⟨q, o + 2, none⟩ = some u2) (g3 : w.cell? ⟨q, o + 3, none⟩ = some u3) (g4 : w.cell? ⟨q, o + 4, none⟩ = some u4) :
  W.cell? ⟨q, o, none⟩ = some u0 /\ W.cell? ⟨q, o + 1, none⟩ = some u1 /\ W.cell? ⟨q, o + 2, none⟩ = some u2 /\ W.cell? ⟨q, o + 3, none⟩ = some u3 /\ W.cell? ⟨q, o + 4, none⟩ = some u4 := by
 have k : ∀ j, W.cell? ⟨q, j, none⟩ = w.cell? ⟨q, j, none⟩ := fun j => (hb.cell (p := ⟨q, j, none⟩) hq).trans (World.cell?_of_block (a := ⟨q, j, none⟩) h)
 exact ⟨(k _).trans g0, (k _).trans g1, (k _).trans g2, (k _).trans g3, (k _).trans g4⟩
theorem X1h (w : World) (v0 v1 v2 v3 v4 : Value) : ∃ W, w.alloc (.cells #[v0, v1, v2, v3, v4] 42) = W /\ Hid (Below w.heap.size w W) /\ W.cell? ⟨w.heap.size, 0, none⟩ = some v0 /\ W.cell? ⟨w.heap.size, 1, none⟩ = some v1 /\ W.cell? ⟨w.heap.size, 2, none⟩ = some v2 /\ W.cell? ⟨w.heap.size, 3, none⟩ = some v3 /\ W.cell? ⟨w.heap.size, 4, none⟩ = some v4 /\ Hid (W.heap.size = w.heap.size + 1) :=
 ⟨_, rfl, jI9 ((Below.refl _ _).alloc (Nat.le_refl _) _), cN _ _ _ _, cN _ _ _ _, cN _ _ _ _, cN _ _ _ _, cN _ _ _ _, jI9 (by simp)⟩
theorem Y39 {S : Nat -> Prop} {lv : Value} {l : List Acn} (w : World) (hl : (rSl rAcn).rel w S [lv] l) (hS : ∀ q, S q -> q < w.heap.size) (hw : LibW w) (hp : PolW w) :
  Calls Tryz.prog 4 #[lv, .func (.func 5) #[] #[]] w fun e w' => ∃ sb C T, e = .returned (.tuple #[.pointer (some ⟨sb, 0, none⟩), .bool true]) /\ At w w' sb C T (Y7o l) := by
 obtain ⟨A, c, rfl, _, _, hby, hE⟩ := rSl.elems hl
 have hln : l.length <= 1954687338432 := by simp only [rAcn] at hby; omega
 have HE := jI9 hE
 have HS := jI9 hS
 have HAL := jI9 (Y44 w hw hp)
 have HNW := jI9 fun w1 (hb : Below w.heap.size w w1) => At.new w1 (hw.below hb) (hp.below hb)
 clear hl hE hS hby hw hp
 go_enter Tryz.func4, Tryz.ntmps4
 go_upto_region 5 with (first
  | (go_at_call 8; (with_reducible refine HAL.out.mono ?_); rintro e w1 ⟨rfl, hb1⟩; have HB1 := jI9 hb1; clear hb1)
  | (go_at_call 9; (with_reducible refine (HNW.out w1 HB1.out).mono ?_); rintro e w2 ⟨sb, C, T, rfl, hA⟩; have HA := jI9 (hA.lower HB1.out); clear hA))
 go_loopw [7] (fun i wr => ∃ (k : Nat) (C T : Nat -> Prop), i = .int .i64 k /\ k <= l.length /\ k <= 50 /\ Hid (At w wr sb C T (Z4l l k))) (fun i _ => l.length - (intOf i).toNat)
 case atStart => exact ⟨0, C, T, rfl, Nat.zero_le _, Nat.zero_le _, HA⟩
 case round =>
  clear HA
  obtain ⟨k, C, T, rfl, hk, hk50, HA⟩ := hrel
  by_cases hlt : k < l.length
  ·by_cases h50 : k < 50
   ·have hik : (k : Int) < (l.length : Int) := by omega
    have hik5 : (k : Int) < 50 := by omega
    obtain ⟨q, off, a, I, ic, rfl, hSq, hq, hx, hr, g0, g1, g2, g3, g4⟩ := (HE.out.keep (.of_below HA.out.bl)).acn hlt
    have HX := jI9 hx
    have HR := jI9 hr
    have HNC : Hid (∀ p, S p -> p < wr.heap.size /\ ¬ C p) := jI9 fun p hp => ⟨Nat.lt_of_lt_of_le (HS.out p hp) HA.out.bl.size, fun hc => by have := HA.out.cn p hc; have := HS.out p hp; omega⟩
    obtain ⟨⟨r1, s1⟩, h1⟩ : ∃ z, doS (Z4l l k) a = z := ⟨_, rfl⟩
    have HH1 := jI9 h1
    have HNX : Hid (Z4l l (k + 1) = s1) := jI9 (by rw [Y2l hx, h1])
    have HSQ : Hid (q < wr.heap.size /\ ¬ C q) := jI9 (HNC.out q hSq)
    clear hx hr h1 hSq
    go_upto_region 8 with (first
     | (go_at_call 10; (with_reducible refine Calls.mono (HA.out.act_at HH1.out HR.out HNC.out) ?_); rintro e v2 ⟨A2, c2, B2, d2, C2, T2, rfl, _, hA2, hc2, hC2, _⟩; obtain ⟨W2, e2, HB2, x0, x1, x2, x3, x4, HS2⟩ := X1h v2 (.int .i64 r1.code) (.int .i64 r1.n) (.string ⟨r1.text.toArray⟩) (.slice A2 r1.ans.length c2) (.slice B2 r1.at'.length d2); have HA2 := jI9 (hA2.below HB2.out); obtain ⟨k0, k1, k2, k3, k4⟩ := X0p (q := q) (o := off + k * 5) (hc2.block q HSQ.out.1 HSQ.out.2) (Nat.lt_of_lt_of_le HSQ.out.1 hc2.size) HB2.out g0 g1 g2 g3 g4; clear g0 g1 g2 g3 g4 hA2 hc2 hC2))
    have HQ := jI9 fun w' (hb : Below W2.heap.size W2 w') => Y66 (.pointer (some ⟨sb, 0, none⟩)) [.int .i64 a.kind, .int .i64 a.n, .string ⟨a.name.toArray⟩, .string ⟨a.text.toArray⟩, .slice I a.inp.length ic] [.int .i64 r1.code, .int .i64 r1.n, .string ⟨r1.text.toArray⟩, .slice A2 r1.ans.length c2, .slice B2 r1.at'.length d2] rfl rfl w'
    have hqW : q < W2.heap.size := World.block_lt_of_cell? _ _ k0
    have hvW : v2.heap.size < W2.heap.size := World.block_lt_of_cell? _ _ x0
    refine wp_region_quiet_below (by kernel_rfl) (by kernel_rfl) ?_
    repeat (go_big_quiet_step (with_reducible exact Calls.inBelow HQ.out _ _))
    refine wpQuiet_nil ?_
    intro _ hw'
    obtain ⟨⟨dq, osq⟩, hw''⟩ := hw'
    subst hw''
    go_wp2
    go_roundw
    case rel => exact ⟨k + 1, C2, T2, by go_num, hlt, h50, jI9 (by rw [HNX.out]; exact HA2.out.below (below_regrown _ _ _))⟩
    case measure => simp [intOf]; omega
   ·have hik5 : ¬ (k : Int) < 50 := by omega
    have hik : (k : Int) < (l.length : Int) := by omega
    obtain rfl : k = 50 := by omega
    go_wp2
    go_ret2
    exact ⟨sb, rfl, C, T, HA.out⟩
  ·have hik : ¬ (k : Int) < (l.length : Int) := by omega
   go_wp2
   go_ret2
   exact ⟨sb, rfl, C, T, by have := HA.out; rwa [Y4p (by omega) hk50] at this⟩
end Go.Proofs.YtlopccnehgolnaaGreatDoor
namespace Go.Proofs.YtlopccnehgolnaaGreatDoor
open Go.RowKit Rb
open Go.Lib renaming hid -> jI9
set_option maxRecDepth 100000
set_option maxHeartbeats 3200000
theorem Y2v (l : List Acn) (n : Nat) : SGood (Z4l l n) := by
 unfold Z4l
 generalize l.take n = m
 suffices h : ∀ (m : List Acn) (st : Sto), SGood st -> SGood (m.foldl (fun s a => (doS s a).2) st) from h m _ SGood.start
 intro m
 induction m with
 | nil => exact fun st h => h
 | cons a m ih => exact fun st h => ih _ (h.step a)
theorem Y17 {S : Nat -> Prop} {lv : Value} {l : List Acn} (w : World) (hl : (rSl rAcn).rel w S [lv] l) (hS : ∀ q, S q -> q < w.heap.size) (hw : LibW w) (hp : PolW w) :
  Calls Tryz.prog 3 #[lv] w fun e w' => e = .returned (.bool true) /\ Below w.heap.size w w' := by
 have HPL := jI9 (Y39 w hl hS hw hp)
 obtain ⟨st, hst⟩ : ∃ st, Y7o l = st := ⟨_, rfl⟩
 rw [hst] at HPL
 have HG : Hid (SGood st) := jI9 (by rw [<- hst]; exact Y2v l 50)
 clear hl hS hw hp hst
 go_enter Tryz.func3, Tryz.ntmps3
 go_upto_region 4 with (first
  | (go_at_call 4; (with_reducible refine HPL.out.mono ?_); rintro e w1 ⟨sb, C, T, rfl, hA⟩; have HA := jI9 hA; clear hA))
 go_upto_region 5 with (first
  | (go_at_call 6; (with_reducible refine (Z6x w1 HA.out.sto).mono ?_); rintro e w2 ⟨u1, rfl, ho1, hb1⟩; obtain ⟨A1, c1, e1, _, _, hby1, hE1⟩ := rSl.elems (ho1.rel (by decide)); subst e1; have HB1 := jI9 hb1; have hln : st.states.length <= 2932031007402 := (by simp only [rBk] at hby1; omega); clear ho1 hb1 hby1; have HE1 := jI9 hE1; clear hE1))
 have HBW := jI9 (HA.out.bl.trans (HB1.out.mono HA.out.bl.size))
 go_loopw [20] (fun i wr => ∃ k : Nat, k <= st.states.length /\ i = .int .i64 k /\ Hid (Below w2.heap.size w2 wr)) (fun i _ => st.states.length - (intOf i).toNat)
 case atStart => exact ⟨0, Nat.zero_le _, rfl, jI9 (Below.refl _ _)⟩
 case round =>
  obtain ⟨k, hk, rfl, HB⟩ := hrel
  by_cases hlt : k < st.states.length
  ·obtain ⟨b1, o1, y, D1, d1, F1, f1, rfl, hb1, hx, hr, g0, g1⟩ := HE1.out.bk hlt
   rw [<- HB.out.cell (p := ⟨b1, _, none⟩) hb1] at g0 g1
   have hik : (k : Int) < (st.states.length : Int) := by omega
   have hck0 := HG.out.chk y (List.mem_of_getElem? hx)
   obtain ⟨⟨nm, at_, er⟩, hck⟩ : ∃ x, Z0g y = x := ⟨_, rfl⟩
   rw [hck] at hck0
   obtain rfl : er = 0 := hck0
   have HCK := jI9 hck
   obtain ⟨W2, e2, HB2, HR2, j0, j1⟩ : ∃ W2, wr.alloc (.cells #[.slice D1 y.doms.length d1, .slice F1 y.tabs.length f1] 32) = W2 /\ Hid (Below wr.heap.size wr W2) /\ Hid (rBk.rel W2 (Up (fun _ => False) w1.heap.size) [.slice D1 y.doms.length d1, .slice F1 y.tabs.length f1] y) /\ W2.cell? ⟨wr.heap.size, 0, none⟩ = some (.slice D1 y.doms.length d1) /\ W2.cell? ⟨wr.heap.size, 1, none⟩ = some (.slice F1 y.tabs.length f1) :=
    ⟨_, rfl, jI9 ((Below.refl _ _).alloc (Nat.le_refl _) _), jI9 (Rd.alloc (Rd.below hr HB.out) _), World.cell?_alloc_new _ _ _ _, World.cell?_alloc_new _ _ _ _⟩
   clear hx hr hck
   go_wp2_with (first
    | (go_at_call 7; (with_reducible refine (Z6i W2 HR2.out HCK.out).mono ?_); rintro e w3 ⟨Ak, ck, Sk, rfl, _, hb3⟩; have HB3 := jI9 hb3; clear hb3))
   go_roundw
   case rel => exact ⟨k + 1, hlt, by go_num, jI9 ((HB.out.trans (HB2.out.mono HB.out.size)).trans (HB3.out.mono (HB.out.trans (HB2.out.mono HB.out.size)).size))⟩
   case measure => simp [intOf]; omega
  ·have hik : ¬ (k : Int) < (st.states.length : Int) := by omega
   have h40 : (st.states.length : Int) <= 40 := by have := HG.out.le; omega
   have HSA := jI9 ((HA.out.sto.below HB1.out).below HB.out)
   have HBw := jI9 (HBW.out.trans (HB.out.mono HBW.out.size))
   go_wp2_with (first
    | (go_at_call 6; (with_reducible refine (Z6x wr HSA.out).mono ?_); rintro e w4 ⟨u2, rfl, ho2, hb2⟩; obtain ⟨A2, c2, e2⟩ := ho2.value; subst e2; have HB4 := jI9 hb2; clear ho2 hb2))
   go_ret
   exact ⟨rfl, HBw.out.trans (HB4.out.mono HBw.out.size)⟩
end Go.Proofs.YtlopccnehgolnaaGreatDoor
