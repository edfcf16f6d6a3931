import Derived.Test.YtlopccnehgolnacGreatDoorGK49
import Derived.Test.YtlopccnehgolnacGreatDoorGK47
import Derived.Deep.DeepCutAuto
import Derived.Deep.RegionHeld3
import Derived.Test.YtlopccnehgolnacGreatDoorBld
namespace Go.Proofs.YtlopccnehgolnacGreatDoor
open Go.RowKit Rb
open Rd renaming below -> jA
set_option maxRecDepth 100000
set_option maxHeartbeats 25600000
theorem Y2t {S : Nat -> Prop} {lv : Value} {l : List Acn} (w : World) (hl : (rSl rAcn).rel w S [lv] l) (hS : ∀ q, S q -> q < w.heap.size) (hw : LibW w) (hp : PolW w) :
  Calls Tryz.prog 15 #[lv, .func (.func 16) #[] #[]] w fun e w' => e = .returned (.bool true) /\ Bw w w' := by
 obtain ⟨A, c, rfl, _, _, hby, hE⟩ := rSl.elems hl
 have hln : l.length <= 1954687338432 := by simp only [rAcn] at hby; omega
 have HE := L0 hE
 have HS := L0 hS
 have HLW := L0 hw
 have HPW := L0 hp
 obtain ⟨W1, e1, HB1, HN1⟩ := X1h w
 have HPC := L0 (Y9e W1 (jA hl HB1.o) (fun q hq => L0c (hS q hq) HB1.o.size) (hw.below HB1.o) (hp.below HB1.o))
 have HNW := L0 fun w1 (hb : Bw w w1) => At.new w1 (hw.below hb) (hp.below hb)
 clear hl hE hS hby hw hp
 go_enter Tryz.func15, Tryz.ntmps15
 go_upto_region 7 with (first
  | (go_at_call 20; (with_reducible refine HPC.o.mono ?_); rintro e w1 ⟨sb0, C0, T0, rfl, hA⟩; have HB2 : Hid (Bw w w1) := L0 (HB1.o.trans (hA.bl.mono HB1.o.size)); have HN2 := L0 (HN1.o.below hA.bl); clear hA)
  | (go_at_call 26; go_must ((with_reducible refine (HNW.o w1 HB2.o).mono ?_); rintro e w2 ⟨sb, C, T, rfl, hA⟩; have HI0 : Hid (SInv w w2 w.heap.size sb C T (fun _ => False) (fun _ => nl) (Z0x l 0) (Z3k l 0)) := L0 (SInv.first HN2.o (fun _ => rfl) hA HB2.o); clear hA)))
 clear e1
 go_loopw [9] (fun i wr => ∃ (k : Nat) (C T R : Nat -> Prop) (s : Nat -> Value), i = .int .i64 k /\ k <= l.length /\ k <= 50 /\ Hid (SInv w wr w.heap.size sb C T R s (Z0x l k) (Z3k l k))) (fun i _ => l.length - (intOf i).toNat)
 exact ⟨0, C, T, _, _, rfl, L0o _, L0o _, HI0⟩
 clear HI0 HB2 HN2 HPC HNW
 obtain ⟨k, C, T, R, s, rfl, hk, hk50, HI⟩ := hrel
 by_cases hlt : k < l.length
 ·by_cases h50 : k < 50
  ·have hik : (k : Int) < l.length := by omega
   have hik5 : (k : Int) < 50 := by omega
   obtain ⟨q, off, a, I, ic, rfl, hSq, hq, hx, hr, g0, g1, g2, g3, g4⟩ := (HE.o.keep (.of_below HI.o.sto.bl)).acn hlt
   obtain ⟨⟨r1, s1⟩, h1⟩ : ∃ z, doS (Z0x l k) a = z := ⟨_, rfl⟩
   have HH1 := L0 h1
   have HR1 : Hid ((doS (Z0x l k) a).1 = r1) := L0 (by rw [h1])
   have HNX : Hid (Z0x l (k + 1) = s1 /\ Z3k l (k + 1) = Z1h (Z0x l k) (Z3k l k) a) := L0 ⟨by rw [Z3r hx, h1], Z74 hx⟩
   have HQC : Hid (∀ q, wr.heap.size <= q -> ¬ C q) := L0 fun q h hc => by have := HI.o.sto.sto.cw q hc; omega
   have HNB : Hid (w.heap.size < wr.heap.size) := L0 HI.o.now.lt
   have HROW : Hid (∀ i, i < 8 -> ∀ g, (s i).ownBlock = some g -> g < wr.heap.size) := L0 fun i hi g hg => (HI.o.now.row hi hg).2.1
   clear hSq hq h1
   by_cases hin : 0 <= a.n /\ a.n < 4
   ·obtain ⟨j, hj⟩ : ∃ j : Nat, a.n = j := ⟨a.n.toNat, by omega⟩
    have hj4 : j < 4 := by omega
    have HJ := L0 hj
    have hji : (0 : Int) <= j := by omega
    have hji4 : (j : Int) < 4 := by omega
    rw [hj] at hr g1
    obtain ⟨x, hxx⟩ : ∃ x, (Z0x l k).ses j = x := ⟨_, rfl⟩
    have HXX := L0 hxx
    obtain ⟨W2, e2, HB2, HX2, HF2, HZ2, i0, i1, i2, i3, i4⟩ := X2b wr (.int .i64 a.kind) (.int .i64 (j : Int)) (sq a.name) (sq a.text) (.slice I a.inp.length ic)
    have HR2 : Hid (rAcn.rel W2 S [.int .i64 a.kind, .int .i64 (j : Int), sq a.name, sq a.text, .slice I a.inp.length ic] a) := L0 (jA hr HB2.o)
    have HSN : Hid (Calls Tryz.prog 14 #[.pointer (some (zn sb 0)), .int .i64 j] W2 fun e w' => ∃ ys, e = .returned (.agg ys.toArray) /\ rSes.rel w' (fun q => W2.heap.size <= q) ys x /\ Bw W2 w') := L0 (by
     obtain ⟨xs, h2, h3⟩ := (HI.o.below HB2.o).sto.sto.ses j hj4
     rw [hxx] at h2
     exact Y4q W2 hj4 h2 h3 (HI.o.below HB2.o).sto.sto.tw)
    clear hx hr hxx hj hin
    go_upto_region 13 with (first
     | (go_at_call 14; (with_reducible refine HSN.o.mono ?_); rintro e w4 ⟨ys, rfl, hr4, hb4⟩; have hr4' := hr4; obtain ⟨D1, d1, F1, f1, G1, g1', Q1, r1', rfl, _⟩ := Y9q hr4; have HX4 : Hid (SesAt w4 (wr.heap.size + 1) 0 (fun _ => False) ses0) := L0 (HX2.o.below hb4); obtain ⟨_, _, _, _, _, _, _, _, _, c0, c1, c2, c3, c4, c5, c6⟩ := Y0a HX4.o; obtain ⟨W5, e5, HX5, HW5, HY5⟩ := X1w (T' := fun q => W2.heap.size <= q) HX4.o hr4' (by have := HZ2.o; omega); have HF4 : Hid (∀ i, w4.frozen? (zn (wr.heap.size + 1) i) = false) := L0 (fun i => (hb4.frozen (p := (zn (wr.heap.size + 1) i)) (by (have := HZ2.o; show wr.heap.size + 1 < _; omega))).trans (HF2.o i)); have z0 := HF4.o 0; have z1 := HF4.o 1; have z2 := HF4.o 2; have z3 := HF4.o 3; have z4 := HF4.o 4; have z5 := HF4.o 5; have z6 := HF4.o 6; have HB4 := L0 hb4; clear hr4 hr4' hb4))
    clear c0 c1 c2 c3 c4 c5 c6 z0 z1 z2 z3 z4 z5 z6 g0 g1 g2 g3 g4 e5 e2
    have HB5 : Hid (Bw wr W5) := L0 ((HB2.o.trans (HB4.o.mono HB2.o.size)).grown HW5.o.hg (L0h HB2.o.size HB4.o.size) fun k hk => by have := L0s hk; omega)
    obtain ⟨RX, hRX⟩ : ∃ RX, RX = fun q => W2.heap.size <= q := ⟨_, rfl⟩
    rw [<- hRX] at HX5
    have HQX : Hid (∀ q, RX q -> ¬ C q) := L0 fun q h => HQC.o q (by rw [hRX] at h; have := HZ2.o; omega)
    have HS5 := L0 (HI.o.below HB5.o)
    have HZ5 : Hid (wr.heap.size + 2 <= W5.heap.size) := L0 (by have h1 := HZ2.o; have h2 := HB4.o.size; have h3 := HY5.o; omega)
    have HR5 : Hid (rAcn.rel W5 S [.int .i64 a.kind, .int .i64 (j : Int), sq a.name, sq a.text, .slice I a.inp.length ic] a) := L0 (rAcn.keep (jA HR2.o HB4.o) (.grown HW5.o.hg fun g hg h => by injection hg with hg; have := HS.o g h; have := HNB.o; omega))
    obtain ⟨j0, j1, j2, j3, j4⟩ := Z7t (K := fun q => q = wr.heap.size) (Keeps.trans (w' := w4) (.of_below HB4.o) (.grown HW5.o.hg fun g hg h => by injection hg with hg; omega)) rfl i0 i1 i2 i3 i4
    clear i0 i1 i2 i3 i4 HX2 HF2 HSN HW5 HY5 HB4 HR2
    obtain ⟨m, hm⟩ : ∃ m, (Z0x l k).states.length = m + 1 := ⟨(Z0x l k).states.length - 1, by have := HS5.o.sto.ok.ne; omega⟩
    have HM := L0 hm
    go_upto_region 14 with (first
     | (go_at_call 12; (with_reducible refine (Z7q W5 HS5.o.sto.sto).mono ?_); rintro e w6 ⟨u1, rfl, ho1, hb1⟩; obtain ⟨A1, c1, e1, _, _, hby1, hE1⟩ := rSl.elems (ho1.rel (by decide)); rw [HM.o] at e1 hby1; subst e1; have hml : m <= 2932031007402 := (by simp only [rBk] at hby1; omega); have HB6 := L0 hb1; have HE1 := L0 hE1; obtain ⟨k0, k1, k2, k3, k4⟩ := Z7t (Keeps.of_below (S := fun _ => True) hb1) trivial j0 j1 j2 j3 j4; clear ho1 hb1 hE1 hby1 j0 j1 j2 j3 j4))
    have HS6 := L0 (HS5.o.below HB6.o)
    have HR6 : Hid (rAcn.rel w6 S [.int .i64 a.kind, .int .i64 (j : Int), sq a.name, sq a.text, .slice I a.inp.length ic] a) := L0 (jA HR5.o HB6.o)
    have HNC : Hid (∀ p, S p -> p < w6.heap.size /\ ¬ C p) := L0 fun p hp => ⟨L0c (HS.o p hp) HS6.o.sto.bl.size, fun hc => by have := HS6.o.sto.cn p hc; have := HS.o p hp; omega⟩
    go_upto_region 15 with (first
     | (go_at_call 11; (with_reducible refine L4y (HS6.o.sto.act_at HH1.o HR6.o HNC.o) ?_); rintro e v7 ⟨A2, p2, B2, q2, C2, T2, rfl, hr2, hA2, hc2, hC2, hT2⟩; obtain ⟨W8, e8, HB8, y0, y1, y2, y3, y4, HZ8⟩ := X0v v7 (.int .i64 r1.code) (.int .i64 r1.n) (sq r1.text) (.slice A2 r1.ans.length p2) (.slice B2 r1.at'.length q2); have HS8 := L0 ((HS6.o.act hA2 hc2 hC2 hT2).below HB8.o); have HK : Hid (Keeps (fun p => ¬ C p) w6 W8) := L0 ((hc2.keeps fun _ h => h).trans (.of_below HB8.o)); have HRR : Hid (rRep.rel W8 (fun q => w6.heap.size <= q /\ ¬ C2 q /\ q < v7.heap.size) [.int .i64 r1.code, .int .i64 r1.n, sq r1.text, .slice A2 r1.ans.length p2, .slice B2 r1.at'.length q2] r1) := L0 (jA hr2 HB8.o); have HSZ : Hid (w6.heap.size <= v7.heap.size /\ W8.heap.size = v7.heap.size + 1 /\ wr.heap.size + 2 <= w6.heap.size) := L0 ⟨hc2.size, HZ8.o, L0h HZ5.o HB6.o.size⟩; clear hr2 hA2 hc2 hC2 hT2))
    obtain ⟨b0, b1, b2, b3, b4⟩ := Z7t HK.o (HQC.o wr.heap.size (L0g _)) k0 k1 k2 k3 k4
    have HX8 : Hid (SesAt W8 (wr.heap.size + 1) 0 RX x) := L0 (Y4d (HX5.o.below HB6.o) HK.o HQX.o (HQC.o _ (L1m _)))
    obtain ⟨D, dc, B, bc, G, gc, Q, qc, HXR, x0, x1, x2, x3, x4, x5, x6⟩ := Y0a HX8.o
    clear k0 k1 k2 k3 k4 e8
    rcases (show a.kind = 1 \/ a.kind <= 0 \/ (1 < a.kind /\ a.kind < 6) \/ a.kind = 6 \/ 6 < a.kind by omega) with hkd | hkd | hkd | hkd | hkd
    ·by_cases hc0 : r1.code = 0
     ·obtain ⟨t1, t2, t3, t6⟩ := Y5a hkd
      have tc : (r1.code == 0) = true := by rw [hc0]; rfl
      obtain ⟨j2, hj2, hjn, _⟩ := Y52 (st := Z0x l k) hkd (by rw [HR1.o]; exact hc0)
      have HJN := L0 hjn
      rw [HR1.o] at hjn
      rw [hjn] at y1
      have hj0 : (0 : Int) <= j2 := by omega
      have hj5 : (j2 : Int) < 4 := by omega
      have u0 := HS8.o.now.cell (j2 * 2) (by omega)
      have u1 := HS8.o.now.cell (j2 * 2 + 1) (by omega)
      have v0 := HS8.o.now.frz (j2 * 2)
      have v1 := HS8.o.now.frz (j2 * 2 + 1)
      obtain ⟨s9, hs9⟩ := HS8.o.zero HLW.o HPW.o (L0g _) hj2
      have HS9 := L0 hs9
      clear hs9 hjn
      go_wp2
      go_roundw
      exact ⟨k + 1, C2, T2, R, s9, by go_num, hlt, h50, L0 (by rw [HNX.o.1, HNX.o.2, X3n hkd (by rw [HR1.o]; exact hc0) hj2 HJN.o]; exact HS9.o)⟩
      simp [intOf]; omega
     obtain ⟨t1, t2, t3, t6⟩ := Y5a hkd
     have tc : (r1.code == 0) = false := beq_eq_false_iff_ne.2 hc0
     go_wp2
     go_roundw
     exact ⟨k + 1, C2, T2, R, s, by go_num, hlt, h50, L0 (by rw [HNX.o.1, HNX.o.2, Z1x (fun h => hc0 (by rw [<- HR1.o]; exact h.2)) (fun h => by omega)]; exact HS8.o)⟩
     simp [intOf]; omega
    ·obtain ⟨t1, t2, t3, t6⟩ := Y82 hkd
     go_wp2
     go_roundw
     exact ⟨k + 1, C2, T2, R, s, by go_num, hlt, h50, L0 (by rw [HNX.o.1, HNX.o.2, Z1x (fun h => by omega) (fun h => by omega)]; exact HS8.o)⟩
     simp [intOf]; omega
    ·by_cases hop : x.opn = true
     ·as_aux_lemma =>
       obtain ⟨t1, t2, t3, t6⟩ := Y49 hkd
       rw [hop] at x0
       have HOP : Hid (((Z0x l k).ses j).opn = true) := L0 (by rw [HXX.o]; exact hop)
       obtain ⟨R9, hR9⟩ : ∃ R9 : Nat -> Prop, R9 = fun q => R q \/ S q \/ (w6.heap.size <= q /\ ¬ C2 q /\ q < v7.heap.size) := ⟨_, rfl⟩
       have HS9 : Hid (SInv w W8 w.heap.size sb C2 T2 R9 s s1 (Z3k l k)) := L0 (HS8.o.wide (n := w6.heap.size) (L0g _) (fun q hq => HS6.o.lt (.inr hq)) (fun q hq => by rw [hR9]; exact .inl hq) fun q hq => by
        have hz := HSZ.o
        rw [hR9] at hq
        rcases hq with h | h | h
        ·exact .inl h
        ·have h2 := HS.o q h
         exact .inr ⟨.inl h2, by have := (HNC.o q h).1; omega, fun hc => by have := HS8.o.sto.cn q hc; omega⟩
        exact .inr ⟨.inr h.1, by omega, h.2.1⟩)
       have HRA : Hid (rAcn.rel W8 R9 [.int .i64 a.kind, .int .i64 (j : Int), sq a.name, sq a.text, .slice I a.inp.length ic] a) := L0 (rAcn.mono (rAcn.keep HR6.o fun q hq hl => HK.o q (HNC.o q hq).2 hl) fun q hq _ => by rw [hR9]; exact .inr (.inl hq))
       have HRB : Hid (rRep.rel W8 R9 [.int .i64 r1.code, .int .i64 r1.n, sq r1.text, .slice A2 r1.ans.length p2, .slice B2 r1.at'.length q2] r1) := L0 (rRep.mono HRR.o fun q hq _ => by rw [hR9]; exact .inr (.inr hq))
       obtain ⟨d, hdd⟩ : ∃ d, Z3k l k = d := ⟨_, rfl⟩
       have HADD : Hid (Z3k l (k + 1) = fun i => if i = j then (d i).add a r1 else d i) := L0 (by rw [HNX.o.2, X3m hkd.1 hkd.2 HJ.o hj4 HOP.o, HR1.o, hdd])
       have HLN : Hid ((d j).acts.length <= 50 /\ (d j).reps.length <= 50) := L0 (by rw [<- hdd]; have := Z9y l k j; omega)
       rw [hdd] at HS9
       have HROWa := HROW
       have HBYa : Hid (((d j).acts.length + 1) * rAcn.bytes <= 140737488355328) := L0 (by have := HLN.o; simp only [rAcn]; omega)
       have HYY : Hid (W8.cell? (zn v7.heap.size 0) = some (.int .i64 r1.code) /\ W8.cell? (zn v7.heap.size 1) = some (.int .i64 r1.n) /\ W8.cell? (zn v7.heap.size 2) = some (sq r1.text) /\ W8.cell? (zn v7.heap.size 3) = some (.slice A2 r1.ans.length p2) /\ W8.cell? (zn v7.heap.size 4) = some (.slice B2 r1.at'.length q2)) := L0 ⟨y0, y1, y2, y3, y4⟩
       obtain ⟨Wa, ea, HBa, HNa, HZa⟩ : ∃ Wa, W8.alloc (.cells #[.int .i64 a.kind, .int .i64 (j : Int), sq a.name, sq a.text, .slice I a.inp.length ic] 24) = Wa /\ Hid (Bw W8 Wa.drew) /\ Hid (∀ i u, [Value.int .i64 a.kind, .int .i64 (j : Int), sq a.name, sq a.text, .slice I a.inp.length ic][i]? = some u -> Wa.drew.cell? (((zn W8.heap.size 0) : Addr).add i) = some u) /\ Hid (Wa.heap.size = W8.heap.size + 1) :=
        ⟨_, rfl, L0 (bA.trans ⟨rfl, rfl, rfl, L0g _, fun _ _ => rfl⟩), L0 (Z6q W8 [.int .i64 a.kind, .int .i64 (j : Int), sq a.name, sq a.text, .slice I a.inp.length ic] 24), L0 (by simp)⟩
       have HDa := L0 (HS9.o.below HBa.o)
       obtain ⟨Ua, na, hua⟩ := (HDa.o.now.acts j hj4).self.value
       have HOa : Hid (OwnS rAcn 24 Wa.drew w.heap.size R9 (.slice Ua (d j).acts.length na) (d j).acts) := L0 (by have := HDa.o.now.acts j hj4; rw [hua] at this; exact this)
       have HLa : Hid (rAcn.rel Wa.drew R9 [.int .i64 a.kind, .int .i64 (j : Int), sq a.name, sq a.text, .slice I a.inp.length ic] a) := L0 (jA HRA.o HBa.o)
       have HTa : Hid (∀ q, R9 q -> q < Wa.drew.heap.size) := L0 fun q hq => HDa.o.lt (.inl hq)
       have HWa : Hid (w.heap.size <= Wa.drew.heap.size) := L0 HDa.o.sto.bl.size
       have HEa : Hid ((Value.slice Ua (d j).acts.length na).ownBlock ≠ some w.heap.size /\ ∀ g, (Value.slice Ua (d j).acts.length na).ownBlock = some g -> g < wr.heap.size) := L0 (by have h1 := HDa.o.now.ne (j * 2) (by omega); rw [hua] at h1; exact ⟨h1, fun g hg => HROWa.o (j * 2) (by omega) g (by rw [hua]; exact hg)⟩)
       have cwa : W8.cell? (zn w.heap.size (j * 2)) = some (.slice Ua (d j).acts.length na) := by rw [HS9.o.now.cell (j * 2) (by omega), hua]
       have fwa := HS9.o.now.frz (j * 2)
       have cxa : Wa.cell? (zn w.heap.size (j * 2)) = some (.slice Ua (d j).acts.length na) := (HBa.o.ce (j * 2) HS9.o.now.lt).trans cwa
       have fxa : Wa.frozen? (zn w.heap.size (j * 2)) = false := (HBa.o.fr (j * 2) HS9.o.now.lt).trans fwa
       have HNEa : Hid (∀ q, wr.heap.size <= q -> (Value.slice Ua (d j).acts.length na).ownBlock ≠ some q) := L0 fun q hq e => by have := HEa.o.2 q e; omega
       have HALa : Hid (∀ wn, Wa.drew.grownBy wn (Value.slice Ua (d j).acts.length na).ownBlock -> wn.cell? (zn w.heap.size (j * 2)) = some (.slice Ua (d j).acts.length na) /\ wn.frozen? (zn w.heap.size (j * 2)) = false) := L0 fun wn hg => ⟨hg.cell (show Wa.drew.cell? (zn w.heap.size (j * 2)) = _ from cxa) (fun e => HEa.o.1 e.symm), (L1a (hg.block w.heap.size HDa.o.now.lt (fun e => HEa.o.1 e.symm))).trans (show Wa.drew.frozen? (zn w.heap.size (j * 2)) = false from fxa)⟩
       obtain ⟨Sa, hsa⟩ : ∃ S' : World -> Prop, S' = fun w' => w'.cell? (zn wr.heap.size 0) = some (.int .i64 a.kind) /\ w'.cell? (zn wr.heap.size 1) = some (.int .i64 (j : Int)) /\ w'.cell? (zn wr.heap.size 2) = some (sq a.name) /\ w'.cell? (zn wr.heap.size 3) = some (sq a.text) /\ w'.cell? (zn wr.heap.size 4) = some (.slice I a.inp.length ic) := ⟨_, rfl⟩
       have HS0a : Hid (Sa W8.drew) := L0 (by rw [hsa]; exact ⟨(show W8.cell? (zn wr.heap.size 0) = _ from b0), (show W8.cell? (zn wr.heap.size 1) = _ from b1), (show W8.cell? (zn wr.heap.size 2) = _ from b2), (show W8.cell? (zn wr.heap.size 3) = _ from b3), (show W8.cell? (zn wr.heap.size 4) = _ from b4)⟩)
       have HS1a : Hid (Sa Wa.drew) := L0 (by rw [hsa]; exact ⟨(HBa.o.ce 0 (L0d _ _ b0)).trans b0, (HBa.o.ce 1 (L0d _ _ b1)).trans b1, (HBa.o.ce 2 (L0d _ _ b2)).trans b2, (HBa.o.ce 3 (L0d _ _ b3)).trans b3, (HBa.o.ce 4 (L0d _ _ b4)).trans b4⟩)
       have HS2a : Hid (∀ wn, Wa.drew.grownBy wn (Value.slice Ua (d j).acts.length na).ownBlock -> Sa wn) := L0 fun wn hg => by have h1 := HS1a.o; rw [hsa] at h1 ⊢; obtain ⟨s0, s1, s2, s3, s4⟩ := h1; exact ⟨hg.cell s0 (fun e => HNEa.o wr.heap.size (L0g _) e.symm), hg.cell s1 (fun e => HNEa.o wr.heap.size (L0g _) e.symm), hg.cell s2 (fun e => HNEa.o wr.heap.size (L0g _) e.symm), hg.cell s3 (fun e => HNEa.o wr.heap.size (L0g _) e.symm), hg.cell s4 (fun e => HNEa.o wr.heap.size (L0g _) e.symm)⟩
       have HS3a : Hid (∀ wn u, Wa.drew.grownBy wn (Value.slice Ua (d j).acts.length na).ownBlock -> Sa (wn.setCell (zn w.heap.size (j * 2)) u)) := L0 fun wn u hg => by have h1 := HS2a.o wn hg; rw [hsa] at h1 ⊢; obtain ⟨s0, s1, s2, s3, s4⟩ := h1; exact ⟨(L0a _ _ _ _ (by have := HNB.o; have := HSZ.o; simp; try omega)).trans s0, (L0a _ _ _ _ (by have := HNB.o; have := HSZ.o; simp; try omega)).trans s1, (L0a _ _ _ _ (by have := HNB.o; have := HSZ.o; simp; try omega)).trans s2, (L0a _ _ _ _ (by have := HNB.o; have := HSZ.o; simp; try omega)).trans s3, (L0a _ _ _ _ (by have := HNB.o; have := HSZ.o; simp; try omega)).trans s4⟩
       have HSSa := L0 hsa
       clear hsa
       go_upto_region 18 with fail
       go_cut [] (fun wx => ∃ (Ax : Option Addr) (cx : Nat) (wn : World), wx = wn.setCell (zn w.heap.size (j * 2)) (.slice Ax ((d j).acts.length + 1) cx) /\ Hid (OwnS rAcn 24 wn w.heap.size R9 (.slice Ax ((d j).acts.length + 1) cx) ((d j).acts ++ [a])) /\ Hid (Wa.drew.grownBy wn (Value.slice Ua (d j).acts.length na).ownBlock) /\ Hid ((Value.slice Ax ((d j).acts.length + 1) cx).ownBlock = (Value.slice Ua (d j).acts.length na).ownBlock \/ (Value.slice Ax ((d j).acts.length + 1) cx).ownBlock = some Wa.drew.heap.size))
       case first => as_aux_lemma =>
        refine wp_region_noPanic ?_
        refine wp_region_held_drew (S := Sa) (by kernel_rfl) HS0a.o (fun hh => ?_)
        clear hh
        refine tk 0 ⟨some 89, .fieldAddr 24 (.tmp 10) 1, _, _, _, none⟩ (v := ?_) rfl HS0a.o ?_ ?_
        rotate_left
        ·intro w' hSw; rw [HSSa.o] at hSw; go_simp; try with_reducible rfl
        try simp only [Act.put, L0q, L0x, L0y]
        refine tk 1 ⟨some 90, .load 3 (.tmp 89), _, _, _, none⟩ (v := ?_) rfl HS0a.o ?_ ?_
        rotate_left
        ·intro w' hSw; rw [HSSa.o] at hSw; go_simp; try with_reducible rfl
        try simp only [Act.put, L0q, L0x, L0y]
        refine tk 2 ⟨some 91, .fieldAddr 24 (.tmp 10) 1, _, _, _, none⟩ (v := ?_) rfl HS0a.o ?_ ?_
        rotate_left
        ·intro w' hSw; rw [HSSa.o] at hSw; go_simp; try with_reducible rfl
        try simp only [Act.put, L0q, L0x, L0y]
        refine tk 3 ⟨some 92, .load 3 (.tmp 91), _, _, _, none⟩ (v := ?_) rfl HS0a.o ?_ ?_
        rotate_left
        ·intro w' hSw; rw [HSSa.o] at hSw; go_simp; try with_reducible rfl
        try simp only [Act.put, L0q, L0x, L0y]
        refine tk 4 ⟨some 93, .indexAddr 91 (.tmp 5) (.tmp 92), _, _, _, none⟩ (v := ?_) rfl HS0a.o ?_ ?_
        rotate_left
        ·intro w' hSw; rw [HSSa.o] at hSw; go_simp; try with_reducible rfl
        try simp only [Act.put, L0q, L0x, L0y]
        refine tk 5 ⟨some 94, .fieldAddr 48 (.tmp 93) 0, _, _, _, none⟩ (v := ?_) rfl HS0a.o ?_ ?_
        rotate_left
        ·intro w' hSw; rw [HSSa.o] at hSw; go_simp; try with_reducible rfl
        try simp only [Act.put, L0q, L0x, L0y]
        refine tk 7 ⟨some 96, .load 24 (.tmp 10), _, _, _, none⟩ (v := ?_) rfl HS0a.o ?_ ?_
        rotate_left
        ·intro w' hSw; rw [HSSa.o] at hSw; go_simp; try with_reducible rfl
        try simp only [Act.put, L0q, L0x, L0y]
        refine wpAnyH_ready (rs := [6, 8]) (by kernel_rfl) (by simp) ?_
        refine AllReadyH.cons (o := ⟨some 95, .load 44 (.tmp 94), _, _, _, none⟩) rfl (fun K hK => ?_) (AllReadyH.cons (o := ⟨some 97, .buildSlice 44 1 #[(0, .tmp 96)], _, _, _, none⟩) rfl (fun K hK => ?_) AllReadyH.nil)
        go_simp
        refine hK.out _ _ HS0a.o (fun hh => ?_)
        clear hK K hh
        try simp only [Act.put, L0q, L0x, L0y]
        refine wpAnyH_ready (rs := [8]) (by kernel_rfl) (by simp) ?_
        refine AllReadyH.cons (o := ⟨some 97, .buildSlice 44 1 #[(0, .tmp 96)], _, _, _, none⟩) rfl (fun K hK => ?_) AllReadyH.nil
        refine Z21 Tryz.underlying44 Y59 (by decide) (by decide) rfl (.tmp 96) rfl [.int .i64 a.kind, .int .i64 (j : Int), sq a.name, sq a.text, .slice I a.inp.length ic] rfl rfl Wa.drew (by rw [<- ea]; rfl) ?_
        refine hK.out _ _ HS1a.o (fun hh => ?_)
        clear hK K hh
        try simp only [Act.put, L0q, L0x, L0y]
        rotate_left
        refine Z21 Tryz.underlying44 Y59 (by decide) (by decide) rfl (.tmp 96) rfl [.int .i64 a.kind, .int .i64 (j : Int), sq a.name, sq a.text, .slice I a.inp.length ic] rfl rfl Wa.drew (by rw [<- ea]; rfl) ?_
        refine hK.out _ _ HS1a.o (fun hh => ?_)
        clear hK K hh
        try simp only [Act.put, L0q, L0x, L0y]
        refine wpAnyH_ready (rs := [6]) (by kernel_rfl) (by simp) ?_
        refine AllReadyH.cons (o := ⟨some 95, .load 44 (.tmp 94), _, _, _, none⟩) rfl (fun K hK => ?_) AllReadyH.nil
        go_simp
        refine hK.out _ _ HS1a.o (fun hh => ?_)
        clear hK K hh
        try simp only [Act.put, L0q, L0x, L0y]
        all_goals
         refine wpAnyH_ready (rs := [9]) (by kernel_rfl) (by simp) ?_
         refine AllReadyH.cons (o := ⟨some 98, .call { callee := .builtin .append, args := #[.tmp 95, .tmp 97], argTypes := #[44, 44] }, _, _, _, none⟩) rfl (fun K hK => ?_) AllReadyH.nil
         (refine Z3c (R := rAcn) (x := a) X3c rfl (.tmp 95) (.tmp 97) rfl rfl (by exact HOa.o) (zn W8.heap.size 0) 1 [.int .i64 a.kind, .int .i64 (j : Int), sq a.name, sq a.text, .slice I a.inp.length ic] rfl (by exact HLa.o) (by exact HTa.o) (by exact HNa.o) (by exact HBYa.o) (by exact HWa.o) ?_; intro v10 wn ho10 hg10 hv10; replace hg10 : Wa.drew.grownBy wn (Value.slice Ua (d j).acts.length na).ownBlock := hg10; replace hv10 : v10.ownBlock = (Value.slice Ua (d j).acts.length na).ownBlock \/ v10.ownBlock = some Wa.drew.heap.size := hv10; obtain ⟨Ax, cx, ex⟩ := ho10.value; rw [show ((d j).acts ++ [a]).length = (d j).acts.length + 1 by simp] at ex; subst ex; obtain ⟨cy, fy⟩ := HALa.o wn hg10; have HP := L0 ho10; have HG := L0 hg10; have HV := L0 hv10; clear ho10 hg10 hv10)
         refine hK.out _ _ (HS2a.o _ HG.o) (fun hh => ?_)
         clear hK K hh
         try simp only [Act.put, L0q, L0x, L0y]
         refine tk 10 ⟨some 99, .indexAddr 91 (.tmp 5) (.tmp 90), _, _, _, none⟩ (v := ?_) rfl (HS2a.o _ HG.o) ?_ ?_
         rotate_left
         ·intro w' hSw; rw [HSSa.o] at hSw; go_simp; try with_reducible rfl
         try simp only [Act.put, L0q, L0x, L0y]
         refine tk 11 ⟨some 100, .fieldAddr 48 (.tmp 99) 0, _, _, _, none⟩ (v := ?_) rfl (HS2a.o _ HG.o) ?_ ?_
         rotate_left
         ·intro w' hSw; rw [HSSa.o] at hSw; go_simp; try with_reducible rfl
         try simp only [Act.put, L0q, L0x, L0y]
         refine wpAnyH_ready (rs := [12]) (by kernel_rfl) (by simp) ?_
         refine AllReadyH.cons (o := ⟨none, .store 44 (.tmp 100) (.tmp 98), _, _, _, none⟩) rfl (fun K hK => ?_) AllReadyH.nil
         go_simp
         refine hK.out _ _ (HS3a.o _ _ HG.o) (fun hh => ?_)
         clear hK K hh
         try simp only [Act.put, L0q, L0x, L0y]
         refine wpAnyH_done (by kernel_rfl) ?_ _
         refine NoPanic.normal ?_
         go_wp2
         go_meet
         exact ⟨Ax, cx, wn, rfl, HP, HG, HV⟩
       obtain ⟨Aan, can, wan, rfl, HPa, HGa, HVa⟩ := hcut
       have HQa := L0 (HDa.o.putA HLW.o HPW.o (L0g _) hj4 (by rw [hua]; exact HGa.o) (fun g hg => by rw [hua]; rcases HVa.o with h | h; exact .inl (h ▸ hg); exact .inr (by rw [h] at hg; exact (L0s hg).symm)) HPa.o)
       obtain ⟨W11, e11, HS11, HK11⟩ : ∃ W11, wan.setCell (zn w.heap.size (j * 2)) (.slice Aan ((d j).acts.length + 1) can) = W11 /\ Hid (SInv w W11 w.heap.size sb C2 T2 R9 (upd s (j * 2) (.slice Aan ((d j).acts.length + 1) can)) s1 (fun i => if i = j then ⟨(d j).acts ++ [a], (d i).reps⟩ else d i)) /\ Hid (Keeps (fun q => wr.heap.size <= q \/ R9 q) W8 W11) := by
        refine ⟨_, rfl, HQa, L0 (Keeps.trans (w' := wan) (Keeps.trans (w' := Wa.drew) (.of_below HBa.o) (.grown HGa.o fun g hg h => ?_)) (.grown (Z0b [.slice Aan ((d j).acts.length + 1) can] (j * 2)) fun g hg h => ?_))⟩
        ·rcases h with h | h
         ·have := HEa.o.2 g hg; omega
         obtain ⟨_, _, k2, _⟩ := HOa.o
         exact k2 g hg h
        injection hg with hg
        subst hg
        rcases h with h | h
        ·have := HNB.o; omega
        exact HS9.o.now.nr h
       rw [e11]
       obtain ⟨y0, y1, y2, y3, y4⟩ := HYY.o
       obtain ⟨y0, y1, y2, y3, y4⟩ := Z7t HK11.o (.inl (by have := HSZ.o; omega)) y0 y1 y2 y3 y4
       replace b1 := HK11.o.cell (a := (zn wr.heap.size 1)) (.inl (L0g _)) b1
       clear e11 cxa fxa cwa fwa ea b0 b2 b3 b4 x0 x1 x2 x3 x4 x5 x6 HQa HPa HGa HVa
       obtain ⟨d1, hd1⟩ : ∃ d1, (fun i => if i = j then (⟨(d j).acts ++ [a], (d i).reps⟩ : Did) else d i) = d1 := ⟨_, rfl⟩
       rw [hd1] at HS11
       have HRP : Hid ((d1 j).reps = (d j).reps) := L0 (by rw [<- hd1]; simp)
       have HRB1 : Hid (rRep.rel W11 R9 [.int .i64 r1.code, .int .i64 r1.n, sq r1.text, .slice A2 r1.ans.length p2, .slice B2 r1.at'.length q2] r1) := L0 (rRep.keep HRB.o fun q hq hl => HK11.o q (.inr hq) hl)
       obtain ⟨s11, hs11⟩ : ∃ s11, upd s (j * 2) (.slice Aan ((d j).acts.length + 1) can) = s11 := ⟨_, rfl⟩
       rw [hs11] at HS11
       have HROWr : Hid (∀ i, i < 8 -> i = j * 2 + 1 -> ∀ g, (s11 i).ownBlock = some g -> g < wr.heap.size) := L0 fun i hi hij g hg => HROW.o i hi g (by rw [<- hs11, Z7p (by omega)] at hg; exact hg)
       have HBYr : Hid (((d1 j).reps.length + 1) * rRep.bytes <= 140737488355328) := L0 (by rw [HRP.o]; have := HLN.o; simp only [rRep]; omega)
       obtain ⟨Wr, er, HBr, HNr, HZr⟩ : ∃ Wr, W11.alloc (.cells #[.int .i64 r1.code, .int .i64 r1.n, sq r1.text, .slice A2 r1.ans.length p2, .slice B2 r1.at'.length q2] 30) = Wr /\ Hid (Bw W11 Wr.drew) /\ Hid (∀ i u, [Value.int .i64 r1.code, .int .i64 r1.n, sq r1.text, .slice A2 r1.ans.length p2, .slice B2 r1.at'.length q2][i]? = some u -> Wr.drew.cell? (((zn W11.heap.size 0) : Addr).add i) = some u) /\ Hid (Wr.heap.size = W11.heap.size + 1) :=
        ⟨_, rfl, L0 (bA.trans ⟨rfl, rfl, rfl, L0g _, fun _ _ => rfl⟩), L0 (Z6q W11 [.int .i64 r1.code, .int .i64 r1.n, sq r1.text, .slice A2 r1.ans.length p2, .slice B2 r1.at'.length q2] 30), L0 (by simp)⟩
       have HDr := L0 (HS11.o.below HBr.o)
       obtain ⟨Ur, nr, hur⟩ := (HDr.o.now.reps j hj4).self.value
       have HOr : Hid (OwnS rRep 30 Wr.drew w.heap.size R9 (.slice Ur (d1 j).reps.length nr) (d1 j).reps) := L0 (by have := HDr.o.now.reps j hj4; rw [hur] at this; exact this)
       have HLr : Hid (rRep.rel Wr.drew R9 [.int .i64 r1.code, .int .i64 r1.n, sq r1.text, .slice A2 r1.ans.length p2, .slice B2 r1.at'.length q2] r1) := L0 (jA HRB1.o HBr.o)
       have HTr : Hid (∀ q, R9 q -> q < Wr.drew.heap.size) := L0 fun q hq => HDr.o.lt (.inl hq)
       have HWr : Hid (w.heap.size <= Wr.drew.heap.size) := L0 HDr.o.sto.bl.size
       have HEr : Hid ((Value.slice Ur (d1 j).reps.length nr).ownBlock ≠ some w.heap.size /\ ∀ g, (Value.slice Ur (d1 j).reps.length nr).ownBlock = some g -> g < wr.heap.size) := L0 (by have h1 := HDr.o.now.ne (j * 2 + 1) (by omega); rw [hur] at h1; exact ⟨h1, fun g hg => HROWr.o (j * 2 + 1) (by omega) rfl g (by rw [hur]; exact hg)⟩)
       have cwr : W11.cell? (zn w.heap.size (j * 2 + 1)) = some (.slice Ur (d1 j).reps.length nr) := by rw [HS11.o.now.cell (j * 2 + 1) (by omega), hur]
       have fwr := HS11.o.now.frz (j * 2 + 1)
       have cxr : Wr.cell? (zn w.heap.size (j * 2 + 1)) = some (.slice Ur (d1 j).reps.length nr) := (HBr.o.ce (j * 2 + 1) HS11.o.now.lt).trans cwr
       have fxr : Wr.frozen? (zn w.heap.size (j * 2 + 1)) = false := (HBr.o.fr (j * 2 + 1) HS11.o.now.lt).trans fwr
       have HNEr : Hid (∀ q, wr.heap.size <= q -> (Value.slice Ur (d1 j).reps.length nr).ownBlock ≠ some q) := L0 fun q hq e => by have := HEr.o.2 q e; omega
       have HALr : Hid (∀ wn, Wr.drew.grownBy wn (Value.slice Ur (d1 j).reps.length nr).ownBlock -> wn.cell? (zn w.heap.size (j * 2 + 1)) = some (.slice Ur (d1 j).reps.length nr) /\ wn.frozen? (zn w.heap.size (j * 2 + 1)) = false) := L0 fun wn hg => ⟨hg.cell (show Wr.drew.cell? (zn w.heap.size (j * 2 + 1)) = _ from cxr) (fun e => HEr.o.1 e.symm), (L1a (hg.block w.heap.size HDr.o.now.lt (fun e => HEr.o.1 e.symm))).trans (show Wr.drew.frozen? (zn w.heap.size (j * 2 + 1)) = false from fxr)⟩
       obtain ⟨Sr, hsr⟩ : ∃ S' : World -> Prop, S' = fun w' => w'.cell? (zn wr.heap.size 1) = some (.int .i64 (j : Int)) /\ w'.cell? (zn v7.heap.size 0) = some (.int .i64 r1.code) /\ w'.cell? (zn v7.heap.size 1) = some (.int .i64 r1.n) /\ w'.cell? (zn v7.heap.size 2) = some (sq r1.text) /\ w'.cell? (zn v7.heap.size 3) = some (.slice A2 r1.ans.length p2) /\ w'.cell? (zn v7.heap.size 4) = some (.slice B2 r1.at'.length q2) := ⟨_, rfl⟩
       have HS0r : Hid (Sr W11.drew) := L0 (by rw [hsr]; exact ⟨(show W11.cell? (zn wr.heap.size 1) = _ from b1), (show W11.cell? (zn v7.heap.size 0) = _ from y0), (show W11.cell? (zn v7.heap.size 1) = _ from y1), (show W11.cell? (zn v7.heap.size 2) = _ from y2), (show W11.cell? (zn v7.heap.size 3) = _ from y3), (show W11.cell? (zn v7.heap.size 4) = _ from y4)⟩)
       have HS1r : Hid (Sr Wr.drew) := L0 (by rw [hsr]; exact ⟨(HBr.o.ce 1 (L0d _ _ b1)).trans b1, (HBr.o.ce 0 (L0d _ _ y0)).trans y0, (HBr.o.ce 1 (L0d _ _ y1)).trans y1, (HBr.o.ce 2 (L0d _ _ y2)).trans y2, (HBr.o.ce 3 (L0d _ _ y3)).trans y3, (HBr.o.ce 4 (L0d _ _ y4)).trans y4⟩)
       have HS2r : Hid (∀ wn, Wr.drew.grownBy wn (Value.slice Ur (d1 j).reps.length nr).ownBlock -> Sr wn) := L0 fun wn hg => by have h1 := HS1r.o; rw [hsr] at h1 ⊢; obtain ⟨s0, s1, s2, s3, s4, s5⟩ := h1; exact ⟨hg.cell s0 (fun e => HNEr.o wr.heap.size (L0g _) e.symm), hg.cell s1 (fun e => HNEr.o v7.heap.size (by have := HSZ.o; omega) e.symm), hg.cell s2 (fun e => HNEr.o v7.heap.size (by have := HSZ.o; omega) e.symm), hg.cell s3 (fun e => HNEr.o v7.heap.size (by have := HSZ.o; omega) e.symm), hg.cell s4 (fun e => HNEr.o v7.heap.size (by have := HSZ.o; omega) e.symm), hg.cell s5 (fun e => HNEr.o v7.heap.size (by have := HSZ.o; omega) e.symm)⟩
       have HS3r : Hid (∀ wn u, Wr.drew.grownBy wn (Value.slice Ur (d1 j).reps.length nr).ownBlock -> Sr (wn.setCell (zn w.heap.size (j * 2 + 1)) u)) := L0 fun wn u hg => by have h1 := HS2r.o wn hg; rw [hsr] at h1 ⊢; obtain ⟨s0, s1, s2, s3, s4, s5⟩ := h1; exact ⟨(L0a _ _ _ _ (by have := HNB.o; have := HSZ.o; simp; try omega)).trans s0, (L0a _ _ _ _ (by have := HNB.o; have := HSZ.o; simp; try omega)).trans s1, (L0a _ _ _ _ (by have := HNB.o; have := HSZ.o; simp; try omega)).trans s2, (L0a _ _ _ _ (by have := HNB.o; have := HSZ.o; simp; try omega)).trans s3, (L0a _ _ _ _ (by have := HNB.o; have := HSZ.o; simp; try omega)).trans s4, (L0a _ _ _ _ (by have := HNB.o; have := HSZ.o; simp; try omega)).trans s5⟩
       have HSSr := L0 hsr
       clear hsr
       go_upto_region 19 with fail
       have HEND : Hid (∀ (Ax : Option Addr) (cx : Nat) (wn : World), OwnS rRep 30 wn w.heap.size R9 (.slice Ax ((d1 j).reps.length + 1) cx) ((d1 j).reps ++ [r1]) -> Wr.drew.grownBy wn (Value.slice Ur (d1 j).reps.length nr).ownBlock -> ((Value.slice Ax ((d1 j).reps.length + 1) cx).ownBlock = (Value.slice Ur (d1 j).reps.length nr).ownBlock \/ (Value.slice Ax ((d1 j).reps.length + 1) cx).ownBlock = some Wr.drew.heap.size) -> ∃ s9, Hid (SInv w (wn.setCell (zn w.heap.size (j * 2 + 1)) (.slice Ax ((d1 j).reps.length + 1) cx)) w.heap.size sb C2 T2 R9 s9 (Z0x l (k + 1)) (Z3k l (k + 1)))) := L0 fun Ax cx wn ho hg hv => ⟨_, L0 (by
        have h := HDr.o.putR HLW.o HPW.o (L0g _) hj4 (by rw [hur]; exact hg) (fun g hgg => by rw [hur]; rcases hv with h | h; exact .inl (h ▸ hgg); exact .inr (by rw [h] at hgg; exact (L0s hgg).symm)) ho
        rw [HNX.o.1, HADD.o]
        refine X4f h ?_
        rw [<- hd1]
        funext i
        by_cases hi : i = j
        ·subst hi; simp [Did.add]
        simp [hi])⟩
       refine wp_region_noPanic ?_
       refine wp_region_held_drew (S := Sr) (by kernel_rfl) HS0r.o (fun hh => ?_)
       clear hh
       refine tk 0 ⟨some 101, .fieldAddr 24 (.tmp 10) 1, _, _, _, none⟩ (v := ?_) rfl HS0r.o ?_ ?_
       rotate_left
       ·intro w' hSw; rw [HSSr.o] at hSw; go_simp; try with_reducible rfl
       try simp only [Act.put, L0q, L0x, L0y]
       refine tk 1 ⟨some 102, .load 3 (.tmp 101), _, _, _, none⟩ (v := ?_) rfl HS0r.o ?_ ?_
       rotate_left
       ·intro w' hSw; rw [HSSr.o] at hSw; go_simp; try with_reducible rfl
       try simp only [Act.put, L0q, L0x, L0y]
       refine tk 2 ⟨some 103, .fieldAddr 24 (.tmp 10) 1, _, _, _, none⟩ (v := ?_) rfl HS0r.o ?_ ?_
       rotate_left
       ·intro w' hSw; rw [HSSr.o] at hSw; go_simp; try with_reducible rfl
       try simp only [Act.put, L0q, L0x, L0y]
       refine tk 3 ⟨some 104, .load 3 (.tmp 103), _, _, _, none⟩ (v := ?_) rfl HS0r.o ?_ ?_
       rotate_left
       ·intro w' hSw; rw [HSSr.o] at hSw; go_simp; try with_reducible rfl
       try simp only [Act.put, L0q, L0x, L0y]
       refine tk 4 ⟨some 105, .indexAddr 91 (.tmp 5) (.tmp 104), _, _, _, none⟩ (v := ?_) rfl HS0r.o ?_ ?_
       rotate_left
       ·intro w' hSw; rw [HSSr.o] at hSw; go_simp; try with_reducible rfl
       try simp only [Act.put, L0q, L0x, L0y]
       refine tk 5 ⟨some 106, .fieldAddr 48 (.tmp 105) 1, _, _, _, none⟩ (v := ?_) rfl HS0r.o ?_ ?_
       rotate_left
       ·intro w' hSw; rw [HSSr.o] at hSw; go_simp; try with_reducible rfl
       try simp only [Act.put, L0q, L0x, L0y]
       refine tk 7 ⟨some 108, .load 30 (.tmp 13), _, _, _, none⟩ (v := ?_) rfl HS0r.o ?_ ?_
       rotate_left
       ·intro w' hSw; rw [HSSr.o] at hSw; go_simp; try with_reducible rfl
       try simp only [Act.put, L0q, L0x, L0y]
       refine wpAnyH_ready (rs := [6, 8]) (by kernel_rfl) (by simp) ?_
       refine AllReadyH.cons (o := ⟨some 107, .load 46 (.tmp 106), _, _, _, none⟩) rfl (fun K hK => ?_) (AllReadyH.cons (o := ⟨some 109, .buildSlice 46 1 #[(0, .tmp 108)], _, _, _, none⟩) rfl (fun K hK => ?_) AllReadyH.nil)
       go_simp
       refine hK.out _ _ HS0r.o (fun hh => ?_)
       clear hK K hh
       try simp only [Act.put, L0q, L0x, L0y]
       refine wpAnyH_ready (rs := [8]) (by kernel_rfl) (by simp) ?_
       refine AllReadyH.cons (o := ⟨some 109, .buildSlice 46 1 #[(0, .tmp 108)], _, _, _, none⟩) rfl (fun K hK => ?_) AllReadyH.nil
       refine Z21 Tryz.underlying46 Y6a (by decide) (by decide) rfl (.tmp 108) rfl [.int .i64 r1.code, .int .i64 r1.n, sq r1.text, .slice A2 r1.ans.length p2, .slice B2 r1.at'.length q2] rfl rfl Wr.drew (by rw [<- er]; rfl) ?_
       refine hK.out _ _ HS1r.o (fun hh => ?_)
       clear hK K hh
       try simp only [Act.put, L0q, L0x, L0y]
       rotate_left
       refine Z21 Tryz.underlying46 Y6a (by decide) (by decide) rfl (.tmp 108) rfl [.int .i64 r1.code, .int .i64 r1.n, sq r1.text, .slice A2 r1.ans.length p2, .slice B2 r1.at'.length q2] rfl rfl Wr.drew (by rw [<- er]; rfl) ?_
       refine hK.out _ _ HS1r.o (fun hh => ?_)
       clear hK K hh
       try simp only [Act.put, L0q, L0x, L0y]
       refine wpAnyH_ready (rs := [6]) (by kernel_rfl) (by simp) ?_
       refine AllReadyH.cons (o := ⟨some 107, .load 46 (.tmp 106), _, _, _, none⟩) rfl (fun K hK => ?_) AllReadyH.nil
       go_simp
       refine hK.out _ _ HS1r.o (fun hh => ?_)
       clear hK K hh
       try simp only [Act.put, L0q, L0x, L0y]
       all_goals
        refine wpAnyH_ready (rs := [9]) (by kernel_rfl) (by simp) ?_
        refine AllReadyH.cons (o := ⟨some 110, .call { callee := .builtin .append, args := #[.tmp 107, .tmp 109], argTypes := #[46, 46] }, _, _, _, none⟩) rfl (fun K hK => ?_) AllReadyH.nil
        (refine Z3c (R := rRep) (x := r1) X3d rfl (.tmp 107) (.tmp 109) rfl rfl (by exact HOr.o) (zn W11.heap.size 0) 1 [.int .i64 r1.code, .int .i64 r1.n, sq r1.text, .slice A2 r1.ans.length p2, .slice B2 r1.at'.length q2] rfl (by exact HLr.o) (by exact HTr.o) (by exact HNr.o) (by exact HBYr.o) (by exact HWr.o) ?_; intro v10 wn ho10 hg10 hv10; replace hg10 : Wr.drew.grownBy wn (Value.slice Ur (d1 j).reps.length nr).ownBlock := hg10; replace hv10 : v10.ownBlock = (Value.slice Ur (d1 j).reps.length nr).ownBlock \/ v10.ownBlock = some Wr.drew.heap.size := hv10; obtain ⟨Ax, cx, ex⟩ := ho10.value; rw [show ((d1 j).reps ++ [r1]).length = (d1 j).reps.length + 1 by simp] at ex; subst ex; obtain ⟨cy, fy⟩ := HALr.o wn hg10; have HP := L0 ho10; have HG := L0 hg10; have HV := L0 hv10; clear ho10 hg10 hv10)
        refine hK.out _ _ (HS2r.o _ HG.o) (fun hh => ?_)
        clear hK K hh
        try simp only [Act.put, L0q, L0x, L0y]
        refine tk 10 ⟨some 111, .indexAddr 91 (.tmp 5) (.tmp 102), _, _, _, none⟩ (v := ?_) rfl (HS2r.o _ HG.o) ?_ ?_
        rotate_left
        ·intro w' hSw; rw [HSSr.o] at hSw; go_simp; try with_reducible rfl
        try simp only [Act.put, L0q, L0x, L0y]
        refine tk 11 ⟨some 112, .fieldAddr 48 (.tmp 111) 1, _, _, _, none⟩ (v := ?_) rfl (HS2r.o _ HG.o) ?_ ?_
        rotate_left
        ·intro w' hSw; rw [HSSr.o] at hSw; go_simp; try with_reducible rfl
        try simp only [Act.put, L0q, L0x, L0y]
        refine wpAnyH_ready (rs := [12]) (by kernel_rfl) (by simp) ?_
        refine AllReadyH.cons (o := ⟨none, .store 46 (.tmp 112) (.tmp 110), _, _, _, none⟩) rfl (fun K hK => ?_) AllReadyH.nil
        go_simp
        refine hK.out _ _ (HS3r.o _ _ HG.o) (fun hh => ?_)
        clear hK K hh
        try simp only [Act.put, L0q, L0x, L0y]
        refine wpAnyH_done (by kernel_rfl) ?_ _
        refine NoPanic.normal ?_
        obtain ⟨s9, HS⟩ := HEND.o _ _ _ HP.o HG.o HV.o
        go_wp2
        go_roundw
        exact ⟨k + 1, C2, T2, R9, s9, by go_num, hlt, h50, HS⟩
        simp [intOf]; omega
     obtain ⟨t1, t2, t3, t6⟩ := Y49 hkd
     have hop2 : x.opn = false := by simpa using hop
     rw [hop2] at x0
     go_wp2
     go_roundw
     exact ⟨k + 1, C2, T2, R, s, by go_num, hlt, h50, L0 (by rw [HNX.o.1, HNX.o.2, Z1x (fun h => by omega) (fun h => by obtain ⟨j3, h3, _, h5⟩ := isOpen_at.1 h.2.2; rw [HJ.o] at h3; obtain rfl : j = j3 := (by omega); rw [HXX.o] at h5; exact hop h5)]; exact HS8.o)⟩
     simp [intOf]; omega
    ·by_cases hc0 : r1.code = 0
     ·by_cases hop : x.opn = true
      ·as_aux_lemma =>
        obtain ⟨t1, t2, t3, t6⟩ := Z9t hkd
        have tc : (r1.code == 0) = true := by rw [hc0]; rfl
        rw [hop] at x0
        have HOP : Hid (((Z0x l k).ses j).opn = true) := L0 (by rw [HXX.o]; exact hop)
        obtain ⟨f, hf1, hf2⟩ := (HI.o.sto.ok.ses j).fr HOP.o
        rw [HXX.o] at hf1
        rw [HM.o] at hf2
        have HE8 : Hid (Elems rBk W8 (fun q => q < W8.heap.size) A1 (Z0x l k).states) := L0 ((HE1.o.keep fun q hq hl => HK.o q (HQC.o q (hq.elim False.elim fun h => by have := HZ5.o; omega)) hl).mono fun q _ h => h)
        obtain ⟨q1, o1, f1, D1, d1, F1, f1c, rfl, hq1, hx1, hrf, g0, g1⟩ := HE8.o.bk (i := f) (by rw [HM.o]; omega)
        obtain ⟨q2, o2, f2, D2, d2, F2, f2c, e2, hq2, hx2, hrl, h0, h1⟩ := HE8.o.bk (i := m) (by rw [HM.o]; omega)
        simp only [L3j, Addr.mk.injEq, and_true] at e2
        obtain ⟨rfl, rfl⟩ := e2
        have hUa := (HS8.o.now.acts j hj4).self.value
        obtain ⟨Ua, ua, hua⟩ := hUa
        have hUr := (HS8.o.now.reps j hj4).self.value
        obtain ⟨Ur, ur, hur⟩ := hUr
        have u0 := HS8.o.now.cell (j * 2) (by omega)
        have u1 := HS8.o.now.cell (j * 2 + 1) (by omega)
        rw [hua] at u0
        rw [hur] at u1
        rw [hf1] at x2
        have HEN : Hid (X2v x (Z3k l k j) f1 f2) := L0 ⟨Z0x l k, Z3k l k, j, a, HI.o.sto.ok, Y8z l k (by omega) hk, hj4, HOP.o, by have := Z6s l k hk (by omega); omega, hkd, HJ.o, by rw [HR1.o]; exact hc0, HXX.o.symm, rfl, by rw [HXX.o]; unfold Sto.at; rw [hf1, L1q, hx1]; rfl, by rw [HM.o, L4v, hx2]; rfl⟩
        have HRD : Hid (rDid.rel W8 (fun q => q < W8.heap.size) [.slice Ua (Z3k l k j).acts.length ua, .slice Ur (Z3k l k j).reps.length ur] (Z3k l k j)) := L0 (by have := HS8.o.now.did hj4; rw [hua, hur] at this; exact this)
        have HXF : Hid (rSes.rel W8 (fun q => q < W8.heap.size) [.bool true, .bool x.strict, .int .i64 f, .slice D x.mine.doms.length dc, .slice B x.mine.tabs.length bc, .slice G x.gone.length gc, .slice Q x.read.length qc] x) := L0 (by have := rSes.mono HXR.o (S' := fun q => q < W8.heap.size) fun q _ h => h; rw [hop, hf1] at this; exact this)
        have HRF := L0 hrf
        have HRL := L0 hrl
        have HLB : Hid (∀ w', Bw W8 w' -> LibW w' /\ PolW w') := L0 fun w' hb => ⟨HLW.o.below (HS8.o.sto.bl.trans (hb.mono HS8.o.sto.bl.size)), HPW.o.below (HS8.o.sto.bl.trans (hb.mono HS8.o.sto.bl.size))⟩
        have HQ := L0 fun w' (hb : Bw W8 w') => X2y w' hop hf1 (jA HXF.o hb) (jA HRD.o hb) (jA HRF.o hb) (jA HRL.o hb) HEN.o (HLB.o w' hb).1 (HLB.o w' hb).2
        have hd1 : decide ((f : Int) < 0) = false := decide_eq_false (by omega)
        have hd2 : decide ((m : Int) + 1 <= (f : Int)) = false := decide_eq_false (by omega)
        have hf0 : (0 : Int) <= f := by omega
        have hfm : (f : Int) < m + 1 := by omega
        have hmw : IntKind.i64.wrap ((m : Int) + 1 - 1) = (m : Int) := by rw [IntKind.wrap_i64]; omega
        have hz0 : IntKind.i64.wrap (m : Int) = m := IntWalk.i64_in _ (by omega)
        have hm0 : (0 : Int) <= m := by omega
        have hmm : (m : Int) < m + 1 := by omega
        have hz1 : (0 : Int) <= m + 1 - 1 := by omega
        have hz2 : (m : Int) + 1 - 1 < (m : Int) + 1 := by omega
        have hz3 : ((m : Int) + 1 - 1).toNat = m := by omega
        have hNw : w.heap.size < W8.heap.size := HS8.o.now.lt
        have hbw : wr.heap.size < W8.heap.size := L0d _ _ b1
        have hxw : wr.heap.size + 1 < W8.heap.size := L0d _ _ x0
        clear hf1 hf2 hx1 hx2 hrf hrl hua hur hm b2 b3 b4
        go_upto_region 21 with fail
        refine wp_region_quiet_below (by kernel_rfl) (by kernel_rfl) ?_
        repeat (go_big_quiet_step (with_reducible exact Calls.inBelow HQ.o _ _))
        refine wpQuiet_nil ?_
        intro _ hw'
        obtain ⟨⟨dq, osq⟩, hw''⟩ := hw'
        subst hw''
        go_wp2
        go_roundw
        exact ⟨k + 1, C2, T2, R, s, by go_num, hlt, h50, L0 (by rw [HNX.o.1, HNX.o.2, Z1x (fun h => by omega) (fun h => by omega)]; exact HS8.o.below (below_regrown _ _ _))⟩
        simp [intOf]; omega
      obtain ⟨t1, t2, t3, t6⟩ := Z9t hkd
      have tc : (r1.code == 0) = true := by rw [hc0]; rfl
      have hop2 : x.opn = false := by simpa using hop
      rw [hop2] at x0
      go_wp2
      go_roundw
      exact ⟨k + 1, C2, T2, R, s, by go_num, hlt, h50, L0 (by rw [HNX.o.1, HNX.o.2, Z1x (fun h => by omega) (fun h => by omega)]; exact HS8.o)⟩
      simp [intOf]; omega
     obtain ⟨t1, t2, t3, t6⟩ := Z9t hkd
     have tc : (r1.code == 0) = false := beq_eq_false_iff_ne.2 hc0
     go_wp2
     go_roundw
     exact ⟨k + 1, C2, T2, R, s, by go_num, hlt, h50, L0 (by rw [HNX.o.1, HNX.o.2, Z1x (fun h => by omega) (fun h => by omega)]; exact HS8.o)⟩
     simp [intOf]; omega
    obtain ⟨t1, t2, t3, t6⟩ := Y83 hkd
    go_wp2
    go_roundw
    exact ⟨k + 1, C2, T2, R, s, by go_num, hlt, h50, L0 (by rw [HNX.o.1, HNX.o.2, Z1x (fun h => by omega) (fun h => by omega)]; exact HS8.o)⟩
    simp [intOf]; omega
   as_aux_lemma =>
    obtain ⟨x, hxx⟩ : ∃ x, ses0 = x := ⟨_, rfl⟩
    have HXX := L0 hxx
    obtain ⟨W5, e2, HB5, HX5, HF2, HZ5', j0, j1, j2, j3, j4⟩ := X2b wr (.int .i64 a.kind) (.int .i64 a.n) (sq a.name) (sq a.text) (.slice I a.inp.length ic)
    have HZ5 : Hid (wr.heap.size + 2 <= W5.heap.size) := L0 (Nat.le_of_eq HZ5'.o.symm)
    have HR5 : Hid (rAcn.rel W5 S [.int .i64 a.kind, .int .i64 a.n, sq a.name, sq a.text, .slice I a.inp.length ic] a) := L0 (jA hr HB5.o)
    have HS5 := L0 (HI.o.below HB5.o)
    obtain ⟨RX, hRX⟩ : ∃ RX : Nat -> Prop, RX = fun _ => False := ⟨_, rfl⟩
    rw [hxx, <- hRX] at HX5
    have HQX : Hid (∀ q, RX q -> ¬ C q) := L0 fun q h => by rw [hRX] at h; exact h.elim
    clear hx hr hxx hRX HF2 HZ5'
    have hng : ¬ (0 : Int) <= a.n \/ ((0 : Int) <= a.n /\ ¬ a.n < 4) := by omega
    rcases hng with hng | ⟨hng, hng2⟩
    all_goals go_upto_region 13 with fail
    all_goals
     clear e2 g0 g1 g2 g3 g4
     obtain ⟨m, hm⟩ : ∃ m, (Z0x l k).states.length = m + 1 := ⟨(Z0x l k).states.length - 1, by have := HS5.o.sto.ok.ne; omega⟩
     have HM := L0 hm
     go_upto_region 14 with (first
      | (go_at_call 12; (with_reducible refine (Z7q W5 HS5.o.sto.sto).mono ?_); rintro e w6 ⟨u1, rfl, ho1, hb1⟩; obtain ⟨A1, c1, e1, _, _, hby1, hE1⟩ := rSl.elems (ho1.rel (by decide)); rw [HM.o] at e1 hby1; subst e1; have hml : m <= 2932031007402 := (by simp only [rBk] at hby1; omega); have HB6 := L0 hb1; have HE1 := L0 hE1; obtain ⟨k0, k1, k2, k3, k4⟩ := Z7t (Keeps.of_below (S := fun _ => True) hb1) trivial j0 j1 j2 j3 j4; clear ho1 hb1 hE1 hby1 j0 j1 j2 j3 j4))
     have HS6 := L0 (HS5.o.below HB6.o)
     have HR6 : Hid (rAcn.rel w6 S [.int .i64 a.kind, .int .i64 a.n, sq a.name, sq a.text, .slice I a.inp.length ic] a) := L0 (jA HR5.o HB6.o)
     have HNC : Hid (∀ p, S p -> p < w6.heap.size /\ ¬ C p) := L0 fun p hp => ⟨L0c (HS.o p hp) HS6.o.sto.bl.size, fun hc => by have := HS6.o.sto.cn p hc; have := HS.o p hp; omega⟩
     go_upto_region 15 with (first
      | (go_at_call 11; (with_reducible refine L4y (HS6.o.sto.act_at HH1.o HR6.o HNC.o) ?_); rintro e v7 ⟨A2, p2, B2, q2, C2, T2, rfl, hr2, hA2, hc2, hC2, hT2⟩; obtain ⟨W8, e8, HB8, y0, y1, y2, y3, y4, HZ8⟩ := X0v v7 (.int .i64 r1.code) (.int .i64 r1.n) (sq r1.text) (.slice A2 r1.ans.length p2) (.slice B2 r1.at'.length q2); have HS8 := L0 ((HS6.o.act hA2 hc2 hC2 hT2).below HB8.o); have HK : Hid (Keeps (fun p => ¬ C p) w6 W8) := L0 ((hc2.keeps fun _ h => h).trans (.of_below HB8.o)); have HRR : Hid (rRep.rel W8 (fun q => w6.heap.size <= q /\ ¬ C2 q /\ q < v7.heap.size) [.int .i64 r1.code, .int .i64 r1.n, sq r1.text, .slice A2 r1.ans.length p2, .slice B2 r1.at'.length q2] r1) := L0 (jA hr2 HB8.o); have HSZ : Hid (w6.heap.size <= v7.heap.size /\ W8.heap.size = v7.heap.size + 1 /\ wr.heap.size + 2 <= w6.heap.size) := L0 ⟨hc2.size, HZ8.o, L0h HZ5.o HB6.o.size⟩; clear hr2 hA2 hc2 hC2 hT2))
     obtain ⟨b0, b1, b2, b3, b4⟩ := Z7t HK.o (HQC.o wr.heap.size (L0g _)) k0 k1 k2 k3 k4
     have HX8 : Hid (SesAt W8 (wr.heap.size + 1) 0 RX x) := L0 (Y4d (HX5.o.below HB6.o) HK.o HQX.o (HQC.o _ (L1m _)))
     obtain ⟨D, dc, B, bc, G, gc, Q, qc, HXR, x0, x1, x2, x3, x4, x5, x6⟩ := Y0a HX8.o
     clear k0 k1 k2 k3 k4 e8
     have hop2 : x.opn = false := by rw [<- HXX.o]; rfl
     rw [hop2] at x0
     rcases (show a.kind = 1 \/ a.kind <= 0 \/ (1 < a.kind /\ a.kind < 6) \/ a.kind = 6 \/ 6 < a.kind by omega) with hkd | hkd | hkd | hkd | hkd
     ·have hc0 : r1.code ≠ 0 := fun h => by obtain ⟨_, _, _, h3, h4⟩ := Y52 (st := Z0x l k) hkd (by rw [HR1.o]; exact h); exact hin ⟨h3, h4⟩
      obtain ⟨t1, t2, t3, t6⟩ := Y5a hkd
      have tc : (r1.code == 0) = false := beq_eq_false_iff_ne.2 hc0
      go_wp2
      go_roundw
      exact ⟨k + 1, C2, T2, R, s, by go_num, hlt, h50, L0 (by rw [HNX.o.1, HNX.o.2, Z1x (fun h => hc0 (by rw [<- HR1.o]; exact h.2)) (fun h => by omega)]; exact HS8.o)⟩
      simp [intOf]; omega
     ·obtain ⟨t1, t2, t3, t6⟩ := Y82 hkd
      go_wp2
      go_roundw
      exact ⟨k + 1, C2, T2, R, s, by go_num, hlt, h50, L0 (by rw [HNX.o.1, HNX.o.2, Z1x (fun h => by omega) (fun h => by omega)]; exact HS8.o)⟩
      simp [intOf]; omega
     ·obtain ⟨t1, t2, t3, t6⟩ := Y49 hkd
      go_wp2
      go_roundw
      exact ⟨k + 1, C2, T2, R, s, by go_num, hlt, h50, L0 (by rw [HNX.o.1, HNX.o.2, Z1x (fun h => by omega) (fun h => by obtain ⟨j3, h3, h4, _⟩ := isOpen_at.1 h.2.2; exact hin ⟨by omega, by omega⟩)]; exact HS8.o)⟩
      simp [intOf]; omega
     ·by_cases hc0 : r1.code = 0
      ·obtain ⟨t1, t2, t3, t6⟩ := Z9t hkd
       have tc : (r1.code == 0) = true := by rw [hc0]; rfl
       go_wp2
       go_roundw
       exact ⟨k + 1, C2, T2, R, s, by go_num, hlt, h50, L0 (by rw [HNX.o.1, HNX.o.2, Z1x (fun h => by omega) (fun h => by omega)]; exact HS8.o)⟩
       simp [intOf]; omega
      obtain ⟨t1, t2, t3, t6⟩ := Z9t hkd
      have tc : (r1.code == 0) = false := beq_eq_false_iff_ne.2 hc0
      go_wp2
      go_roundw
      exact ⟨k + 1, C2, T2, R, s, by go_num, hlt, h50, L0 (by rw [HNX.o.1, HNX.o.2, Z1x (fun h => by omega) (fun h => by omega)]; exact HS8.o)⟩
      simp [intOf]; omega
     obtain ⟨t1, t2, t3, t6⟩ := Y83 hkd
     go_wp2
     go_roundw
     exact ⟨k + 1, C2, T2, R, s, by go_num, hlt, h50, L0 (by rw [HNX.o.1, HNX.o.2, Z1x (fun h => by omega) (fun h => by omega)]; exact HS8.o)⟩
     simp [intOf]; omega
  have hik5 : ¬ (k : Int) < 50 := by omega
  have hik : (k : Int) < l.length := by omega
  go_wp2
  go_ret
  exact ⟨rfl, HI.o.sto.bl⟩
 have hik : ¬ (k : Int) < l.length := by omega
 go_wp2
 go_ret
 exact ⟨rfl, HI.o.sto.bl⟩
theorem Y0h {S : Nat -> Prop} {lv : Value} {l : List Acn} (w : World) (hl : (rSl rAcn).rel w S [lv] l) (hS : ∀ q, S q -> q < w.heap.size) (hw : LibW w) (hp : PolW w) :
  Calls Tryz.prog 4 #[lv] w fun e w' => e = .returned (.bool true) /\ Bw w w' := by
 have HPC := L0 (Y2t w hl hS hw hp)
 clear hl hS hw hp
 go_enter Tryz.func4, Tryz.ntmps4
 go_wp2_with (go_at_call 15; ((with_reducible refine HPC.o.mono ?_); rintro e w1 ⟨rfl, hb⟩; have HB := L0 hb; clear hb))
 go_ret
 exact ⟨rfl, HB.o⟩
