import Derived.Test.YtlopccnehgolnacGreatDoorGJ49
namespace Go.Proofs.YtlopccnehgolnacGreatDoor
open Go.RowKit Rb
open Go.Lib renaming hid -> hI
open Nat renaming lt_of_lt_of_le -> nL
open Rd renaming below -> jA
set_option maxRecDepth 100000
set_option maxHeartbeats 6400000
theorem X0b {w0 w w' w'' : World} {sb gb : Nat} {C T D U : Nat -> Prop} {st sg : Sto} (h : At2 w0 w sb C T st gb D U sg) (hb : Below w.heap.size w w') (hb2 : Below w'.heap.size w' w'') : Below w0.heap.size w0 w'' :=
 (h.s.bl.trans (hb.mono h.s.bl.size)).trans (hb2.mono (Nat.le_trans h.s.bl.size hb.size))
theorem Y1g {S S2 : Nat -> Prop} {lv : Value} {l : List Acn} {as' : List Value} {a : Acn} (w : World) (hl : (rSl rAcn).rel w S [lv] l) (hS : ∀ q, S q -> q < w.heap.size) (ha : rAcn.rel w S2 as' a) (hS2 : ∀ q, S2 q -> q < w.heap.size) (hw : LibW w) (hp : PolW w) :
  Calls Tryz.prog 9 #[lv, .agg as'.toArray] w fun e w' => e = .returned (.bool true) /\ Below w.heap.size w w' := by
 obtain ⟨kd, n, nm, tx, ip⟩ := a
 have ha' := ha
 obtain ⟨u, rfl, hkd, hn, hnm, htx, hin⟩ := ha
 simp only at hkd hn hnm htx hin ha'
 obtain ⟨I, ic, rfl, _⟩ := rSl.elems hin
 obtain ⟨A, c, rfl, _, _, hby, _⟩ := rSl.elems hl
 have hln : l.length <= 1954687338432 := by simp only [rAcn] at hby; omega
 obtain ⟨W0, e0, HB0, HZ⟩ : ∃ W0, w.alloc (.cells #[.int .i64 kd, .int .i64 n, .string ⟨nm.toArray⟩, .string ⟨tx.toArray⟩, .slice I ip.length ic] 24) = W0 /\ Hid (Below w.heap.size w W0) /\ Hid (w.heap.size < W0.heap.size) := ⟨_, rfl, hI ((Below.refl _ _).alloc (Nat.le_refl _) _), hI (by simp)⟩; have c0 := ac0 e0; have c1 := ac1 e0; have c2 := ac2 e0; have c3 := ac3 e0; have c4 := ac4 e0
 have HOLD : Hid (∀ w', Below W0.heap.size W0 w' -> w'.cell? ⟨w.heap.size, 0, none⟩ = some (.int .i64 kd) /\ w'.cell? ⟨w.heap.size, 1, none⟩ = some (.int .i64 n) /\ w'.cell? ⟨w.heap.size, 2, none⟩ = some (.string ⟨nm.toArray⟩) /\ w'.cell? ⟨w.heap.size, 3, none⟩ = some (.string ⟨tx.toArray⟩) /\ w'.cell? ⟨w.heap.size, 4, none⟩ = some (.slice I ip.length ic) /\ w.heap.size < w'.heap.size) := hI fun w' hb =>
  ⟨(hb.cell (p := ⟨w.heap.size, 0, none⟩) HZ.out).trans c0, (hb.cell (p := ⟨w.heap.size, 1, none⟩) HZ.out).trans c1, (hb.cell (p := ⟨w.heap.size, 2, none⟩) HZ.out).trans c2, (hb.cell (p := ⟨w.heap.size, 3, none⟩) HZ.out).trans c3, (hb.cell (p := ⟨w.heap.size, 4, none⟩) HZ.out).trans c4, nL HZ.out hb.size⟩
 obtain ⟨st, hst⟩ : ∃ st, Y3g l = st := ⟨_, rfl⟩
 have HAC : Hid (st.acts = min l.length 50) := hI (by rw [<- hst]; exact Z9x l)
 have HL0 := hI (hw.below HB0.out)
 have HP0 := hI (hp.below HB0.out)
 have HLB : Hid (∀ w', Below W0.heap.size W0 w' -> LibW w' /\ PolW w') := hI fun w' hb => ⟨HL0.out.below hb, HP0.out.below hb⟩
 have HRA : Hid (∀ w', Below W0.heap.size W0 w' -> rAcn.rel w' S2 [.int .i64 kd, .int .i64 n, .string ⟨nm.toArray⟩, .string ⟨tx.toArray⟩, .slice I ip.length ic] ⟨kd, n, nm, tx, ip⟩) := hI fun w' hb => jA (jA ha' HB0.out) hb
 have HS2 : Hid (∀ q, S2 q -> q < W0.heap.size) := hI fun q hq => nL (hS2 q hq) HB0.out.size
 have HPL : Hid (∀ w', Below W0.heap.size W0 w' -> Calls Tryz.prog 20 #[.slice A l.length c, .func (.func 24) #[] #[]] w' fun e w2 => ∃ sb C T, e = .returned (.tuple #[.pointer (some ⟨sb, 0, none⟩), .bool true]) /\ At w' w2 sb C T st) := hI fun w' hb => by
  rw [<- hst]
  exact Z9z w' (jA (jA hl HB0.out) hb) (fun q hq => nL (hS q hq) (Nat.le_trans HB0.out.size hb.size)) (HLB.out w' hb).1 (HLB.out w' hb).2
 have HF : Hid (∀ (w : World) (C : Nat -> Prop) (q : Nat), False -> q < w.heap.size /\ ¬ C q) := hI fun _ _ _ h => h.elim
 clear hl hS ha' hS2 hw hp hin hby hst
 go_enter Tryz.func9, Tryz.ntmps9
 go_upto_region 5 with (first
  | (go_at_call 20; ((with_reducible refine (HPL.out W0 (Below.refl _ _)).mono ?_); rintro e w1 ⟨sb, C, T, rfl, hA⟩; have HA := hI hA; clear hA))
  | (go_at_call 20; ((with_reducible refine (HPL.out w1 HA.out.bl).mono ?_); rintro e w2 ⟨gb, D, U, rfl, hA⟩; have H2 := hI (At2.start HA.out hA); clear hA HA)))
 clear c0 c1 c2 c3 c4 e0
 obtain ⟨m, hm⟩ : ∃ m, min l.length 50 = m := ⟨_, rfl⟩
 have HM := hI hm
 have HMI : Hid (min (l.length : Int) 50 = (m : Int)) := hI (by omega)
 clear hm
 go_upto_region 6 with fail
 trace_state
 go_loopw [9] (fun i wr => ∃ (k : Nat) (C T D U : Nat -> Prop), i = .int .i64 k /\ m <= k /\ k <= 200 /\ Hid (At2 W0 wr sb C T (st.done k) gb D U (st.done k))) (fun i _ => 200 - (intOf i).toNat)
 case atStart =>
  refine ⟨m, C, T, D, U, ?_, Nat.le_refl _, by have := HM.out; omega, hI ?_⟩
  ·first | (rw [HMI.out]; done) | (have := HMI.out; split <;> go_num <;> omega)
  ·have h : st.done m = st := by rw [<- HM.out, <- HAC.out]; rfl
   rw [h]; exact H2.out
 case round =>
  clear H2
  obtain ⟨k, C, T, D, U, rfl, hk, hk2, H2⟩ := hrel
  by_cases hlt : k < 200
  ·have hik : (k : Int) < 200 := by omega
   go_wp2_with (first
    | (go_at_call 11; ((refine Calls.mono (H2.out.act_no (Y11 st hlt) HL0.out HP0.out (Z6s wr 0 0 [] [] ⟨by decide, by decide⟩ ⟨by decide, by decide⟩ (by simp) (by simp)) (HF.out wr C)) ?_); rintro e v2 ⟨A2, c2, B2, d2, C2, T2, rfl, _, hA2⟩; have H3 := hI hA2.swap; clear hA2))
    | (go_at_call 11; ((refine Calls.mono (H3.out.act_no (Y11 st hlt) HL0.out HP0.out (Z6s v2 0 0 [] [] ⟨by decide, by decide⟩ ⟨by decide, by decide⟩ (by simp) (by simp)) (HF.out v2 D)) ?_); rintro e v3 ⟨A3, c3, B3, d3, D2, U2, rfl, _, hA3⟩; have H4 := hI hA3.swap; clear hA3))
    | (refine Z09 (by rfl) (.tmp 35) 30 0 rfl rfl (Y28 _ _ _ _ _ _) ?_)
    | (refine Z09 (by rfl) (.tmp 41) 30 0 rfl rfl (Y28 _ _ _ _ _ _) ?_))
   go_roundw
   case rel => exact ⟨k + 1, C2, T2, D2, U2, by go_num, by omega, hlt, H4⟩
   case measure => simp [intOf]; omega
  ·have hik : ¬ (k : Int) < 200 := by omega
   obtain rfl : k = 200 := by omega
   obtain ⟨c0, c1, c2, c3, c4, cz⟩ := HOLD.out wr H2.out.s.bl
   go_wp2_with (first
    | (go_at_call 11; (refine Calls.mono (H2.out.act_no (Y6h st _) HL0.out HP0.out (HRA.out wr H2.out.s.bl) (fun q hq => ⟨nL (HS2.out q hq) H2.out.s.bl.size, fun hc => by have := H2.out.s.cn q hc; have := HS2.out q hq; omega⟩)) ?_); rintro e v2 ⟨A2, c2, B2, d2, C2, T2, rfl, hr, hA2⟩; have H3 := hI hA2; have HR := hI hr; clear hA2 hr)
    | (go_at_call 28; (refine Calls.mono (Y2k (noR 11) v2 HR.out (X0k v2 11 ⟨by decide, by decide⟩)) ?_); rintro e v3 ⟨rfl, hb3⟩; have HB3 := hI hb3; clear hb3)
    | (go_at_call 25; (with_reducible refine (Z64 v3 (H3.out.below HB3.out).g.sto (H3.out.below HB3.out).s.sto rfl (fun _ _ => rfl) (HLB.out v3 (H3.out.below HB3.out).s.bl).1 (HLB.out v3 (H3.out.below HB3.out).s.bl).2).mono ?_); rintro e v4 ⟨rfl, hb4⟩; have HB4 := hI hb4; clear hb4))
   go_ret
   exact ⟨rfl, HB0.out.trans ((X0b H3.out HB3.out HB4.out).mono HB0.out.size)⟩
