import Derived.Test.YtlopccnehgolnacGreatDoorGJ49
namespace Go.Proofs.YtlopccnehgolnacGreatDoor
open Go.RowKit Rb
open Go.Lib renaming hid -> hI
open Nat renaming lt_of_lt_of_le -> nL
open Rd renaming below -> jA
set_option maxRecDepth 100000
set_option maxHeartbeats 12800000
theorem X0j {st : Sto} {a : Acn} (h200 : ¬ 200 <= st.acts) (hc : (doS st a).1.code ≠ 0) (h4 : a.kind ≠ 4) (h5 : a.kind ≠ 5) :
  (∃ k : Nat, k < 4 /\ a.n = k /\ a.kind = 6 /\ (st.ses k).opn = true /\ (doS st a).1.n = 0 /\ (doS st a).2.states = st.states /\ ∀ j, (doS st a).2.ses j = (st.put k ses0).ses j) \/
  (¬ (a.kind = 6 /\ 0 <= a.n /\ a.n < 4 /\ (st.ses a.n.toNat).opn = true) /\ (∃ cd, (doS st a).1 = noR cd) /\ (doS st a).2.states = st.states /\ ∀ j, (doS st a).2.ses j = st.ses j) := by
 unfold doS at hc ⊢
 rw [if_neg h200] at hc ⊢
 by_cases hk : a.kind < 1 \/ 7 < a.kind
 ·rw [if_pos hk]
  exact .inr ⟨fun h => by omega, ⟨10, rfl⟩, rfl, fun _ => rfl⟩
 rw [if_neg hk] at hc ⊢
 by_cases h1 : a.kind = 1
 ·rw [if_pos h1] at hc ⊢
  unfold Z4z at hc ⊢
  by_cases hn : a.n ≠ 0 /\ a.n ≠ 1
  ·rw [if_pos hn]
   exact .inr ⟨fun h => by omega, ⟨2, rfl⟩, rfl, fun _ => rfl⟩
  rw [if_neg hn] at hc ⊢
  cases hf : Y4s st.up with
  | none =>
   simp only
   exact .inr ⟨fun h => by omega, ⟨11, rfl⟩, rfl, fun _ => rfl⟩
  | some k =>
   rw [hf] at hc
   exact absurd rfl hc
 rw [if_neg h1] at hc ⊢
 by_cases hn : a.n < 0 \/ 4 <= a.n \/ (st.ses a.n.toNat).opn = false
 ·rw [if_pos hn]
  refine .inr ⟨fun h => ?_, ⟨3, rfl⟩, rfl, fun _ => rfl⟩
  obtain ⟨_, ha, hb, ho⟩ := h
  rcases hn with hn | hn | hn
  ·omega
  ·omega
  ·rw [ho] at hn; cases hn
 rw [if_neg hn] at hc ⊢
 by_cases hf : (a.kind = 3 \/ a.kind = 4) /\ Z14 a.name = false
 ·rw [if_pos hf]
  exact .inr ⟨fun h => by omega, ⟨1, rfl⟩, rfl, fun _ => rfl⟩
 rw [if_neg hf] at hc ⊢
 simp only [not_or] at hn
 obtain ⟨hn0, hn4, hno⟩ := hn
 obtain ⟨k, hkn⟩ : ∃ k : Nat, a.n = k := ⟨a.n.toNat, by omega⟩
 have hkt : a.n.toNat = k := by omega
 rw [hkt] at hc hno ⊢
 have hse : st.up.ses k = st.ses k := rfl
 unfold Z87 at hc ⊢
 by_cases k2 : a.kind = 2
 ·rw [if_pos k2] at hc ⊢
  refine .inr ⟨fun h => by omega, ⟨_, rfl⟩, rfl, fun j => ?_⟩
  show (if j = k then (putB (st.up.ses k) a.text).2 else st.up.ses j) = st.ses j
  split
  ·rename_i e
   subst e
   unfold putB at hc ⊢
   split
   ·rfl
   ·rename_i hpe
    rw [if_neg hpe] at hc
    split at hc <;> exact absurd rfl hc
  ·rfl
 rw [if_neg k2] at hc ⊢
 by_cases k3 : a.kind = 3
 ·rw [if_pos k3] at hc
  exact absurd rfl hc
 rw [if_neg k3, if_neg h4, if_neg h5] at hc ⊢
 by_cases k6 : a.kind = 6
 ·rw [if_pos k6] at hc ⊢
  refine .inl ⟨k, by omega, hkn, k6, by simpa using hno, ?_⟩
  unfold Z1t at hc ⊢
  split
  ·exact ⟨rfl, rfl, fun _ => rfl⟩
  ·rename_i hfd
   rw [hfd] at hc
   simp only at hc
   split
   ·rename_i hg
    rw [if_pos hg] at hc
    exact absurd rfl hc
   ·rename_i hg
    rw [if_neg hg] at hc
    split
    ·exact ⟨rfl, rfl, fun _ => rfl⟩
    ·rename_i h40
     rw [if_neg h40] at hc
     split
     ·exact ⟨rfl, rfl, fun _ => rfl⟩
     ·rename_i hck
      rw [if_neg hck] at hc
      exact absurd rfl hc
 ·rw [if_neg k6] at hc
  exact absurd rfl hc
theorem Y92 {st : Sto} {k : Nat} (h200 : ¬ 200 <= st.acts) (hk : k < 4) (ho : (st.ses k).opn = true) : doS st ⟨7, k, [], [], []⟩ = (noR 0, st.up.put k ses0) := by
 unfold doS
 rw [if_neg h200, if_neg (by simp), if_neg (by simp), if_neg (by
  rintro (h | h | h)
  ·simp only at h; omega
  ·simp only at h; omega
  ·rw [show ((k : Int).toNat) = k from rfl, ho] at h; cases h), if_neg (by simp)]
 rfl
theorem Z71 {S S2 : Nat -> Prop} {lv : Value} {l : List Acn} {as' : List Value} {a : Acn} (w : World) (hl : (rSl rAcn).rel w S [lv] l) (hS : ∀ q, S q -> q < w.heap.size) (ha : rAcn.rel w S2 as' a) (hS2 : ∀ q, S2 q -> q < w.heap.size) (hw : LibW w) (hp : PolW w) :
  Calls Tryz.prog 7 #[lv, .agg as'.toArray] w fun e w' => e = .returned (.bool true) /\ Below w.heap.size w w' := by
 obtain ⟨kd, n, nm, tx, ip⟩ := a
 have ha' := ha
 obtain ⟨u, rfl, hkd, hn, hnm, htx, hin⟩ := ha
 simp only at hkd hn hnm htx hin ha'
 obtain ⟨I, ic, rfl, _⟩ := rSl.elems hin
 obtain ⟨A, c, rfl, _, _, hby, _⟩ := rSl.elems hl
 have hln : l.length <= 1954687338432 := by simp only [rAcn] at hby; omega
 obtain ⟨W0, e0, HB0, HZ⟩ : ∃ W0, w.alloc (.cells #[.int .i64 kd, .int .i64 n, .string ⟨nm.toArray⟩, .string ⟨tx.toArray⟩, .slice I ip.length ic] 24) = W0 /\ Hid (Below w.heap.size w W0) /\ Hid (w.heap.size < W0.heap.size) := ⟨_, rfl, hI ((Below.refl _ _).alloc (Nat.le_refl _) _), hI (by simp)⟩; have c0 := ac0 e0; have c1 := ac1 e0; have c2 := ac2 e0; have c3 := ac3 e0; have c4 := ac4 e0
 have HOLD : Hid (∀ w', Below W0.heap.size W0 w' -> w'.cell? ⟨w.heap.size, 0, none⟩ = some (.int .i64 kd) /\ w'.cell? ⟨w.heap.size, 1, none⟩ = some (.int .i64 n) /\ w'.cell? ⟨w.heap.size, 2, none⟩ = some (.string ⟨nm.toArray⟩) /\ w'.cell? ⟨w.heap.size, 3, none⟩ = some (.string ⟨tx.toArray⟩) /\ w'.cell? ⟨w.heap.size, 4, none⟩ = some (.slice I ip.length ic) /\ w.heap.size < w'.heap.size) := hI fun w' hb =>
  ⟨(hb.cell (p := ⟨w.heap.size, 0, none⟩) HZ.out).trans c0, (hb.cell (p := ⟨w.heap.size, 1, none⟩) HZ.out).trans c1, (hb.cell (p := ⟨w.heap.size, 2, none⟩) HZ.out).trans c2, (hb.cell (p := ⟨w.heap.size, 3, none⟩) HZ.out).trans c3, (hb.cell (p := ⟨w.heap.size, 4, none⟩) HZ.out).trans c4, nL HZ.out hb.size⟩
 obtain ⟨st, hst⟩ : ∃ st, Y3g l = st := ⟨_, rfl⟩
 have HAC : Hid (st.acts = min l.length 50) := hI (by rw [<- hst]; exact Z9x l)
 have HL0 := hI (hw.below HB0.out)
 have HP0 := hI (hp.below HB0.out)
 have HLB : Hid (∀ w', Below W0.heap.size W0 w' -> LibW w' /\ PolW w') := hI fun w' hb => ⟨HL0.out.below hb, HP0.out.below hb⟩
 have HRA : Hid (∀ w', Below W0.heap.size W0 w' -> rAcn.rel w' S2 [.int .i64 kd, .int .i64 n, .string ⟨nm.toArray⟩, .string ⟨tx.toArray⟩, .slice I ip.length ic] ⟨kd, n, nm, tx, ip⟩) := hI fun w' hb => jA (jA ha' HB0.out) hb
 have HS2 : Hid (∀ q, S2 q -> q < W0.heap.size) := hI fun q hq => nL (hS2 q hq) HB0.out.size
 have HPL : Hid (∀ w', Below W0.heap.size W0 w' -> Calls Tryz.prog 20 #[.slice A l.length c, .func (.func 24) #[] #[]] w' fun e w2 => ∃ sb C T, e = .returned (.tuple #[.pointer (some ⟨sb, 0, none⟩), .bool true]) /\ At w' w2 sb C T st) := hI fun w' hb => by
  rw [<- hst]
  exact Z9z w' (jA (jA hl HB0.out) hb) (fun q hq => nL (hS q hq) (Nat.le_trans HB0.out.size hb.size)) (HLB.out w' hb).1 (HLB.out w' hb).2
 have HF : Hid (∀ (w : World) (C : Nat -> Prop) (q : Nat), False -> q < w.heap.size /\ ¬ C q) := hI fun _ _ _ h => h.elim
 clear hl hS ha' hS2 hw hp hin hby hst
 go_enter Tryz.func7, Tryz.ntmps7
 go_upto_region 5 with (first
  | (go_at_call 20; ((with_reducible refine (HPL.out W0 (Below.refl _ _)).mono ?_); rintro e w1 ⟨sb, C, T, rfl, hA⟩; have HA := hI hA; clear hA))
  | (go_at_call 20; ((with_reducible refine (HPL.out w1 HA.out.bl).mono ?_); rintro e w2 ⟨gb, D, U, rfl, hA⟩; have H2 := hI (At2.start HA.out hA); clear hA HA)))
 clear c0 c1 c2 c3 c4 e0
 have H200 : Hid (¬ 200 <= st.acts) := hI (by have := HAC.out; omega)
 obtain ⟨⟨r1, s1⟩, h1⟩ : ∃ z, doS st ⟨kd, n, nm, tx, ip⟩ = z := ⟨_, rfl⟩
 have HH1 := hI h1
 have HRF := hI (X0j (st := st) (a := ⟨kd, n, nm, tx, ip⟩) H200.out)
 rw [h1] at HRF
 clear h1
 obtain ⟨c0, c1, c2, c3, c4, cz⟩ := HOLD.out w2 H2.out.s.bl
 go_upto_region 6 with (first
  | (go_at_call 11; (refine Calls.mono (H2.out.act HH1.out HL0.out HP0.out (HRA.out w2 H2.out.s.bl) (fun q hq => ⟨nL (HS2.out q hq) H2.out.s.bl.size, fun hc => by have := H2.out.s.cn q hc; have := HS2.out q hq; omega⟩)) ?_); rintro e v2 ⟨A2, p2, B2, q2, C2, T2, rfl, _, hA2, _⟩; obtain ⟨W2, e2, HB2, x0, x1, x2, x3, x4, HZ2⟩ := X07 v2 (.int .i64 r1.code) (.int .i64 r1.n) (.string ⟨r1.text.toArray⟩) (.slice A2 r1.ans.length p2) (.slice B2 r1.at'.length q2); have H3 := hI (hA2.below HB2.out); have HN : Hid ((D v2.heap.size -> v2.heap.size < v2.heap.size) /\ v2.heap.size < W2.heap.size) := hI ⟨hA2.g.sto.cw _, by have := HZ2.out; omega⟩; obtain ⟨k0, k1, k2, k3, k4, kz⟩ := HOLD.out W2 H3.out.s.bl; clear hA2))
 clear c0 c1 c2 c3 c4 cz e2
 have HBX : Hid (∀ (w' : World) {E : Nat -> Prop}, Chg E W2 w' -> ¬ E v2.heap.size -> w'.cell? ⟨v2.heap.size, 0, none⟩ = some (.int .i64 r1.code) /\ w'.cell? ⟨v2.heap.size, 1, none⟩ = some (.int .i64 r1.n) /\ w'.cell? ⟨v2.heap.size, 2, none⟩ = some (.string ⟨r1.text.toArray⟩) /\ w'.cell? ⟨v2.heap.size, 3, none⟩ = some (.slice A2 r1.ans.length p2) /\ w'.cell? ⟨v2.heap.size, 4, none⟩ = some (.slice B2 r1.at'.length q2)) := hI fun w' E hc hE => by
  have k : ∀ j, w'.cell? ⟨v2.heap.size, j, none⟩ = W2.cell? ⟨v2.heap.size, j, none⟩ := fun j => World.cell?_of_block (a := ⟨v2.heap.size, j, none⟩) (hc.block _ HN.out.2 hE)
  exact ⟨(k 0).trans x0, (k 1).trans x1, (k 2).trans x2, (k 3).trans x3, (k 4).trans x4⟩
 by_cases hc : r1.code = 0
 ·have hcb : (r1.code == 0) = true := by simp [hc]
  go_wp2
  go_ret
  exact ⟨rfl, HB0.out.trans (H3.out.s.bl.mono HB0.out.size)⟩
 have hcb : (r1.code == 0) = false := by simp [hc]
 by_cases h4 : kd = 4
 ·have h4b : (kd == 4) = true := by simp [h4]
  go_wp2
  go_ret
  exact ⟨rfl, HB0.out.trans (H3.out.s.bl.mono HB0.out.size)⟩
 have h4b : (kd == 4) = false := by simp [h4]
 by_cases h5 : kd = 5
 ·have h5b : (kd == 5) = true := by simp [h5]
  go_wp2
  go_ret
  exact ⟨rfl, HB0.out.trans (H3.out.s.bl.mono HB0.out.size)⟩
 have h5b : (kd == 5) = false := by simp [h5]
 rcases HRF.out hc h4 h5 with ⟨k, hk4, hnk, hk6, hop, hrn, hst1, hss⟩ | ⟨hnot, ⟨cd, hcd⟩, hst1, hss⟩
 ·subst hnk hk6
  have HST1 : Hid (s1.states = (st.up.put k ses0).states) := hI hst1
  have HSS : Hid (∀ j, s1.ses j = (st.up.put k ses0).ses j) := hI hss
  have hn0 : (r1.n == 0) = true := by simp [hrn]
  have hge : (0 : Int) <= (k : Int) := by omega
  have hlt : (k : Int) < 4 := by omega
  have HSE : Hid (Calls Tryz.prog 14 #[.pointer (some ⟨gb, 0, none⟩), .int .i64 k] W2 fun e w' => ∃ ys, e = .returned (.agg ys.toArray) /\ rSes.rel w' (fun q => W2.heap.size <= q) ys (st.ses k) /\ Below W2.heap.size W2 w') := hI (by
   obtain ⟨xs, hr, hc⟩ := H3.out.g.sto.ses k hk4
   exact Z33 W2 hk4 hr hc H3.out.g.sto.tw)
  have HAB := hI (Y92 (st := st) H200.out hk4 hop)
  have HOP := hI hop
  clear hst1 hss hrn
  go_upto_region 9 with (first
   | (go_at_call 14; (with_reducible refine HSE.out.mono ?_); rintro e v6 ⟨ys, rfl, hr6, hb6⟩; obtain ⟨D1, d1, F1, f1, G1, g1, R1, r1', rfl, _⟩ := Z6k hr6; rw [HOP.out]; have H6 := hI (H3.out.below hb6).swap; have HB6 := hI hb6; obtain ⟨m0, m1, m2, m3, m4, mz⟩ := HOLD.out v6 (H6.out.s.bl); clear hr6 hb6)
   | (refine Z09 (by rfl) (.tmp 59) 41 0 rfl rfl (Y6k _ _ _ _ _ _ _ _) ?_))
  clear k0 k1 k2 k3 k4 kz
  go_wp2_with (first
   | (go_at_call 11; (refine Calls.mono (H6.out.act HAB.out HL0.out HP0.out (Z6s v6 7 k [] [] ⟨by decide, by decide⟩ ⟨by omega, by omega⟩ (by simp) (by simp)) (HF.out v6 D)) ?_); rintro e v7 ⟨A7, p7, B7, q7, D7, U7, rfl, _, hA7, hc7, _⟩; have H7 := hI hA7.swap; obtain ⟨y0, y1, y2, y3, y4⟩ := HBX.out v7 ((Chg.below HB6.out).trans hc7) (fun h => Nat.lt_irrefl _ (HN.out.1 h)); clear hA7 hc7)
   | (refine Z09 (by rfl) (.tmp 66) 30 0 rfl rfl (Y28 _ _ _ _ _ _) ?_)
   | (go_at_call 25; (with_reducible refine (Z64 v7 H7.out.g.sto H7.out.s.sto HST1.out (fun j _ => HSS.out j) (HLB.out v7 H7.out.s.bl).1 (HLB.out v7 H7.out.s.bl).2).mono ?_); rintro e v8 ⟨rfl, hb8⟩; have HB8 := hI hb8; have z1 := (hb8.cell (p := ⟨v2.heap.size, 1, none⟩) (World.block_lt_of_cell? _ _ y1)).trans y1; clear hb8))
  go_ret
  exact ⟨rfl, HB0.out.trans ((H7.out.s.bl.trans (HB8.out.mono H7.out.s.bl.size)).mono HB0.out.size)⟩
 ·subst hcd
  have HST1 := hI hst1
  have HSS := hI hss
  clear hst1 hss
  have nC : (noR cd).n = 0 := rfl
  by_cases h6 : kd = 6
  ·have h6b : (kd == 6) = true := by simp [h6]
   by_cases hn0 : n < 0
   ·have hge : ¬ (0 : Int) <= n := by omega
    go_wp2_with (go_at_call 25; (with_reducible refine (Z64 W2 H3.out.g.sto H3.out.s.sto HST1.out (fun j _ => HSS.out j) (HLB.out W2 H3.out.s.bl).1 (HLB.out W2 H3.out.s.bl).2).mono ?_); rintro e v8 ⟨rfl, hb8⟩; have HB8 := hI hb8; clear hb8)
    go_ret
    exact ⟨rfl, HB0.out.trans ((H3.out.s.bl.trans (HB8.out.mono H3.out.s.bl.size)).mono HB0.out.size)⟩
   have hge : (0 : Int) <= n := by omega
   by_cases hn4 : 4 <= n
   ·have hlt : ¬ n < (4 : Int) := by omega
    go_wp2_with (go_at_call 25; (with_reducible refine (Z64 W2 H3.out.g.sto H3.out.s.sto HST1.out (fun j _ => HSS.out j) (HLB.out W2 H3.out.s.bl).1 (HLB.out W2 H3.out.s.bl).2).mono ?_); rintro e v8 ⟨rfl, hb8⟩; have HB8 := hI hb8; clear hb8)
    go_ret
    exact ⟨rfl, HB0.out.trans ((H3.out.s.bl.trans (HB8.out.mono H3.out.s.bl.size)).mono HB0.out.size)⟩
   have hlt : n < (4 : Int) := by omega
   obtain ⟨k, rfl⟩ : ∃ k : Nat, n = k := ⟨n.toNat, by omega⟩
   have hk4 : k < 4 := by omega
   have hop : (st.ses k).opn = false := by
    cases ho : (st.ses k).opn
    ·rfl
    ·exact absurd ⟨h6, hge, hlt, ho⟩ hnot
   have HOP := hI hop
   have HSE : Hid (Calls Tryz.prog 14 #[.pointer (some ⟨gb, 0, none⟩), .int .i64 k] W2 fun e w' => ∃ ys, e = .returned (.agg ys.toArray) /\ rSes.rel w' (fun q => W2.heap.size <= q) ys (st.ses k) /\ Below W2.heap.size W2 w') := hI (by
    obtain ⟨xs, hr, hc⟩ := H3.out.g.sto.ses k hk4
    exact Z33 W2 hk4 hr hc H3.out.g.sto.tw)
   clear hop hnot
   go_wp2_with (first
    | (go_at_call 14; (with_reducible refine HSE.out.mono ?_); rintro e v6 ⟨ys, rfl, hr6, hb6⟩; obtain ⟨D1, d1, F1, f1, G1, g1, R1, r1', rfl, _⟩ := Z6k hr6; rw [HOP.out]; have HB6 := hI hb6; obtain ⟨m0, m1, m2, m3, m4, mz⟩ := HOLD.out v6 (H3.out.s.bl.trans (hb6.mono H3.out.s.bl.size)); obtain ⟨y0, y1, y2, y3, y4⟩ := HBX.out v6 (.below hb6) (fun h => Nat.lt_irrefl _ (HN.out.1 h)); clear hr6 hb6)
    | (refine Z09 (by rfl) (.tmp 59) 41 0 rfl rfl (Y6k _ _ _ _ _ _ _ _) ?_)
    | (go_at_call 25; (with_reducible refine (Z64 v6 (H3.out.below HB6.out).g.sto (H3.out.below HB6.out).s.sto HST1.out (fun j _ => HSS.out j) (HLB.out v6 (H3.out.below HB6.out).s.bl).1 (HLB.out v6 (H3.out.below HB6.out).s.bl).2).mono ?_); rintro e v8 ⟨rfl, hb8⟩; have HB8 := hI hb8; clear hb8))
   go_ret
   exact ⟨rfl, HB0.out.trans (((H3.out.below HB6.out).s.bl.trans (HB8.out.mono (H3.out.below HB6.out).s.bl.size)).mono HB0.out.size)⟩
  ·have h6b : (kd == 6) = false := by simp [h6]
   go_wp2_with (go_at_call 25; (with_reducible refine (Z64 W2 H3.out.g.sto H3.out.s.sto HST1.out (fun j _ => HSS.out j) (HLB.out W2 H3.out.s.bl).1 (HLB.out W2 H3.out.s.bl).2).mono ?_); rintro e v8 ⟨rfl, hb8⟩; have HB8 := hI hb8; clear hb8)
   go_ret
   exact ⟨rfl, HB0.out.trans ((H3.out.s.bl.trans (HB8.out.mono H3.out.s.bl.size)).mono HB0.out.size)⟩
