import Derived.Test.YtlopccnehgolnacGreatDoorGK36
import Derived.Test.YtlopccnehgolnacGreatDoorGK37
namespace Go.Proofs.YtlopccnehgolnacGreatDoor
open Go.RowKit Rb
open Go.Lib renaming decDigits -> jA, decDigits_length -> jB, decFrom -> jC, digitVal -> jD, hasPrefix -> jE, itoa -> jF, itoa_neg -> jG, itoa_nonneg -> jH, join -> jI, joinTail -> jJ, nDigits_small -> jK
open List renaming append_eq_nil_iff -> jL, not_mem_nil -> jM
open Rd renaming below -> jN
set_option maxRecDepth 100000
set_option maxHeartbeats 6400000
theorem Z9w (u : Nat) (h : u <= 1000000) : Lib.nDigits u <= 7 := by
 have : ∀ (k u : Nat), u < 10 ^ (k + 1) -> Lib.nDigits u <= k + 1 := by
  intro k
  induction k with
  | zero => intro u hu; rw [jK (by simpa using hu)]; omega
  | succ k ih =>
   intro u hu
   by_cases h : u < 10
   ·rw [jK h]; omega
   rw [Lib.nDigits_big h]
   have := ih (u / 10) (by rw [Nat.pow_succ] at hu; omega)
   omega
 exact this 6 u (by omega)
theorem Z25 (n : Int) (h : Z0z n = true) : (jF n).length <= 8 := by
 obtain ⟨h0, h1⟩ := (Z07 n).1 h
 by_cases hneg : n < 0
 ·obtain ⟨u, rfl⟩ : ∃ u : Nat, n = -(u : Int) := ⟨n.natAbs, by omega⟩
  rw [jG u (by omega), L0r, jB]
  have := Z9w u (by omega)
  omega
 obtain ⟨u, rfl⟩ : ∃ u : Nat, n = u := ⟨n.toNat, by omega⟩
 rw [jH, jB]
 have := Z9w u (by omega)
 omega
theorem Z6a : ∀ {l : List Rg} {a : Int}, Z33 a l = true -> ∀ r ∈ l, Z0z r.1 = true /\ Z0z r.2 = true
 | [], _, _, _, hr => by simp at hr
 | x :: l, a, h, r, hr => by
  simp only [Z33, L0t] at h
  rcases L2o.1 hr with rfl | hr
  ·exact ⟨h.1.1.1.1, h.1.1.1.2⟩
  exact Z6a h.2 r hr
theorem Y5k {r : Rg} (h1 : Z0z r.1 = true) (h2 : Z0z r.2 = true) : (Z2f r).length <= 18 := by
 have a := Z25 _ h1
 have b := Z25 _ h2
 unfold Z2f
 split <;> simp <;> omega
theorem Z9b {c : Cl} (h : Z1f c = true) : (Z0t c).length <= 80 := by
 unfold Z1f at h
 simp only [L0t, decide_eq_true_iff] at h
 have h1 := Z69 (l := c.rs.map Z2f) (sep := [124]) (m := 19) (fun x hx => by
  obtain ⟨r, hr, rfl⟩ := L1n.1 hx
  obtain ⟨g1, g2⟩ := Z6a h.1.2 r hr
  have := Y5k g1 g2
  simp only [L0p]
  omega)
 rw [L1h] at h1
 have h4 := h.1.1
 unfold Z0t
 split
 ·simp
 cases c.no <;> simp <;> omega
def Z5c (r : Rl) : Txt := [32, 32] ++ jI (r.cells.map Z0t) [44] ++ [32, 61, 62, 32] ++ jF r.out ++ [59, 10]
def Z1w (l : List Rl) : Txt := (l.map Z5c).flatten
theorem Y5l (l : List Rl) (r : Rl) : Z1w (l ++ [r]) = Z1w l ++ Z5c r := by simp [Z1w]
theorem Y3t {n : Nat} {r : Rl} (h : Z0o n r = true) (hn : n <= 3) : (jI (r.cells.map Z0t) [44]).length <= 243 := by
 unfold Z0o at h
 simp only [L0t, decide_eq_true_iff, L1t] at h
 have h1 := Z69 (l := r.cells.map Z0t) (sep := [44]) (m := 81) (fun x hx => by
  obtain ⟨c, hc, rfl⟩ := L1n.1 hx
  have := Z9b (h.2 c hc)
  simp only [L0p]
  omega)
 rw [L1h, h.1.2] at h1
 omega
theorem Y7n {n : Nat} {r : Rl} (h : Z0o n r = true) (hn : n <= 3) : (Z5c r).length <= 259 := by
 have h1 := Y3t h hn
 unfold Z0o at h
 simp only [L0t] at h
 have h2 := Z25 _ h.1.1
 unfold Z5c
 simp only [L0i, L0r, L0v]
 omega
theorem Z6t {n : Nat} (hn : n <= 3) : ∀ {l : List Rl}, (∀ r ∈ l, Z0o n r = true) -> (Z1w l).length <= 259 * l.length
 | [], _ => by simp [Z1w]
 | x :: l, h => by
  have h1 := Y7n (h x (L2d ..)) hn
  have h2 := Z6t hn fun r hr => h r (L1w _ hr)
  unfold Z1w at *
  simp only [L2q, List.flatten_cons, L0i, L0r]
  omega
theorem Z4m {s : Txt} (h : Z1e s = true) : s.length <= 8 := by
 unfold Z1e at h
 simp only [L0t, decide_eq_true_iff] at h
 omega
theorem Z3h : ∀ {l seen : List Txt}, Z2x seen l = true -> ∀ s ∈ l, Z1e s = true
 | [], _, _, _, hs => by simp at hs
 | x :: l, seen, h, s, hs => by
  simp only [Z2x, L0t] at h
  rcases L2o.1 hs with rfl | hs
  ·exact h.1.1
  exact Z3h h.2 s hs
theorem Y3u {t : Tb} (h : Z0s t = true) : (jI t.ins [44]).length <= 27 := by
 have h3 := (Z00 h).2.2.2.1
 unfold Z0s at h
 simp only [L0t] at h
 have h1 := Z69 (l := t.ins) (sep := [44]) (m := 9) (fun x hx => by
  have := Z4m (Z3h h.1.2 x hx)
  simp only [L0p]
  omega)
 omega
theorem Z59 {t : Tb} (h : Z0s t = true) : t.name.length <= 8 := by
 unfold Z0s at h
 simp only [L0t] at h
 exact Z4m (Z68 h.1.1).1
theorem Y0y {t : Tb} (h : Z0s t = true) {r : Rl} (hr : r ∈ t.rules) : Z0o t.ins.length r = true := by
 unfold Z0s at h
 simp only [L0t, L1t] at h
 exact h.2 r hr
def Z35 (p : Nat) : Txt := pols.getD p []
theorem Y36 {p : Nat} (h : p <= 7) : pols[p]? = some (Z35 p) /\ (Z35 p).length <= 6 := by
 have : p < 8 := by omega
 match p, this with
 | 0, _ | 1, _ | 2, _ | 3, _ | 4, _ | 5, _ | 6, _ | 7, _ => exact ⟨rfl, by decide⟩
def Z4e (t : Tb) : Txt := [116, 97, 98, 108, 101, 32] ++ t.name ++ [32] ++ Z35 t.pol.toNat ++ (if t.comp then [32, 99, 111, 109, 112, 108, 101, 116, 101] else []) ++ ([32, 40] ++ jI t.ins [44] ++ [41, 32, 123, 10])
def Z2t (t : Tb) : Txt := Z4e t ++ Z1w t.rules ++ [125, 10]
theorem Z9o {t : Tb} (h : Z0s t = true) : (Z4e t).length <= 63 := by
 have h1 := Z59 h
 have h2 := Y3u h
 have h3 := (Y36 (p := t.pol.toNat) (by have := (Z00 h).2.1; omega)).2
 unfold Z4e
 cases t.comp <;> simp <;> omega
theorem Z5z {t : Tb} (h : Z0s t = true) : (Z2t t).length <= 1700 := by
 have h1 := Z9o h
 obtain ⟨_, _, _, hn, _, h6⟩ := Z00 h
 have h2 := Z6t (l := t.rules) hn fun r hr => Y0y h hr
 unfold Z2t
 simp only [L0i, L0r, L0v]
 omega
theorem X4q (w : World) (S : Nat -> Prop) (c : Cl) (h : (Z0t c).length <= 80) : rStr.rel w S [.string ⟨(Z0t c).toArray⟩] (Z0t c) := ⟨rfl, by omega⟩
theorem X3g (nm pt J : Txt) (comp : Bool) (p : Nat) (ins : List Txt) (rules : List Rl) (hp : Z35 p = pt) (hJ : jI ins [44] = J) :
  (⟨#[116, 97, 98, 108, 101, 32]⟩ : ByteArray) ++ ⟨nm.toArray⟩ ++ ⟨#[32]⟩ ++ ⟨pt.toArray⟩ ++ ⟨(if comp then [32, 99, 111, 109, 112, 108, 101, 116, 101] else [] : Txt).toArray⟩ ++ (⟨#[32, 40]⟩ ++ ⟨J.toArray⟩ ++ ⟨#[41, 32, 123, 10]⟩) = ⟨(Z4e ⟨nm, p, comp, ins, rules⟩).toArray⟩ := by
 apply ByteArray.ext
 simp [ByteArray.data_append, Z4e, hp, hJ]
theorem X4o (nm pt J : Txt) (p : Nat) (ins : List Txt) (rules : List Rl) (hp : Z35 p = pt) (hJ : jI ins [44] = J) :
  (⟨#[116, 97, 98, 108, 101, 32]⟩ : ByteArray) ++ ⟨nm.toArray⟩ ++ ⟨#[32]⟩ ++ ⟨pt.toArray⟩ ++ ⟨#[32, 99, 111, 109, 112, 108, 101, 116, 101]⟩ ++ (⟨#[32, 40]⟩ ++ ⟨J.toArray⟩ ++ ⟨#[41, 32, 123, 10]⟩) = ⟨(Z4e ⟨nm, p, true, ins, rules⟩).toArray⟩ :=
 X3g nm pt J true p ins rules hp hJ
theorem X4n (nm pt J : Txt) (p : Nat) (ins : List Txt) (rules : List Rl) (hp : Z35 p = pt) (hJ : jI ins [44] = J) :
  (⟨#[116, 97, 98, 108, 101, 32]⟩ : ByteArray) ++ ⟨nm.toArray⟩ ++ ⟨#[32]⟩ ++ ⟨pt.toArray⟩ ++ (⟨#[32, 40]⟩ ++ ⟨J.toArray⟩ ++ ⟨#[41, 32, 123, 10]⟩) = ⟨(Z4e ⟨nm, p, false, ins, rules⟩).toArray⟩ := by
 apply ByteArray.ext
 simp [ByteArray.data_append, Z4e, hp, hJ]
theorem X4r (sx J O : Txt) (r : Rl) (hJ : jI (r.cells.map Z0t) [44] = J) (hO : jF r.out = O) :
  (⟨sx.toArray⟩ : ByteArray) ++ ((⟨#[32, 32]⟩ : ByteArray) ++ ⟨J.toArray⟩ ++ ⟨#[32, 61, 62, 32]⟩ ++ ⟨O.toArray⟩ ++ ⟨#[59, 10]⟩) = ⟨(sx ++ Z5c r).toArray⟩ := by
 apply ByteArray.ext
 simp [ByteArray.data_append, Z5c, hJ, hO]
theorem Y8f {S : Nat -> Prop} {cs : List Value} (t : Tb) (w : World) (hl : rTb.rel w S cs t) (hg : Z0s t = true) (hw : LibW w) (hpw : PolW w) :
  Calls Tryz.prog 51 #[.agg cs.toArray] w fun e w' => e = .returned (.tuple #[.string ⟨(Z2t t).toArray⟩, .int .i64 0]) /\ Bw w w' := by
 have HL := L0 hl
 obtain ⟨vi, vr, rfl, hnm, hp, hi, hr⟩ := hl
 obtain ⟨A, c, rfl, hi1, hi2, hi3, hE⟩ := rSl.elems hi
 obtain ⟨B, d, rfl, hr1, hr2, hr3, hF⟩ := rSl.elems hr
 obtain ⟨hp1, hp7, hi1', hi3', hr1', hr6'⟩ := Z00 hg
 have HLN := L0 (Z59 hg)
 have HJL := L0 (Y3u hg)
 have HHL := L0 (Z9o hg)
 have HTL := L0 (Z5z hg)
 have HGR : Hid (∀ r ∈ t.rules, Z0o t.ins.length r = true) := L0 fun r hr => Y0y hg hr
 have HG1 := L0 hg
 obtain ⟨nm, pol, comp, ins, rules⟩ := t
 dsimp only at *
 obtain ⟨p, rfl⟩ : ∃ p : Nat, pol = p := ⟨pol.toNat, by omega⟩
 obtain ⟨W0, e0, HB0, c0, c1, c2, c3, c4, hs0⟩ : ∃ W0, w.alloc (.cells #[sq nm, .int .i64 p, .bool comp, .slice A ins.length c, .slice B rules.length d] 66) = W0 /\ Hid (Bw w W0) /\
   W0.cell? (zn w.heap.size 0) = some (sq nm) /\ W0.cell? (zn w.heap.size 1) = some (.int .i64 p) /\ W0.cell? (zn w.heap.size 2) = some (.bool comp) /\ W0.cell? (zn w.heap.size 3) = some (.slice A ins.length c) /\ W0.cell? (zn w.heap.size 4) = some (.slice B rules.length d) /\ w.heap.size < W0.heap.size :=
  ⟨_, rfl, L0 bA, L0b _ _ _ _, L0b _ _ _ _, L0b _ _ _ _, L0b _ _ _ _, L0b _ _ _ _, by simp⟩
 have HG0 := L0 (Y1s W0 (jN HL.o HB0.o) HG1.o)
 have HW0 := L0 (hw.below HB0.o)
 have HP0 := L0 (hpw.below HB0.o)
 have HI := L0 hi
 have HF := L0 hF
 have HR6 := L0 hr6'
 have HI3 := L0 hi3'
 obtain ⟨hpt, hpl⟩ := Y36 (p := p) (by omega)
 obtain ⟨J, hJ⟩ : ∃ x, jI ins [44] = x := ⟨_, rfl⟩
 have HJ := L0 hJ
 rw [hJ] at HJL
 obtain ⟨pt, hpe⟩ : ∃ x, Z35 p = x := ⟨_, rfl⟩
 have HPE := L0 hpe
 rw [hpe] at hpt hpl
 have HPT := L0 hpt
 have hp0' : (0 : Int) <= p := by omega
 have hp8' : (p : Int) < 8 := by omega
 have hp8n : p < 8 := by omega
 have a1 : nm.length <= 8 := HLN.o
 have a2 : J.length <= 27 := HJL.o
 have s1 : ¬ (9223372036854775807 < 6 + nm.length) := by omega
 have s2 : ¬ (9223372036854775807 < 6 + nm.length + 1) := by omega
 have s3 : ¬ (9223372036854775807 < 6 + nm.length + 1 + pt.length) := by omega
 have s4 : ¬ (9223372036854775807 < 6 + nm.length + 1 + pt.length + 9) := by omega
 have s5 : ¬ (9223372036854775807 < 2 + J.length) := by omega
 have s6 : ¬ (9223372036854775807 < 2 + J.length + 4) := by omega
 have s7 : ¬ (9223372036854775807 < 6 + nm.length + 1 + pt.length + 9 + (2 + J.length + 4)) := by omega
 have s8 : ¬ (9223372036854775807 < 6 + nm.length + 1 + pt.length + (2 + J.length + 4)) := by omega
 clear hi hr hE hF hw hpw hg hi1 hi2 hi3 hr1 hr2 hr3 hi1' hi3' hr1' hr6' hp1 hp7 hJ hpt hpe a1 a2 hnm hp hpl
 obtain ⟨hd, hhd⟩ : ∃ x, Z4e ⟨nm, p, comp, ins, rules⟩ = x := ⟨_, rfl⟩
 have HHD := L0 hhd
 rw [hhd] at HHL
 clear hhd
 go_enter Tryz.func51, Tryz.ntmps51
 cases comp
 all_goals
  go_wp2_with (go_at_call 79; (with_reducible refine HG0.o.mono ?_); rintro e w1 ⟨rfl, hb1⟩; have HB1 := L0 hb1; have d0 := (hb1.ce 0 hs0).trans c0; have d1 := (hb1.ce 1 hs0).trans c1; have d2 := (hb1.ce 2 hs0).trans c2; have d3 := (hb1.ce 3 hs0).trans c3; have d4 := (hb1.ce 4 hs0).trans c4; have HP1 := L0 (HP0.o.below hb1); have pc := HP1.o.2 p pt HPT.o; have hbd := L0 (HB0.o.trans (hb1.mono HB0.o.size)); have HS1 := L0 (L0c hs0 hb1.size); clear hb1 c0 c1 c2 c3 c4)
  go_region
  go_wp2_with (go_at_call 41; (with_reducible refine (Z86 [44] w1.drew (jN HI.o hbd.out.drew) (by rw [HJ.o]; have := HJL.o; omega)).mono ?_); rw [HJ.o]; rintro e w2 ⟨rfl, hb2⟩; have HB2 := L0 (HB1.o.drew.trans (hb2.mono HB1.o.size)); have f4 := (hb2.ce 4 HS1.o).trans d4; clear hb2 d0 d1 d2 d3 d4 pc)
  clear s1 s2 s3 s4 s5 s6 s7 s8 hp0' hp8' hp8n
  go_loopw [4, 36] (fun z i wr => ∃ (k : Nat) (sx : Txt), k <= rules.length /\ i = .int .i64 k /\ z = sq sx /\ Hid (sx = hd ++ Z1w (rules.take k)) /\ Hid (Bw W0 wr)) (fun _ i _ => rules.length - (intOf i).toNat)
  exact ⟨0, hd, L0o _, rfl, by rw [<- HHD.o]; first | exact congrArg Value.string (X4o nm pt J p ins rules HPE.o HJ.o) | exact congrArg Value.string (X4n nm pt J p ins rules HPE.o HJ.o), L0 (by simp [Z1w]), HB2⟩
  obtain ⟨k, sx, hk, rfl, rfl, HSX, HB⟩ := hrel
  have hr6 : rules.length <= 6 := HR6.o
  have HBW : Hid (Bw w wr) := L0 (HB0.o.trans (HB.o.mono HB0.o.size))
  have HSL : Hid (sx.length <= 63 + 259 * k) := L0 (by
   have h1 := Z6t (l := rules.take k) HI3.o fun r hr => HGR.o r (L4n hr)
   have h2 := HHL.o
   rw [HSX.o, L0i]
   rw [List.length_take_of_le hk] at h1
   omega)
  by_cases hlt : k < rules.length
  ·obtain ⟨bB, off, r, v, rfl, _, hbB, hx, hro, hrc, g0, g1⟩ := HF.o.rl hlt
   obtain ⟨C, cc, rfl, _, _, _, hEC⟩ := rSl.elems hrc
   rw [<- HBW.o.ce _ hbB] at g0 g1
   have hik : (k : Int) < rules.length := by omega
   have HGK : Hid (Z0o ins.length r = true) := L0 (HGR.o r (L0z hx))
   have HTK : Hid (sx ++ Z5c r = hd ++ Z1w (rules.take (k + 1))) := L0 (by rw [HSX.o, L2l, <- Y5l, L1k, hx]; rfl)
   have HEC := L0 hEC
   have HRO := L0 hro
   have HNC : Hid (r.cells.length <= 3) := L0 (by have h := HGK.o; unfold Z0o at h; simp only [L0t, decide_eq_true_iff] at h; have := HI3.o; omega)
   have HGC : Hid (∀ c ∈ r.cells, Z1f c = true) := L0 (by have h := HGK.o; unfold Z0o at h; simp only [L0t, L1t] at h; exact h.2)
   obtain ⟨W3, e3, HB3, hs3⟩ : ∃ W3, wr.alloc (.cells #[.slice C r.cells.length cc, .int .i64 r.out] 69) = W3 /\ Hid (Bw W0 W3) /\ Hid (wr.heap.size < W3.heap.size) := ⟨_, rfl, L0 (HB.o.alloc HB.o.size _), L0 (by simp)⟩; have j0 := ac0 e3; have j1 := ac1 e3
   have HBW3 : Hid (Bw w W3) := L0 (HB0.o.trans (HB3.o.mono HB0.o.size))
   clear hx hro hrc hEC
   go_wp2
   clear e3
   try unfold Bw at *
   generalize hn8 : wr.heap.size = n8 at *
   clear hn8
   go_loopw [7, 43] (fun o i wr => ∃ j : Nat, j <= r.cells.length /\ i = .int .i64 j /\ Hid (Own rStr 9 wr W3.heap.size (fun _ => False) o ((r.cells.take j).map Z0t)) /\ Hid (Bw W3 wr)) (fun _ i _ => r.cells.length - (intOf i).toNat)
   exact ⟨0, L0o _, rfl, L0 (Own.nil _ _ _ _ _), L0 (L0m _ _)⟩
   obtain ⟨j, hj, rfl, HO, HBJ⟩ := hrel
   have hnc : r.cells.length <= 3 := HNC.o
   have HBX : Hid (Bw w wr) := L0 (HBW3.o.trans (HBJ.o.mono HBW3.o.size))
   by_cases hlj : j < r.cells.length
   ·obtain ⟨bC, oC, cl, vv, rfl, _, hbC, hx, hcr, q0, q1⟩ := HEC.o.cl hlj
    rw [<- HBX.o.ce _ hbC] at q0 q1
    have hjk : (j : Int) < r.cells.length := by omega
    have HCL : Hid (Z1f cl = true) := L0 (HGC.o cl (L0z hx))
    have HTJ : Hid ((r.cells.take j).map Z0t ++ [Z0t cl] = (r.cells.take (j + 1)).map Z0t) := L0 (by rw [L1k, hx]; simp)
    obtain ⟨D, cd, rfl, _⟩ := rSl.elems hcr
    have HCR := L0 hcr
    obtain ⟨W5, e5, HB5, hs5⟩ : ∃ W5, wr.alloc (.cells #[.bool cl.no, .slice D cl.rs.length cd] 72) = W5 /\ Hid (Bw W3 W5) /\ Hid (wr.heap.size < W5.heap.size) := ⟨_, rfl, L0 (HBJ.o.alloc HBJ.o.size _), L0 (by simp)⟩; have z0 := ac0 e5; have z1 := ac1 e5
    have HO5 : Hid (Own rStr 9 W5 W3.heap.size (fun _ => False) u7 ((r.cells.take j).map Z0t)) := L0 (by rw [<- e5]; exact HO.o.alloc _)
    have HCA : Hid (Calls Tryz.prog 88 #[.agg #[.bool cl.no, .slice D cl.rs.length cd]] W5 fun e w' => e = .returned (.string ⟨(Z0t cl).toArray⟩) /\ Bw W5 w') := L0 (X0x cl W5 (jN HCR.o (HBW3.o.trans (HB5.o.mono HBW3.o.size))) (by have h := HCL.o; unfold Z1f at h; simp only [L0t, decide_eq_true_iff] at h; exact h.1.1) (HW0.o.below (HB3.o.trans (HB5.o.mono HB3.o.size))))
    have HBY : Hid ((((r.cells.take j).map Z0t).length + 1) * rStr.bytes <= 140737488355328) := L0 (by rw [L1h, L1i]; have := HNC.o; simp only [rStr]; omega)
    have HC8 := L0 (Z9b HCL.o)
    clear hx hcr
    go_wp2_with (first
     | (go_at_call 88; (with_reducible refine HCA.o.mono ?_); rintro e w6 ⟨rfl, hb6⟩; have HB6 := L0 (HB5.o.trans (hb6.mono HB5.o.size)); have HO6 := L0 (HO5.o.below hb6); clear hb6)
     | (at_builtin; refine Z0a (R := rStr) (x := Z0t cl) Y42 rfl (.tmp 47) (.tmp 50) rfl rfl HO6.o [.string ⟨(Z0t cl).toArray⟩] rfl rfl (fun _ => False) (X4q w6 (fun _ => False) cl HC8.o) (fun _ h => h.elim) HBY.o HB6.o.size ?_; intro v9 w9 hown9 hb9 _ _; have HB9 := L0 (HB6.o.trans hb9)))
    go_roundw
    exact ⟨j + 1, by omega, by go_num, L0 (by rw [<- HTJ.o]; exact hown9), HB9⟩
    simp [intOf]; omega
   have hjk : ¬ (j : Int) < r.cells.length := by omega
   have HOF : Hid (Own rStr 9 wr W3.heap.size (fun _ => False) u7 (r.cells.map Z0t)) := L0 (by have := HO.o; rwa [L0l (by omega)] at this)
   have HJC := L0 (Y3t HGK.o HI3.o)
   have HIO : Hid ((jF r.out).length <= 30) := L0 (Z41 _ HRO.o)
   have k0 := (HBJ.o.ce 0 hs3.out).trans j0
   have k1 := (HBJ.o.ce 1 hs3.out).trans j1
   obtain ⟨jt, hjt⟩ : ∃ x, jI (r.cells.map Z0t) [44] = x := ⟨_, rfl⟩
   obtain ⟨ot, hot⟩ : ∃ x, jF r.out = x := ⟨_, rfl⟩
   have HJT := L0 hjt
   have HOT := L0 hot
   have HJN : Hid (∀ w', Bw wr w' -> Calls Tryz.prog 41 #[u7, .string ⟨#[44]⟩] w' fun e w'' => e = .returned (sq jt) /\ Bw w' w'') := L0 fun w' hb => by have := Z86 [44] w' ((HOF.o.below hb).rel (by decide)) (by have := HJC.o; omega); rw [hjt] at this; exact this
   have HWR : Hid (LibW wr) := L0 (HW0.o.below (HB3.o.trans (HBJ.o.mono HB3.o.size)))
   have HIN : Hid (∀ w', Bw wr w' -> Calls Tryz.prog 87 #[.int .i64 r.out] w' fun e w'' => e = .returned (sq ot) /\ Bw w' w'') := L0 fun w' hb => by have := Z4t r.out HRO.o w' (HWR.o.below hb); rw [hot] at this; exact this
   have b1 : jt.length <= 243 := by rw [<- hjt]; exact HJC.o
   have b2 : ot.length <= 30 := by rw [<- hot]; exact HIO.o
   have b3 : sx.length <= 2000 := by have := HSL.o; have := HR6.o; omega
   have s1 : ¬ (9223372036854775807 < 2 + jt.length) := by omega
   have s2 : ¬ (9223372036854775807 < 2 + jt.length + 4) := by omega
   have s3 : ¬ (9223372036854775807 < 2 + jt.length + 4 + ot.length) := by omega
   have s4 : ¬ (9223372036854775807 < 2 + jt.length + 4 + ot.length + 2) := by omega
   have s5 : ¬ (9223372036854775807 < sx.length + (2 + jt.length + 4 + ot.length + 2)) := by omega
   clear b1 b2 b3 hjt hot
   have hq8 : n8 < wr.heap.size := L0c hs3.out HBJ.o.size
   go_wp2
   refine wp_region_quiet_below (by kernel_rfl) (by kernel_rfl) ?_
   repeat (go_big_quiet_step (first | with_reducible exact Calls.inBelow HJN.o _ _ | with_reducible exact Calls.inBelow HIN.o _ _))
   refine wpQuiet_nil ?_
   intro _ hw'
   obtain ⟨⟨dq, osq⟩, hw''⟩ := hw'
   subst hw''
   have HBG0 : Hid (Bw W0 wr) := L0 (HB3.o.trans (HBJ.o.mono HB3.o.size))
   have HRB := L0 (X4r sx jt ot r HJT.o HOT.o)
   go_wp2
   go_roundw
   exact ⟨k + 1, sx ++ Z5c r, by omega, by go_num, congrArg Value.string HRB.o, HTK, L0 (HBG0.o.trans ((below_regrown _ _ _).mono HBG0.o.size))⟩
   simp [intOf]; omega
  have hij : ¬ (k : Int) < rules.length := by omega
  have HSE : Hid (sx ++ [125, 10] = Z2t ⟨nm, p, _, ins, rules⟩) := L0 (by rw [HSX.o, <- HHD.o, L0l (by omega)]; rfl)
  have hsz : sx.length + 2 <= 1700 := by have h := HTL.o; rw [<- HSE.o, L0i] at h; exact h
  have HZ : Hid ((⟨sx.toArray⟩ : ByteArray) ++ ⟨#[125, 10]⟩ = ⟨(sx ++ [125, 10]).toArray⟩) := L0 (Y8h sx [125, 10])
  have s1 : ¬ (9223372036854775807 < sx.length + 2) := by omega
  have s2 : ¬ ((2000 : Int) < sx.length + 2) := by omega
  have s3 : ¬ (2000 < sx.length + 2) := by omega
  clear hsz hlt hk
  go_wp2
  go_ret2
  refine ⟨?_, HBW.o⟩
  rw [<- HSE.o, <- HZ.o]
  rfl
theorem Z6m (d : UInt8) (k : Nat) (hd : jD d = some k) : ∀ (l : Txt) (acc n : Nat), jC acc l = some n -> jC acc (l ++ [d]) = some (n * 10 + k)
 | [], acc, n, h => by
  simp only [jC, L3j] at h
  subst h
  simp [jC, hd]
 | b :: l, acc, n, h => by
  simp only [jC, L4p] at h ⊢
  cases hb : jD b with
  | none => rw [hb] at h; cases h
  | some e => rw [hb] at h; exact Z6m d k hd l _ n h
theorem Z9h {k : Nat} (h : k < 10) : jD (UInt8.ofNat (48 + k)) = some k := by
 have : (UInt8.ofNat (48 + k)).toNat = 48 + k := by simp; omega
 unfold jD
 rw [this, if_pos (by omega)]
 simp
theorem Z9r {k : Nat} (h : k < 10) : Z2p (UInt8.ofNat (48 + k)) = true := by
 have : (UInt8.ofNat (48 + k)).toNat = 48 + k := by simp; omega
 unfold Z2p
 rw [this]
 simp
 omega
theorem Z3g (u : Nat) : jC 0 (jA u) = some u /\ (jA u).all Z2p = true /\ jA u ≠ [] := by
 induction u using Nat.strongRecOn with
 | ind u ih =>
  rw [jA]
  by_cases h : u < 10
  ·rw [dif_pos h]
   refine ⟨?_, by rw [L4k, Z9r h]; rfl, by simp⟩
   have := Z6m _ u (Z9h h) [] 0 0 rfl
   simpa using this
  rw [dif_neg h]
  obtain ⟨h1, h2, _⟩ := ih (u / 10) (by omega)
  refine ⟨?_, ?_, by simp⟩
  ·rw [Z6m _ (u % 10) (Z9h (by omega)) _ 0 _ h1]
   congr 1
   omega
  rw [List.all_append, h2, L4k, Z9r (k := u % 10) (by omega)]
  rfl
theorem Y3s (v : Int) : ∃ c t, jF v = c :: t /\ (c.toNat = 45 \/ Z2p c = true) /\ t.all Z2p = true := by
 by_cases hneg : v < 0
 ·obtain ⟨u, rfl⟩ : ∃ u : Nat, v = -(u : Int) := ⟨v.natAbs, by omega⟩
  rw [jG u (by omega)]
  exact ⟨_, _, rfl, .inl rfl, (Z3g u).2.1⟩
 obtain ⟨u, rfl⟩ : ∃ u : Nat, v = u := ⟨v.toNat, by omega⟩
 rw [jH]
 obtain ⟨_, h2, h3⟩ := Z3g u
 cases hd : jA u with
 | nil => exact absurd hd h3
 | cons c t =>
  rw [hd] at h2
  simp only [L4k, L0t] at h2
  exact ⟨c, t, rfl, .inr h2.1, h2.2⟩
theorem Y8n (v : Int) : Lib.atoi (jF v) = some v := by
 by_cases hneg : v < 0
 ·obtain ⟨u, rfl⟩ : ∃ u : Nat, v = -(u : Int) := ⟨v.natAbs, by omega⟩
  rw [jG u (by omega)]
  obtain ⟨h1, _, h3⟩ := Z3g u
  simp [Lib.atoi, Lib.decNat, h1, h3]
 obtain ⟨u, rfl⟩ : ∃ u : Nat, v = u := ⟨v.toNat, by omega⟩
 rw [jH]
 obtain ⟨h1, h2, h3⟩ := Z3g u
 cases hd : jA u with
 | nil => exact absurd hd h3
 | cons c t =>
  rw [hd] at h1 h2
  simp only [L4k, L0t] at h2
  have hc := h2.1
  unfold Z2p at hc
  simp only [L0t, decide_eq_true_iff] at hc
  have n1 : (c == 45) = false := by
   rw [beq_eq_false_iff_ne]
   rintro rfl
   have : (45 : UInt8).toNat = 45 := rfl
   omega
  have n2 : (c == 43) = false := by
   rw [beq_eq_false_iff_ne]
   rintro rfl
   have : (43 : UInt8).toNat = 43 := rfl
   omega
  simp [Lib.atoi, Lib.decNat, n1, n2, h1]
theorem Y7e {v : Int} (h : Z0z v = true) : Z6r (jF v) = some v := by
 have h8 := Z25 v h
 unfold Z6r
 rw [Lib.atoiAll_short _ (by omega), Y8n]
 exact if_pos ⟨rfl, (Z07 v).1 h⟩
def Stop (t : Txt) : Prop := ∀ c r, t = c :: r -> Z24 c = false /\ Z2p c = false
theorem Stop.cons {c : UInt8} (t : Txt) (h : Z24 c = false /\ Z2p c = false) : Stop (c :: t) := fun _ _ e => by injection e with e1 e2; subst e1; exact h
theorem Y2k {p : UInt8 -> Bool} : ∀ {w t : Txt}, w.all p = true -> (∀ c r, t = c :: r -> p c = false) -> ((w ++ t).takeWhile p).length = w.length
 | [], t, _, h => by
  cases t with
  | nil => rfl
  | cons c r => simp [h c r rfl]
 | x :: w, t, hw, h => by
  simp only [L4k, L0t] at hw
  rw [L4p, List.takeWhile_cons, if_pos hw.1, L0r, Y2k hw.2 h, L0r]
theorem Y4g {c : UInt8} {w t : Txt} (acc : List Txt) (h : ¬ (c.toNat = 32 \/ c.toNat = 10)) (hn : Z0w (c :: (w ++ t)) = some (1 + w.length)) : Z0e (c :: w ++ t) acc = Z0e t (acc ++ [c :: w]) := by
 rw [L4p, Z05 acc rfl h hn (by omega)]
 have e1 : (c :: (w ++ t)).drop (1 + w.length) = t := by rw [Nat.add_comm]; simp
 have e2 : (c :: (w ++ t)).take (1 + w.length) = c :: w := by rw [Nat.add_comm]; simp
 rw [e1, e2]
theorem Z4r {s t : Txt} (acc : List Txt) (h : s.all Z24 = true) (h0 : s ≠ []) (ht : Stop t) : Z0e (s ++ t) acc = Z0e t (acc ++ [s]) := by
 cases s with
 | nil => exact absurd rfl h0
 | cons c w =>
  simp only [L4k, L0t] at h
  have hc := h.1
  unfold Z24 at hc
  simp only [L0t, decide_eq_true_iff] at hc
  refine Y4g acc (by omega) ?_
  unfold Z0w
  dsimp only
  rw [if_pos h.1, Y2k h.2 fun c r e => (ht c r e).1]
theorem Z4s {t : Txt} (acc : List Txt) (v : Int) (ht : Stop t) : Z0e (jF v ++ t) acc = Z0e t (acc ++ [jF v]) := by
 obtain ⟨c, w, e, hc, hw⟩ := Y3s v
 rw [e]
 have hc' : c.toNat = 45 \/ (48 <= c.toNat /\ c.toNat <= 57) := by
  rcases hc with hc | hc
  ·exact .inl hc
  unfold Z2p at hc
  simp only [L0t, decide_eq_true_iff] at hc
  exact .inr hc
 refine Y4g acc (by omega) ?_
 unfold Z0w
 dsimp only
 rw [if_neg ?_, if_pos hc, Y2k hw fun c r e => (ht c r e).2]
 unfold Z24
 simp
 omega
theorem Z16 (t : Txt) (acc : List Txt) : Z0e (32 :: t) acc = Z0e t acc := Z45 acc rfl (.inl rfl)
theorem Z82 (t : Txt) (acc : List Txt) : Z0e (10 :: t) acc = Z0e t acc := Z45 acc rfl (.inr rfl)
theorem Z3t {c : UInt8} (hc : c ∈ ([40, 41, 123, 125, 44, 59, 124, 42] : Txt)) (t : Txt) (acc : List Txt) : Z0e (c :: t) acc = Z0e t (acc ++ [[c]]) := by
 have key : ¬ (c.toNat = 32 \/ c.toNat = 10) /\ Z0w (c :: t) = some 1 := by
  simp only [L2o, jM, or_false] at hc
  rcases hc with rfl | rfl | rfl | rfl | rfl | rfl | rfl | rfl <;> exact ⟨by decide, by simp [Z0w, Z24, Z2p, jE, Lib.indexByte]⟩
 rw [Z05 acc rfl key.1 key.2 (L0g _)]
 rfl
theorem Y1d (t : Txt) (acc : List Txt) : Z0e (46 :: 46 :: t) acc = Z0e t (acc ++ [[46, 46]]) := by
 rw [Z05 (n := 2) acc rfl (by decide) (by simp [Z0w, Z24, Z2p, jE]) (by omega)]
 rfl
theorem Y5p (t : Txt) (acc : List Txt) : Z0e (61 :: 62 :: t) acc = Z0e t (acc ++ [[61, 62]]) := by
 rw [Z05 (n := 2) acc rfl (by decide) (by simp [Z0w, Z24, Z2p, jE]) (by omega)]
 rfl
def sepW {α : Type} (g : α -> List Txt) (sep : Txt) : List α -> List Txt
 | [] => []
 | x :: r => g x ++ r.flatMap fun y => sep :: g y
def rgW (r : Rg) : List Txt := if r.1 < r.2 then [jF r.1, [46, 46], jF r.2] else [jF r.1]
def Z6l (c : Cl) : List Txt := if c.rs.length = 0 then [[42]] else (if c.no then [[110, 111, 116]] else []) ++ sepW rgW [124] c.rs
def Z3b (r : Rl) : List Txt := sepW Z6l [44] r.cells ++ [[61, 62], jF r.out, [59]]
def tabW (t : Tb) : List Txt := [kwT, t.name, Z35 t.pol.toNat] ++ ((if t.comp then [[99, 111, 109, 112, 108, 101, 116, 101]] else []) ++ ([[40]] ++ (sepW (fun s => [s]) [44] t.ins ++ ([[41], [123]] ++ (t.rules.flatMap Z3b ++ [[125]])))))
def domW (d : Dm) : List Txt := [kwD, d.name, jF d.lo, [46, 46], jF d.hi]
def Y6o (a : Txt) (ws : List Txt) : Prop := ∀ t acc, Stop t -> Z0e (a ++ t) acc = Z0e t (acc ++ ws)
theorem Y2n {c : UInt8} (hc : c ∈ ([40, 41, 123, 125, 44, 59, 124, 42] : Txt)) (t : Txt) : Stop (c :: t) := by
 refine Stop.cons t ?_
 simp only [L2o, jM, or_false] at hc
 rcases hc with rfl | rfl | rfl | rfl | rfl | rfl | rfl | rfl <;> exact ⟨by decide, by decide⟩
theorem Y0u {α : Type} {f : α -> Txt} {g : α -> List Txt} {c : UInt8} (hc : c ∈ ([40, 41, 123, 125, 44, 59, 124, 42] : Txt)) : ∀ (r : List α), (∀ x ∈ r, Y6o (f x) (g x)) -> ∀ t, Stop t -> Stop (jJ [c] (r.map f) ++ t) /\ ∀ acc, Z0e (jJ [c] (r.map f) ++ t) acc = Z0e t (acc ++ r.flatMap fun y => [c] :: g y)
 | [], _, t, ht => ⟨by simpa [jJ] using ht, fun acc => by simp [jJ]⟩
 | x :: r, h, t, ht => by
  obtain ⟨h1, h2⟩ := Y0u hc r (fun x hx => h x (L1w _ hx)) t ht
  have e : jJ [c] ((x :: r).map f) ++ t = c :: (f x ++ (jJ [c] (r.map f) ++ t)) := by simp [jJ]
  rw [e]
  refine ⟨Y2n hc _, fun acc => ?_⟩
  rw [Z3t hc, h x (L2d ..) _ _ h1, h2]
  simp
theorem Z7v {α : Type} {f : α -> Txt} {g : α -> List Txt} {c : UInt8} (hc : c ∈ ([40, 41, 123, 125, 44, 59, 124, 42] : Txt)) (l : List α) (h : ∀ x ∈ l, Y6o (f x) (g x)) : Y6o (jI (l.map f) [c]) (sepW g [c] l) := by
 intro t acc ht
 cases l with
 | nil => simp [Lib.join_nil, sepW]
 | cons x r =>
  obtain ⟨h1, h2⟩ := Y0u hc r (fun x hx => h x (L1w _ hx)) t ht
  rw [L2q, Lib.join_cons, L2l, h x (L2d ..) _ _ h1, h2]
  simp [sepW]
theorem Y4h (t : Txt) : Stop (46 :: t) := Stop.cons t ⟨by decide, by decide⟩
theorem Z5y (t : Txt) : Stop (32 :: t) := Stop.cons t ⟨by decide, by decide⟩
theorem X3y (t : Txt) : Stop (10 :: t) := Stop.cons t ⟨by decide, by decide⟩
theorem X03 (r : Rg) : Y6o (Z2f r) (rgW r) := by
 intro t acc ht
 unfold Z2f rgW
 split
 ·rw [L2l, Z4s _ _ (by simp only [L4p]; exact Y4h _)]
  simp only [L4p, L1o]
  rw [Y1d, Z4s _ _ ht]
  simp
 exact Z4s _ _ ht
theorem Y63 (c : Cl) : Y6o (Z0t c) (Z6l c) := by
 intro t acc ht
 unfold Z0t Z6l
 split
 ·exact Z3t (by decide) t acc
 have h := Z7v (f := Z2f) (g := rgW) (c := 124) (by decide) c.rs fun x _ => X03 x
 cases c.no
 ·simp only [L4a, if_false, L1o]
  exact h t acc ht
 simp only [if_true]
 have e : (([110, 111, 116, 32] : Txt) ++ jI (c.rs.map Z2f) [124]) ++ t = [110, 111, 116] ++ (32 :: (jI (c.rs.map Z2f) [124] ++ t)) := by simp
 rw [e, Z4r acc (by decide) (by decide) (Z5y _), Z16, h _ _ ht]
 simp
theorem Y91 (r : Rl) (t : Txt) (acc : List Txt) : Z0e (Z5c r ++ t) acc = Z0e t (acc ++ Z3b r) := by
 have h := Z7v (f := Z0t) (g := Z6l) (c := 44) (by decide) r.cells fun x _ => Y63 x
 have e : Z5c r ++ t = 32 :: 32 :: (jI (r.cells.map Z0t) [44] ++ (32 :: 61 :: 62 :: 32 :: (jF r.out ++ (59 :: 10 :: t)))) := by simp [Z5c]
 rw [e, Z16, Z16, h _ _ (Z5y _), Z16, Y5p, Z16, Z4s _ _ (Y2n (by decide) _), Z3t (by decide), Z82]
 simp [Z3b]
theorem Y1e (t : Txt) : ∀ (l : List Rl) (acc : List Txt), Z0e (Z1w l ++ t) acc = Z0e t (acc ++ l.flatMap Z3b)
 | [], acc => by simp [Z1w]
 | r :: l, acc => by
  have e : Z1w (r :: l) ++ t = Z5c r ++ (Z1w l ++ t) := by simp [Z1w]
  rw [e, Y91, Y1e t l]
  simp
theorem Y32 {s : Txt} (h : Z1e s = true) : s.all Z24 = true /\ s ≠ [] := by
 unfold Z1e at h
 simp only [L0t, decide_eq_true_iff] at h
 refine ⟨h.1, ?_⟩
 rintro rfl
 simp at h
theorem Z56 {s : Txt} (h : Z1e s = true) : Y6o s [s] := fun _ acc ht => Z4r acc (Y32 h).1 (Y32 h).2 ht
theorem Y37 {p : Nat} (h1 : 1 <= p) (h : p <= 7) : Z1e (Z35 p) = true := by
 have : p = 1 \/ p = 2 \/ p = 3 \/ p = 4 \/ p = 5 \/ p = 6 \/ p = 7 := by omega
 rcases this with rfl | rfl | rfl | rfl | rfl | rfl | rfl <;> decide
theorem Y5q {t : Tb} (h : Z0s t = true) : Z0e (Z2t t) [] = some (tabW t) := by
 obtain ⟨hp1, hp7, _⟩ := Z00 h
 have hn : Z1e t.name = true := by
  unfold Z0s at h
  simp only [L0t] at h
  exact (Z68 h.1.1).1
 have hi : ∀ s ∈ t.ins, Z1e s = true := by
  unfold Z0s at h
  simp only [L0t] at h
  exact Z3h h.1.2
 have hj := Z7v (f := fun s : Txt => s) (g := fun s => [s]) (c := 44) (by decide) t.ins fun s hs => Z56 (hi s hs)
 rw [List.map_id'] at hj
 have hpn := Y37 (p := t.pol.toNat) (by omega) (by omega)
 have tail : ∀ acc, Z0e (40 :: (jI t.ins [44] ++ (41 :: 32 :: 123 :: 10 :: (Z1w t.rules ++ [125, 10])))) acc = some (acc ++ ([[40]] ++ (sepW (fun s => [s]) [44] t.ins ++ ([[41], [123]] ++ (t.rules.flatMap Z3b ++ [[125]]))))) := by
  intro acc
  rw [Z3t (by decide), hj _ _ (Y2n (by decide) _), Z3t (by decide), Z16, Z3t (by decide), Z82, Y1e, Z3t (by decide), Z82]
  simp [Z0e, Z12]
 have e : Z2t t = kwT ++ (32 :: (t.name ++ (32 :: (Z35 t.pol.toNat ++ (32 :: ((if t.comp then [99, 111, 109, 112, 108, 101, 116, 101, 32] else []) ++ (40 :: (jI t.ins [44] ++ (41 :: 32 :: 123 :: 10 :: (Z1w t.rules ++ [125, 10])))))))))) := by
  unfold Z2t Z4e kwT
  cases t.comp <;> simp
 rw [e, Z4r [] (by decide) (by decide) (Z5y _), Z16, Z56 hn _ _ (Z5y _), Z16, Z56 hpn _ _ (Z5y _), Z16]
 cases hc : t.comp
 ·simp only [L4a, if_false, L1o]
  rw [tail]
  simp [tabW, hc]
 simp only [if_true]
 have e2 : ∀ x : Txt, ([99, 111, 109, 112, 108, 101, 116, 101, 32] : Txt) ++ x = [99, 111, 109, 112, 108, 101, 116, 101] ++ (32 :: x) := fun x => by simp
 rw [e2, Z4r _ (by decide) (by decide) (Z5y _), Z16, tail]
 simp [tabW, hc]
theorem Y9z {d : Dm} (h : Z1e d.name = true) : Z0e (Z49 d) [] = some (domW d) := by
 have e : Z49 d = kwD ++ (32 :: (d.name ++ (32 :: (jF d.lo ++ (46 :: 46 :: (jF d.hi ++ [10])))))) := by simp [Z49, kwD]
 rw [e, Z4r [] (by decide) (by decide) (Z5y _), Z16, Z56 h _ _ (Z5y _), Z16, Z4s _ _ (Y4h _), Y1d, Z4s _ _ (X3y _), Z82]
 simp [Z0e, Z12, domW]
def NotAt (s : Txt) (l : List Txt) : Prop := ∀ x r, l = x :: r -> x ≠ s
theorem NotAt.cons {s x : Txt} (r : List Txt) (h : x ≠ s) : NotAt s (x :: r) := fun _ _ e => by injection e with e1 _; subst e1; exact h
theorem Y24 {s : Txt} {l : List Txt} (b : Bool) (h : NotAt s l) : atR ⟨l, b⟩ s = (false, ⟨l, b⟩) := by
 cases l with
 | nil => rfl
 | cons x r => simp [atR, h x r rfl]
theorem Z6z (s : Txt) (l : List Txt) (b : Bool) : atR ⟨s :: l, b⟩ s = (true, ⟨l, b⟩) := by simp [atR]
theorem Z7n (s : Txt) (l : List Txt) (b : Bool) : Z28 ⟨s :: l, b⟩ s = ⟨l, b⟩ := by simp [Z28, Z6z]
theorem Z4p {v : Int} (h : Z0z v = true) (l : List Txt) (b : Bool) : Z0l ⟨jF v :: l, b⟩ = (v, ⟨l, b⟩) := by
 unfold Z0l
 have : (Z3j ⟨jF v :: l, b⟩).1 = jF v := rfl
 rw [this, Y7e h]
 rfl
theorem Y19 {s : Txt} (h : Z1e s = true) (l : List Txt) (b : Bool) : Z2u ⟨s :: l, b⟩ = (s, ⟨l, b⟩) := by simp [Z2u, Z3j, h]
theorem X1o {r : Rg} (h1 : Z0z r.1 = true) (h2 : Z0z r.2 = true) (hle : r.1 <= r.2) (l : List Txt) (hl : NotAt [46, 46] l) : Z1s ⟨rgW r ++ l, false⟩ = (r, ⟨l, false⟩) := by
 unfold Z1s rgW
 split
 ·rename_i h
  have e : ([jF r.1, [46, 46], jF r.2] : List Txt) ++ l = jF r.1 :: [46, 46] :: jF r.2 :: l := rfl
  simp only [e, Z4p h1, Z6z, Z4p h2, if_true]
  have : ¬ r.2 <= r.1 := by omega
  simp [this]
 rename_i h
 have e : ([jF r.1] : List Txt) ++ l = jF r.1 :: l := rfl
 simp only [e, Z4p h1, Y24 false hl]
 have : r = (r.1, r.1) := Prod.ext rfl (by dsimp only; omega)
 rw [<- this]
 simp
theorem Z8y {α : Type} {item : Rs -> α × Rs} {sep : Txt} {g : α -> List Txt} {Ok : List Txt -> Prop} (hi : ∀ r, (item r).2.l.length <= r.l.length) (hs : ∀ l, Ok (sep :: l)) (rest : List Txt) (hr : Ok rest) (hn : NotAt sep rest) :
  ∀ (l : List α) (acc : List α), l ≠ [] -> (∀ x ∈ l, ∀ t, Ok t -> item ⟨g x ++ t, false⟩ = (x, ⟨t, false⟩)) -> Z0q item sep ⟨sepW g sep l ++ rest, false⟩ acc = (acc ++ l, ⟨rest, false⟩)
 | [], _, h, _ => absurd rfl h
 | [x], acc, _, h => by
  have e : sepW g sep [x] ++ rest = g x ++ rest := by simp [sepW]
  rw [e]
  exact Z5u acc rfl (h x (List.mem_singleton_self x) rest hr) (Y24 false hn)
 | x :: y :: l, acc, _, h => by
  have e : sepW g sep (x :: y :: l) ++ rest = g x ++ (sep :: (sepW g sep (y :: l) ++ rest)) := by simp [sepW]
  rw [e, Z6p hi acc rfl (h x (L2d ..) _ (hs _)) (Z6z sep _ _), Z8y hi hs rest hr hn (y :: l) (acc ++ [x]) (by simp) fun z hz => h z (L1w _ hz)]
  simp
theorem Y27 : ∀ (f : Nat) (r : Rs) (acc : List Rg), Z3o f r acc = Z18 Z1s [124] f r acc := by
 intro f
 induction f with
 | zero => intro _ _; rfl
 | succ f ih => intro r acc; simp only [Z3o, Z18, ih]
theorem Y1y (r : Rs) (acc : List Rg) : Z10 r acc = Z0q Z1s [124] r acc := Y27 _ _ _
theorem Y3r : ∀ {l : List Rg} {a : Int}, Z33 a l = true -> ∀ r ∈ l, r.1 <= r.2
 | [], _, _, _, hr => by simp at hr
 | x :: l, a, h, r, hr => by
  simp only [Z33, L0t, decide_eq_true_iff] at h
  rcases L2o.1 hr with rfl | hr
  ·exact h.1.1.2
  exact Y3r h.2 r hr
def OkC (l : List Txt) : Prop := NotAt [46, 46] l /\ NotAt [124] l
theorem Z7y (v : Int) {s : Txt} (h : s.head?.all (fun c => !(decide (c.toNat = 45) || Z2p c)) = true) : jF v ≠ s := by
 obtain ⟨c, t, e, hc, _⟩ := Y3s v
 rintro rfl
 rw [e] at h
 simp at h
 rcases hc with hc | hc
 ·exact h.1 hc
 rw [h.2] at hc; cases hc
theorem Y2i (r : Rg) (l : List Txt) : ∃ m, rgW r ++ l = jF r.1 :: m := by
 unfold rgW
 split <;> exact ⟨_, rfl⟩
theorem X28 {c : Cl} (h : Z1f c = true) (t : List Txt) (ht : OkC t) : Z3v ⟨Z6l c ++ t, false⟩ = (c, ⟨t, false⟩) := by
 obtain ⟨no, rs⟩ := c
 unfold Z1f at h
 simp only [L0t, decide_eq_true_iff] at h
 obtain ⟨⟨_, hs⟩, hn⟩ := h
 unfold Z3v Z6l
 dsimp only
 by_cases h0 : rs.length = 0
 ·rw [if_pos h0]
  obtain rfl : rs = [] := L1g h0
  obtain rfl : no = false := by simpa using hn
  have e : ([[42]] : List Txt) ++ t = [42] :: t := rfl
  simp only [e, Z6z, if_true]
 rw [if_neg h0]
 have hI := Z8y (item := Z1s) (sep := [124]) (g := rgW) (Ok := NotAt [46, 46]) Z6c (fun l => NotAt.cons l (by decide)) t ht.1 ht.2 rs [] (by rintro rfl; exact h0 rfl)
  fun r hr l hl => X1o (Z6a hs r hr).1 (Z6a hs r hr).2 (Y3r hs r hr) l hl
 rw [L1o, <- Y1y] at hI
 obtain ⟨m, hm⟩ : ∃ m v, sepW rgW [124] rs ++ t = jF v :: m := by
  cases rs with
  | nil => exact absurd rfl h0
  | cons r l =>
   obtain ⟨m, hm⟩ := Y2i r ((l.flatMap fun y => [124] :: rgW y) ++ t)
   exact ⟨m, r.1, by rw [<- hm]; simp [sepW]⟩
 obtain ⟨v, hm⟩ := hm
 have n1 : NotAt [42] (sepW rgW [124] rs ++ t) := by rw [hm]; exact NotAt.cons _ (Z7y v (by decide))
 have n2 : NotAt [110, 111, 116] (sepW rgW [124] rs ++ t) := by rw [hm]; exact NotAt.cons _ (Z7y v (by decide))
 cases no
 ·simp only [L4a, if_false, L1o]
  simp only [Y24 false n1, Y24 false n2, hI]
  simp
 simp only [if_true]
 have e : (([[110, 111, 116]] : List Txt) ++ sepW rgW [124] rs) ++ t = [110, 111, 116] :: (sepW rgW [124] rs ++ t) := by simp
 have n3 : NotAt [42] ([110, 111, 116] :: (sepW rgW [124] rs ++ t)) := NotAt.cons _ (by decide)
 simp only [e, Y24 false n3, Z6z, hI]
 simp
theorem Y6y (c : Cl) (l : List Txt) : ∃ x m, Z6l c ++ l = x :: m /\ x ≠ [125] /\ x ≠ [46, 46] /\ x ≠ [124] /\ x ≠ [44] \/ Z6l c = [] := by
 unfold Z6l
 split
 ·exact ⟨[42], l, .inl ⟨rfl, by decide, by decide, by decide, by decide⟩⟩
 cases hn : c.no
 ·cases hr : c.rs with
  | nil => exact ⟨[], [], .inr (by simp [sepW])⟩
  | cons r rs =>
   obtain ⟨m, hm⟩ := Y2i r ((rs.flatMap fun y => [124] :: rgW y) ++ l)
   exact ⟨jF r.1, m, .inl ⟨by rw [<- hm]; simp [sepW], Z7y _ (by decide), Z7y _ (by decide), Z7y _ (by decide), Z7y _ (by decide)⟩⟩
 exact ⟨[110, 111, 116], sepW rgW [124] c.rs ++ l, .inl ⟨by simp, by decide, by decide, by decide, by decide⟩⟩
theorem X2e {x : Txt} (h1 : x ≠ [46, 46]) (h2 : x ≠ [124]) (l : List Txt) : OkC (x :: l) := ⟨NotAt.cons l h1, NotAt.cons l h2⟩
theorem X3u {n : Nat} {r : Rl} (h : Z0o n r = true) (hn : 1 <= n) (t : List Txt) : Z79 ⟨Z3b r ++ t, false⟩ = (r, ⟨t, false⟩) := by
 obtain ⟨cells, out⟩ := r
 unfold Z0o at h
 simp only [L0t, decide_eq_true_iff, L1t] at h
 obtain ⟨⟨ho, hl⟩, hc⟩ := h
 have hI := Z8y (item := Z3v) (sep := [44]) (g := Z6l) (Ok := OkC) Z60 (fun l => X2e (by decide) (by decide) l) ([61, 62] :: jF out :: [59] :: t) (X2e (by decide) (by decide) _) (NotAt.cons _ (by decide)) cells [] (by rintro rfl; simp at hl; omega)
  fun c hc' l hl => X28 (hc c hc') l hl
 have e : Z3b ⟨cells, out⟩ ++ t = sepW Z6l [44] cells ++ ([61, 62] :: jF out :: [59] :: t) := by simp [Z3b]
 unfold Z79
 rw [e, hI]
 simp only [L1o, Z7n, Z4p ho]
theorem Y6i {n : Nat} (hn : 1 <= n) (t : List Txt) : ∀ (l acc : List Rl), (∀ r ∈ l, Z0o n r = true) -> Z2s ⟨l.flatMap Z3b ++ ([125] :: t), false⟩ acc = (acc ++ l, ⟨t, false⟩)
 | [], acc, _ => by
  rw [L2z]
  exact Z8j acc rfl (Z6z [125] t false)
 | r :: l, acc, h => by
  have e : (r :: l).flatMap Z3b ++ ([125] :: t) = Z3b r ++ (l.flatMap Z3b ++ ([125] :: t)) := by simp
  have hr := h r (L2d ..)
  have hne : NotAt [125] (Z3b r ++ (l.flatMap Z3b ++ ([125] :: t))) := by
   have hl : r.cells.length = n := by
    unfold Z0o at hr
    simp only [L0t, decide_eq_true_iff] at hr
    exact hr.1.2
   cases hc : r.cells with
   | nil => rw [hc] at hl; simp at hl; omega
   | cons c cs =>
    have e2 : Z3b r ++ (l.flatMap Z3b ++ ([125] :: t)) = Z6l c ++ ((cs.flatMap fun y => [44] :: Z6l y) ++ [[61, 62], jF r.out, [59]] ++ (l.flatMap Z3b ++ ([125] :: t))) := by simp [Z3b, hc, sepW]
    rw [e2]
    obtain ⟨x, m, hx⟩ := Y6y c ((cs.flatMap fun y => [44] :: Z6l y) ++ [[61, 62], jF r.out, [59]] ++ (l.flatMap Z3b ++ ([125] :: t)))
    rcases hx with hx | hx
    ·rw [hx.1]; exact NotAt.cons _ hx.2.1
    exfalso
    unfold Z6l at hx
    split at hx
    ·cases hx
    rename_i h0
    cases hrs : c.rs with
    | nil => exact h0 (by rw [hrs]; rfl)
    | cons q qs =>
     rw [hrs] at hx
     have h1 := (jL.1 hx).2
     have h2 := (jL.1 h1).1
     obtain ⟨m, hm⟩ := Y2i q []
     rw [h2] at hm
     cases hm
  rw [e, Z97 acc rfl (Y24 false hne) (X3u hr hn _), Y6i hn t l (acc ++ [r]) fun x hx => h x (L1w _ hx)]
  simp
theorem X3i {p : Nat} (h1 : 1 <= p) (h : p <= 7) : Z7w pols (Z35 p) = p := by
 have : p = 1 \/ p = 2 \/ p = 3 \/ p = 4 \/ p = 5 \/ p = 6 \/ p = 7 := by omega
 rcases this with rfl | rfl | rfl | rfl | rfl | rfl | rfl <;> decide
theorem X3w {l : List Txt} (h : ∀ s ∈ l, Z1e s = true) (h0 : l ≠ []) (t : List Txt) (hn : NotAt [44] t) : Z0q Z2u [44] ⟨sepW (fun s => [s]) [44] l ++ t, false⟩ [] = (l, ⟨t, false⟩) := by
 have := Z8y (item := Z2u) (sep := [44]) (g := fun s : Txt => [s]) (Ok := fun _ => True) (fun r => by unfold Z2u Z3j; obtain ⟨l, b⟩ := r; cases l <;> simp) (fun _ => trivial) t trivial hn l [] h0 fun s hs x _ => Y19 (h s hs) x false
 simpa using this
theorem X10 {t : Tb} (h : Z0s t = true) : Z27 ⟨(tabW t).drop 1, false⟩ = (t, ⟨[], false⟩) := by
 obtain ⟨hp1, hp7, hi1, _, _, _⟩ := Z00 h
 have hg := h
 unfold Z0s at hg
 simp only [L0t, L1t] at hg
 have hn : Z1e t.name = true := (Z68 hg.1.1).1
 have hi : ∀ s ∈ t.ins, Z1e s = true := Z3h hg.1.2
 have hr := Y6i (n := t.ins.length) hi1 [] t.rules [] hg.2
 have hI := X3w hi (by intro e; rw [e] at hi1; simp at hi1) ([41] :: [123] :: (t.rules.flatMap Z3b ++ [[125]])) (NotAt.cons _ (by decide))
 obtain ⟨p, hp⟩ : ∃ p : Nat, t.pol = p := ⟨t.pol.toNat, by omega⟩
 have hx : Z7w pols (Z35 t.pol.toNat) = t.pol := by rw [hp]; exact X3i (by omega) (by omega)
 obtain ⟨nm, pol, comp, ins, rules⟩ := t
 dsimp only at *
 have rest : ∀ b, Z28 ⟨[40] :: (sepW (fun s => [s]) [44] ins ++ ([41] :: [123] :: (rules.flatMap Z3b ++ [[125]]))), b⟩ [40] = ⟨sepW (fun s => [s]) [44] ins ++ ([41] :: [123] :: (rules.flatMap Z3b ++ [[125]])), b⟩ := fun b => Z7n _ _ _
 have nx : ∀ (x : Txt) l, Z3j ⟨x :: l, false⟩ = (x, ⟨l, false⟩) := fun _ _ => rfl
 cases comp
 ·have e : (tabW ⟨nm, pol, false, ins, rules⟩).drop 1 = nm :: Z35 pol.toNat :: [40] :: (sepW (fun s => [s]) [44] ins ++ ([41] :: [123] :: (rules.flatMap Z3b ++ [[125]]))) := by simp [tabW]
  unfold Z27
  simp only [e, Y19 hn, nx, hx, Y24 false (NotAt.cons (s := [99, 111, 109, 112, 108, 101, 116, 101]) (x := [40]) (sepW (fun s => [s]) [44] ins ++ ([41] :: [123] :: (rules.flatMap Z3b ++ [[125]]))) (by decide)), rest, hI, Z7n, hr, L1o]
 have e : (tabW ⟨nm, pol, true, ins, rules⟩).drop 1 = nm :: Z35 pol.toNat :: [99, 111, 109, 112, 108, 101, 116, 101] :: [40] :: (sepW (fun s => [s]) [44] ins ++ ([41] :: [123] :: (rules.flatMap Z3b ++ [[125]]))) := by simp [tabW]
 unfold Z27
 simp only [e, Y19 hn, nx, hx, Z6z, rest, hI, Z7n, hr, L1o]
theorem Y5g {t : Tb} (h : Z0s t = true) : Z0d (Z2t t) = ⟨dm0, t, true, 0⟩ := by
 have hl := Z5z h
 have h0 : rd0 (Z2t t) = ⟨tabW t, false⟩ := by unfold rd0; rw [Y5q h]; rfl
 have e : tabW t = kwT :: (tabW t).drop 1 := by simp [tabW]
 have a1 : atR ⟨tabW t, false⟩ kwD = (false, ⟨tabW t, false⟩) := Y24 false (by rw [e]; exact NotAt.cons _ (by decide))
 have a2 : atR ⟨tabW t, false⟩ kwT = (true, ⟨(tabW t).drop 1, false⟩) := by
  rw [e]
  exact Z6z _ _ _
 unfold Z0d
 rw [if_neg (by omega), h0]
 simp only [a1, a2, X10 h, h]
 simp
theorem Z58 {d : Dm} (h : Z4d d = true) : Z1e d.name = true /\ Z0z d.lo = true /\ Z0z d.hi = true := by
 unfold Z4d at h
 simp only [L0t, decide_eq_true_iff] at h
 obtain ⟨h1, h2, h3, h4⟩ := h
 exact ⟨h1, (Z07 _).2 ⟨h2, by omega⟩, (Z07 _).2 ⟨by omega, h4⟩⟩
theorem Y34 {d : Dm} (h : Z4d d = true) : Z0d (Z49 d) = ⟨d, tb0, false, 0⟩ := by
 obtain ⟨hn, h1, h2⟩ := Z58 h
 have l1 := Z4m hn
 have l2 := Z25 _ h1
 have l3 := Z25 _ h2
 have h0 : rd0 (Z49 d) = ⟨domW d, false⟩ := by unfold rd0; rw [Y9z hn]; rfl
 have e : domW d = kwD :: d.name :: jF d.lo :: [46, 46] :: jF d.hi :: [] := rfl
 have a1 : atR ⟨domW d, false⟩ kwD = (true, ⟨d.name :: jF d.lo :: [46, 46] :: jF d.hi :: [], false⟩) := by rw [e]; exact Z6z _ _ _
 have hd : Z8o ⟨d.name :: jF d.lo :: [46, 46] :: jF d.hi :: [], false⟩ = (d, ⟨[], false⟩) := by
  unfold Z8o
  simp only [Y19 hn, Z4p h1, Z7n, Z4p h2]
 unfold Z0d
 rw [if_neg (by unfold Z49; simp; omega), h0]
 simp only [a1, hd, h]
 simp
def Z8k (t : Tb) : Txt × Int := if Z0s t then (Z2t t, 0) else ([], 1)
theorem Y8e {S : Nat -> Prop} {cs : List Value} (t : Tb) (w : World) (hl : rTb.rel w S cs t) (hw : LibW w) (hpw : PolW w) :
  Calls Tryz.prog 51 #[.agg cs.toArray] w fun e w' => e = .returned (.tuple #[.string ⟨(Z8k t).1.toArray⟩, .int .i64 (Z8k t).2]) /\ Bw w w' := by
 unfold Z8k
 cases hg : Z0s t
 ·have HL := L0 hl
  obtain ⟨vi, vr, rfl, hnm, hp, hi, hr⟩ := hl
  obtain ⟨A, c, rfl, _⟩ := rSl.elems hi
  obtain ⟨B, d, rfl, _⟩ := rSl.elems hr
  obtain ⟨W0, e0, HB0, c0, c1, c2, c3, c4, hs0⟩ : ∃ W0, w.alloc (.cells #[sq t.name, .int .i64 t.pol, .bool t.comp, .slice A t.ins.length c, .slice B t.rules.length d] 66) = W0 /\ Hid (Bw w W0) /\
    W0.cell? (zn w.heap.size 0) = some (sq t.name) /\ W0.cell? (zn w.heap.size 1) = some (.int .i64 t.pol) /\ W0.cell? (zn w.heap.size 2) = some (.bool t.comp) /\ W0.cell? (zn w.heap.size 3) = some (.slice A t.ins.length c) /\ W0.cell? (zn w.heap.size 4) = some (.slice B t.rules.length d) /\ w.heap.size < W0.heap.size :=
   ⟨_, rfl, L0 bA, L0b _ _ _ _, L0b _ _ _ _, L0b _ _ _ _, L0b _ _ _ _, L0b _ _ _ _, by simp⟩
  have HG0 := L0 (Y1s W0 (jN HL.o HB0.o) hg)
  clear hi hr hw hpw hg hnm hp
  go_enter Tryz.func51, Tryz.ntmps51
  go_wp2_with (go_at_call 79; (with_reducible refine HG0.o.mono ?_); rintro e w1 ⟨rfl, hb1⟩; have HB1 := L0 (HB0.o.trans (hb1.mono HB0.o.size)); clear hb1)
  go_ret2
  exact ⟨rfl, HB1.o⟩
 exact Y8f t w hl hg hw hpw
