import Derived.Test.YtlopccnehgolnabGreatDoorGK36
import Derived.Test.YtlopccnehgolnabGreatDoorGK37
namespace Go.Proofs.YtlopccnehgolnabGreatDoor
open Go.RowKit Rb
open Go.Lib renaming decDigits -> jA, decDigits_length -> jB, decFrom -> jC, digitVal -> jD, itoa -> jE, itoa_neg -> jF, itoa_nonneg -> jG, join -> jH, nDigits_small -> jI
open List renaming all_cons -> jJ
open Rd renaming below -> jK
set_option maxRecDepth 100000
set_option maxHeartbeats 6400000
theorem Z8z (u : Nat) (h : u <= 1000000) : Lib.nDigits u <= 7 := by
 have : ∀ (k u : Nat), u < 10 ^ (k + 1) -> Lib.nDigits u <= k + 1 := by
  intro k
  induction k with
  | zero => intro u hu; rw [jI (by simpa using hu)]; omega
  | succ k ih =>
   intro u hu
   by_cases h : u < 10
   ·rw [jI h]; omega
   rw [Lib.nDigits_big h]
   have := ih (u / 10) (by rw [Nat.pow_succ] at hu; omega)
   omega
 exact this 6 u (by omega)
theorem Z36 (n : Int) (h : Z0v n = true) : (jE n).length <= 8 := by
 obtain ⟨h0, h1⟩ := (Z02 n).1 h
 by_cases hneg : n < 0
 ·obtain ⟨u, rfl⟩ : ∃ u : Nat, n = -(u : Int) := ⟨n.natAbs, by omega⟩
  rw [jF u (by omega), L0s, jB]
  have := Z8z u (by omega)
  omega
 obtain ⟨u, rfl⟩ : ∃ u : Nat, n = u := ⟨n.toNat, by omega⟩
 rw [jG, jB]
 have := Z8z u (by omega)
 omega
theorem Z5m : ∀ {l : List Rg} {a : Int}, Z3n a l = true -> ∀ r ∈ l, Z0v r.1 = true /\ Z0v r.2 = true
 | [], _, _, _, hr => by simp at hr
 | x :: l, a, h, r, hr => by
  simp only [Z3n, L0y] at h
  rcases L3e.1 hr with rfl | hr
  ·exact ⟨h.1.1.1.1, h.1.1.1.2⟩
  exact Z5m h.2 r hr
theorem Y33 {r : Rg} (h1 : Z0v r.1 = true) (h2 : Z0v r.2 = true) : (Z2w r).length <= 18 := by
 have a := Z36 _ h1
 have b := Z36 _ h2
 unfold Z2w
 split <;> simp <;> omega
theorem Z8c {c : Cl} (h : Z1a c = true) : (Z0w c).length <= 80 := by
 unfold Z1a at h
 simp only [L0y, decide_eq_true_iff] at h
 have h1 := Z6l (l := c.rs.map Z2w) (sep := [124]) (m := 19) (fun x hx => by
  obtain ⟨r, hr, rfl⟩ := L3u.1 hx
  obtain ⟨g1, g2⟩ := Z5m h.1.2 r hr
  have := Y33 g1 g2
  simp only [L0p]
  omega)
 rw [L1h] at h1
 have h4 := h.1.1
 unfold Z0w
 split
 ·simp
 cases c.no <;> simp <;> omega
def Z7m (r : Rl) : Txt := [32, 32] ++ jH (r.cells.map Z0w) [44] ++ [32, 61, 62, 32] ++ jE r.out ++ [59, 10]
def Z31 (l : List Rl) : Txt := (l.map Z7m).flatten
theorem Y34 (l : List Rl) (r : Rl) : Z31 (l ++ [r]) = Z31 l ++ Z7m r := by simp [Z31]
theorem Y2m {n : Nat} {r : Rl} (h : Z0m n r = true) (hn : n <= 3) : (jH (r.cells.map Z0w) [44]).length <= 243 := by
 unfold Z0m at h
 simp only [L0y, decide_eq_true_iff, L2e] at h
 have h1 := Z6l (l := r.cells.map Z0w) (sep := [44]) (m := 81) (fun x hx => by
  obtain ⟨c, hc, rfl⟩ := L3u.1 hx
  have := Z8c (h.2 c hc)
  simp only [L0p]
  omega)
 rw [L1h, h.1.2] at h1
 omega
theorem Y5z {n : Nat} {r : Rl} (h : Z0m n r = true) (hn : n <= 3) : (Z7m r).length <= 259 := by
 have h1 := Y2m h hn
 unfold Z0m at h
 simp only [L0y] at h
 have h2 := Z36 _ h.1.1
 unfold Z7m
 simp only [L0i, L0s, L0u]
 omega
theorem Z57 {n : Nat} (hn : n <= 3) : ∀ {l : List Rl}, (∀ r ∈ l, Z0m n r = true) -> (Z31 l).length <= 259 * l.length
 | [], _ => by simp [Z31]
 | x :: l, h => by
  have h1 := Y5z (h x (L3d ..)) hn
  have h2 := Z57 hn fun r hr => h r (L2u _ hr)
  unfold Z31 at *
  simp only [L2w, List.flatten_cons, L0i, L0s]
  omega
theorem Z5b {s : Txt} (h : Z12 s = true) : s.length <= 8 := by
 unfold Z12 at h
 simp only [L0y, decide_eq_true_iff] at h
 omega
theorem Z6j : ∀ {l seen : List Txt}, Z2m seen l = true -> ∀ s ∈ l, Z12 s = true
 | [], _, _, _, hs => by simp at hs
 | x :: l, seen, h, s, hs => by
  simp only [Z2m, L0y] at h
  rcases L3e.1 hs with rfl | hs
  ·exact h.1.1
  exact Z6j h.2 s hs
theorem Y2n {t : Tb} (h : Z0u t = true) : (jH t.ins [44]).length <= 27 := by
 have h3 := (Z07 h).2.2.2.1
 unfold Z0u at h
 simp only [L0y] at h
 have h1 := Z6l (l := t.ins) (sep := [44]) (m := 9) (fun x hx => by
  have := Z5b (Z6j h.1.2 x hx)
  simp only [L0p]
  omega)
 omega
theorem Z5l {t : Tb} (h : Z0u t = true) : t.name.length <= 8 := by
 unfold Z0u at h
 simp only [L0y] at h
 exact Z5b (Y03 h.1.1).1
theorem Z9y {t : Tb} (h : Z0u t = true) {r : Rl} (hr : r ∈ t.rules) : Z0m t.ins.length r = true := by
 unfold Z0u at h
 simp only [L0y, L2e] at h
 exact h.2 r hr
def Z84 (p : Nat) : Txt := pols.getD p []
theorem Y2v {p : Nat} (h : p <= 7) : pols[p]? = some (Z84 p) /\ (Z84 p).length <= 6 := by
 have : p < 8 := by omega
 match p, this with
 | 0, _ | 1, _ | 2, _ | 3, _ | 4, _ | 5, _ | 6, _ | 7, _ => exact ⟨rfl, by decide⟩
def Z4g (t : Tb) : Txt := [116, 97, 98, 108, 101, 32] ++ t.name ++ [32] ++ Z84 t.pol.toNat ++ (if t.comp then [32, 99, 111, 109, 112, 108, 101, 116, 101] else []) ++ ([32, 40] ++ jH t.ins [44] ++ [41, 32, 123, 10])
def Z6u (t : Tb) : Txt := Z4g t ++ Z31 t.rules ++ [125, 10]
theorem Z8p {t : Tb} (h : Z0u t = true) : (Z4g t).length <= 63 := by
 have h1 := Z5l h
 have h2 := Y2n h
 have h3 := (Y2v (p := t.pol.toNat) (by have := (Z07 h).2.1; omega)).2
 unfold Z4g
 cases t.comp <;> simp <;> omega
theorem Z7o {t : Tb} (h : Z0u t = true) : (Z6u t).length <= 1700 := by
 have h1 := Z8p h
 obtain ⟨_, _, _, hn, _, h6⟩ := Z07 h
 have h2 := Z57 (l := t.rules) hn fun r hr => Z9y h hr
 unfold Z6u
 simp only [L0i, L0s, L0u]
 omega
theorem X2w (w : World) (S : Nat -> Prop) (c : Cl) (h : (Z0w c).length <= 80) : rStr.rel w S [.string ⟨(Z0w c).toArray⟩] (Z0w c) := ⟨rfl, by omega⟩
theorem X1p (nm pt J : Txt) (comp : Bool) (p : Nat) (ins : List Txt) (rules : List Rl) (hp : Z84 p = pt) (hJ : jH ins [44] = J) :
  (⟨#[116, 97, 98, 108, 101, 32]⟩ : ByteArray) ++ ⟨nm.toArray⟩ ++ ⟨#[32]⟩ ++ ⟨pt.toArray⟩ ++ ⟨(if comp then [32, 99, 111, 109, 112, 108, 101, 116, 101] else [] : Txt).toArray⟩ ++ (⟨#[32, 40]⟩ ++ ⟨J.toArray⟩ ++ ⟨#[41, 32, 123, 10]⟩) = ⟨(Z4g ⟨nm, p, comp, ins, rules⟩).toArray⟩ := by
 apply ByteArray.ext
 simp [ByteArray.data_append, Z4g, hp, hJ]
theorem X2u (nm pt J : Txt) (p : Nat) (ins : List Txt) (rules : List Rl) (hp : Z84 p = pt) (hJ : jH ins [44] = J) :
  (⟨#[116, 97, 98, 108, 101, 32]⟩ : ByteArray) ++ ⟨nm.toArray⟩ ++ ⟨#[32]⟩ ++ ⟨pt.toArray⟩ ++ ⟨#[32, 99, 111, 109, 112, 108, 101, 116, 101]⟩ ++ (⟨#[32, 40]⟩ ++ ⟨J.toArray⟩ ++ ⟨#[41, 32, 123, 10]⟩) = ⟨(Z4g ⟨nm, p, true, ins, rules⟩).toArray⟩ :=
 X1p nm pt J true p ins rules hp hJ
theorem X2t (nm pt J : Txt) (p : Nat) (ins : List Txt) (rules : List Rl) (hp : Z84 p = pt) (hJ : jH ins [44] = J) :
  (⟨#[116, 97, 98, 108, 101, 32]⟩ : ByteArray) ++ ⟨nm.toArray⟩ ++ ⟨#[32]⟩ ++ ⟨pt.toArray⟩ ++ (⟨#[32, 40]⟩ ++ ⟨J.toArray⟩ ++ ⟨#[41, 32, 123, 10]⟩) = ⟨(Z4g ⟨nm, p, false, ins, rules⟩).toArray⟩ := by
 apply ByteArray.ext
 simp [ByteArray.data_append, Z4g, hp, hJ]
theorem X2x (sx J O : Txt) (r : Rl) (hJ : jH (r.cells.map Z0w) [44] = J) (hO : jE r.out = O) :
  (⟨sx.toArray⟩ : ByteArray) ++ ((⟨#[32, 32]⟩ : ByteArray) ++ ⟨J.toArray⟩ ++ ⟨#[32, 61, 62, 32]⟩ ++ ⟨O.toArray⟩ ++ ⟨#[59, 10]⟩) = ⟨(sx ++ Z7m r).toArray⟩ := by
 apply ByteArray.ext
 simp [ByteArray.data_append, Z7m, hJ, hO]
theorem Y6r {S : Nat -> Prop} {cs : List Value} (t : Tb) (w : World) (hl : rTb.rel w S cs t) (hg : Z0u t = true) (hw : LibW w) (hpw : PolW w) :
  Calls Tryz.prog 109 #[.agg cs.toArray] w fun e w' => e = .returned (.tuple #[.string ⟨(Z6u t).toArray⟩, .int .i64 0]) /\ Below w.heap.size w w' := by
 have HL := L0 hl
 obtain ⟨vi, vr, rfl, hnm, hp, hi, hr⟩ := hl
 obtain ⟨A, c, rfl, hi1, hi2, hi3, hE⟩ := rSl.elems hi
 obtain ⟨B, d, rfl, hr1, hr2, hr3, hF⟩ := rSl.elems hr
 obtain ⟨hp1, hp7, hi1', hi3', hr1', hr6'⟩ := Z07 hg
 have HLN := L0 (Z5l hg)
 have HJL := L0 (Y2n hg)
 have HHL := L0 (Z8p hg)
 have HTL := L0 (Z7o hg)
 have HGR : Hid (∀ r ∈ t.rules, Z0m t.ins.length r = true) := L0 fun r hr => Z9y hg hr
 have HG1 := L0 hg
 obtain ⟨nm, pol, comp, ins, rules⟩ := t
 dsimp only at *
 obtain ⟨p, rfl⟩ : ∃ p : Nat, pol = p := ⟨pol.toNat, by omega⟩
 obtain ⟨W0, e0, HB0, c0, c1, c2, c3, c4, hs0⟩ : ∃ W0, w.alloc (.cells #[.string ⟨nm.toArray⟩, .int .i64 p, .bool comp, .slice A ins.length c, .slice B rules.length d] 42) = W0 /\ Hid (Below w.heap.size w W0) /\
   W0.cell? ⟨w.heap.size, 0, none⟩ = some (.string ⟨nm.toArray⟩) /\ W0.cell? ⟨w.heap.size, 1, none⟩ = some (.int .i64 p) /\ W0.cell? ⟨w.heap.size, 2, none⟩ = some (.bool comp) /\ W0.cell? ⟨w.heap.size, 3, none⟩ = some (.slice A ins.length c) /\ W0.cell? ⟨w.heap.size, 4, none⟩ = some (.slice B rules.length d) /\ w.heap.size < W0.heap.size :=
  ⟨_, rfl, L0 bA, L0b _ _ _ _, L0b _ _ _ _, L0b _ _ _ _, L0b _ _ _ _, L0b _ _ _ _, by simp⟩
 have HG0 := L0 (Y0q W0 (jK HL.o HB0.o) HG1.o)
 have HW0 := L0 (hw.below HB0.o)
 have HP0 := L0 (hpw.below HB0.o)
 have HI := L0 hi
 have HF := L0 hF
 have HR6 := L0 hr6'
 have HI3 := L0 hi3'
 obtain ⟨hpt, hpl⟩ := Y2v (p := p) (by omega)
 obtain ⟨J, hJ⟩ : ∃ x, jH ins [44] = x := ⟨_, rfl⟩
 have HJ := L0 hJ
 rw [hJ] at HJL
 obtain ⟨pt, hpe⟩ : ∃ x, Z84 p = x := ⟨_, rfl⟩
 have HPE := L0 hpe
 rw [hpe] at hpt hpl
 have HPT := L0 hpt
 have hp0' : (0 : Int) <= (p : Int) := by omega
 have hp8' : (p : Int) < 8 := by omega
 have hp8n : p < 8 := by omega
 have a1 : nm.length <= 8 := HLN.o
 have a2 : J.length <= 27 := HJL.o
 have s1 : ¬ (9223372036854775807 < 6 + nm.length) := by omega
 have s2 : ¬ (9223372036854775807 < 6 + nm.length + 1) := by omega
 have s3 : ¬ (9223372036854775807 < 6 + nm.length + 1 + pt.length) := by omega
 have s4 : ¬ (9223372036854775807 < 6 + nm.length + 1 + pt.length + 9) := by omega
 have s5 : ¬ (9223372036854775807 < 2 + J.length) := by omega
 have s6 : ¬ (9223372036854775807 < 2 + J.length + 4) := by omega
 have s7 : ¬ (9223372036854775807 < 6 + nm.length + 1 + pt.length + 9 + (2 + J.length + 4)) := by omega
 have s8 : ¬ (9223372036854775807 < 6 + nm.length + 1 + pt.length + (2 + J.length + 4)) := by omega
 clear hi hr hE hF hw hpw hg hi1 hi2 hi3 hr1 hr2 hr3 hi1' hi3' hr1' hr6' hp1 hp7 hJ hpt hpe a1 a2 hnm hp hpl
 obtain ⟨hd, hhd⟩ : ∃ x, Z4g ⟨nm, p, comp, ins, rules⟩ = x := ⟨_, rfl⟩
 have HHD := L0 hhd
 rw [hhd] at HHL
 clear hhd
 go_enter Tryz.func109, Tryz.ntmps109
 cases comp
 all_goals
  go_wp2_with (go_at_call 51; (with_reducible refine HG0.o.mono ?_); rintro e w1 ⟨rfl, hb1⟩; have HB1 := L0 hb1; have d0 := (hb1.ce 0 hs0).trans c0; have d1 := (hb1.ce 1 hs0).trans c1; have d2 := (hb1.ce 2 hs0).trans c2; have d3 := (hb1.ce 3 hs0).trans c3; have d4 := (hb1.ce 4 hs0).trans c4; have HP1 := L0 (HP0.o.below hb1); have pc := HP1.o.2 p pt HPT.o; have hbd := L0 (HB0.o.trans (hb1.mono HB0.o.size)); have HS1 := L0 (L0c hs0 hb1.size); clear hb1 c0 c1 c2 c3 c4)
  go_region
  go_wp2_with (go_at_call 65; (with_reducible refine (Z77 [44] w1.drew (jK HI.o hbd.out.drew) (by rw [HJ.o]; have := HJL.o; omega)).mono ?_); rw [HJ.o]; rintro e w2 ⟨rfl, hb2⟩; have HB2 := L0 (HB1.o.drew.trans (hb2.mono HB1.o.size)); have f4 := (hb2.ce 4 HS1.o).trans d4; clear hb2 d0 d1 d2 d3 d4 pc)
  clear s1 s2 s3 s4 s5 s6 s7 s8 hp0' hp8' hp8n
  go_loopw [4, 36] (fun z i wr => ∃ (k : Nat) (sx : Txt), k <= rules.length /\ i = .int .i64 k /\ z = .string ⟨sx.toArray⟩ /\ Hid (sx = hd ++ Z31 (rules.take k)) /\ Hid (Below W0.heap.size W0 wr)) (fun _ i _ => rules.length - (intOf i).toNat)
  exact ⟨0, hd, L0o _, rfl, by rw [<- HHD.o]; first | exact congrArg Value.string (X2u nm pt J p ins rules HPE.o HJ.o) | exact congrArg Value.string (X2t nm pt J p ins rules HPE.o HJ.o), L0 (by simp [Z31]), HB2⟩
  obtain ⟨k, sx, hk, rfl, rfl, HSX, HB⟩ := hrel
  have hr6 : rules.length <= 6 := HR6.o
  have HBW : Hid (Below w.heap.size w wr) := L0 (HB0.o.trans (HB.o.mono HB0.o.size))
  have HSL : Hid (sx.length <= 63 + 259 * k) := L0 (by
   have h1 := Z57 (l := rules.take k) HI3.o fun r hr => HGR.o r (L4f hr)
   have h2 := HHL.o
   rw [HSX.o, L0i]
   rw [List.length_take_of_le hk] at h1
   omega)
  by_cases hlt : k < rules.length
  ·obtain ⟨bB, off, r, v, rfl, _, hbB, hx, hro, hrc, g0, g1⟩ := HF.o.rl hlt
   obtain ⟨C, cc, rfl, _, _, _, hEC⟩ := rSl.elems hrc
   rw [<- HBW.o.ce _ hbB] at g0 g1
   have hik : (k : Int) < (rules.length : Int) := by omega
   have HGK : Hid (Z0m ins.length r = true) := L0 (HGR.o r (L0z hx))
   have HTK : Hid (sx ++ Z7m r = hd ++ Z31 (rules.take (k + 1))) := L0 (by rw [HSX.o, L2l, <- Y34, L1k, hx]; rfl)
   have HEC := L0 hEC
   have HRO := L0 hro
   have HNC : Hid (r.cells.length <= 3) := L0 (by have h := HGK.o; unfold Z0m at h; simp only [L0y, decide_eq_true_iff] at h; have := HI3.o; omega)
   have HGC : Hid (∀ c ∈ r.cells, Z1a c = true) := L0 (by have h := HGK.o; unfold Z0m at h; simp only [L0y, L2e] at h; exact h.2)
   obtain ⟨W3, e3, HB3, hs3⟩ : ∃ W3, wr.alloc (.cells #[.slice C r.cells.length cc, .int .i64 r.out] 93) = W3 /\ Hid (Below W0.heap.size W0 W3) /\ Hid (wr.heap.size < W3.heap.size) := ⟨_, rfl, L0 (HB.o.alloc HB.o.size _), L0 (by simp)⟩; have j0 := ac0 e3; have j1 := ac1 e3
   have HBW3 : Hid (Below w.heap.size w W3) := L0 (HB0.o.trans (HB3.o.mono HB0.o.size))
   clear hx hro hrc hEC
   go_wp2
   clear e3
   generalize hn8 : wr.heap.size = n8 at *
   clear hn8
   go_loopw [7, 43] (fun o i wr => ∃ j : Nat, j <= r.cells.length /\ i = .int .i64 j /\ Hid (Own rStr 9 wr W3.heap.size (fun _ => False) o ((r.cells.take j).map Z0w)) /\ Hid (Below W3.heap.size W3 wr)) (fun _ i _ => r.cells.length - (intOf i).toNat)
   exact ⟨0, L0o _, rfl, L0 (Own.nil _ _ _ _ _), L0 (L0m _ _)⟩
   obtain ⟨j, hj, rfl, HO, HBJ⟩ := hrel
   have hnc : r.cells.length <= 3 := HNC.o
   have HBX : Hid (Below w.heap.size w wr) := L0 (HBW3.o.trans (HBJ.o.mono HBW3.o.size))
   by_cases hlj : j < r.cells.length
   ·obtain ⟨bC, oC, cl, vv, rfl, _, hbC, hx, hcr, q0, q1⟩ := HEC.o.cl hlj
    rw [<- HBX.o.ce _ hbC] at q0 q1
    have hjk : (j : Int) < (r.cells.length : Int) := by omega
    have HCL : Hid (Z1a cl = true) := L0 (HGC.o cl (L0z hx))
    have HTJ : Hid ((r.cells.take j).map Z0w ++ [Z0w cl] = (r.cells.take (j + 1)).map Z0w) := L0 (by rw [L1k, hx]; simp)
    obtain ⟨D, cd, rfl, _⟩ := rSl.elems hcr
    have HCR := L0 hcr
    obtain ⟨W5, e5, HB5, hs5⟩ : ∃ W5, wr.alloc (.cells #[.bool cl.no, .slice D cl.rs.length cd] 97) = W5 /\ Hid (Below W3.heap.size W3 W5) /\ Hid (wr.heap.size < W5.heap.size) := ⟨_, rfl, L0 (HBJ.o.alloc HBJ.o.size _), L0 (by simp)⟩; have z0 := ac0 e5; have z1 := ac1 e5
    have HO5 : Hid (Own rStr 9 W5 W3.heap.size (fun _ => False) u7 ((r.cells.take j).map Z0w)) := L0 (by rw [<- e5]; exact HO.o.alloc _)
    have HCA : Hid (Calls Tryz.prog 149 #[.agg #[.bool cl.no, .slice D cl.rs.length cd]] W5 fun e w' => e = .returned (.string ⟨(Z0w cl).toArray⟩) /\ Below W5.heap.size W5 w') := L0 (Y84 cl W5 (jK HCR.o (HBW3.o.trans (HB5.o.mono HBW3.o.size))) (by have h := HCL.o; unfold Z1a at h; simp only [L0y, decide_eq_true_iff] at h; exact h.1.1) (HW0.o.below (HB3.o.trans (HB5.o.mono HB3.o.size))))
    have HBY : Hid ((((r.cells.take j).map Z0w).length + 1) * rStr.bytes <= 140737488355328) := L0 (by rw [L1h, L1i]; have := HNC.o; simp only [rStr]; omega)
    have HC8 := L0 (Z8c HCL.o)
    clear hx hcr
    go_wp2_with (first
     | (go_at_call 149; (with_reducible refine HCA.o.mono ?_); rintro e w6 ⟨rfl, hb6⟩; have HB6 := L0 (HB5.o.trans (hb6.mono HB5.o.size)); have HO6 := L0 (HO5.o.below hb6); clear hb6)
     | (at_builtin; refine Z0a (R := rStr) (x := Z0w cl) Y3o rfl (.tmp 47) (.tmp 50) rfl rfl HO6.o [.string ⟨(Z0w cl).toArray⟩] rfl rfl (fun _ => False) (X2w w6 (fun _ => False) cl HC8.o) (fun _ h => h.elim) HBY.o HB6.o.size ?_; intro v9 w9 hown9 hb9 _ _; have HB9 := L0 (HB6.o.trans hb9)))
    go_roundw
    exact ⟨j + 1, by omega, by go_num, L0 (by rw [<- HTJ.o]; exact hown9), HB9⟩
    simp [intOf]; omega
   have hjk : ¬ (j : Int) < (r.cells.length : Int) := by omega
   have HOF : Hid (Own rStr 9 wr W3.heap.size (fun _ => False) u7 (r.cells.map Z0w)) := L0 (by have := HO.o; rwa [L0l (by omega)] at this)
   have HJC := L0 (Y2m HGK.o HI3.o)
   have HIO : Hid ((jE r.out).length <= 30) := L0 (Z4h _ HRO.o)
   have k0 := (HBJ.o.ce 0 hs3.out).trans j0
   have k1 := (HBJ.o.ce 1 hs3.out).trans j1
   obtain ⟨jt, hjt⟩ : ∃ x, jH (r.cells.map Z0w) [44] = x := ⟨_, rfl⟩
   obtain ⟨ot, hot⟩ : ∃ x, jE r.out = x := ⟨_, rfl⟩
   have HJT := L0 hjt
   have HOT := L0 hot
   have HJN : Hid (∀ w', Below wr.heap.size wr w' -> Calls Tryz.prog 65 #[u7, .string ⟨#[44]⟩] w' fun e w'' => e = .returned (.string ⟨jt.toArray⟩) /\ Below w'.heap.size w' w'') := L0 fun w' hb => by have := Z77 [44] w' ((HOF.o.below hb).rel (by decide)) (by have := HJC.o; omega); rw [hjt] at this; exact this
   have HWR : Hid (LibW wr) := L0 (HW0.o.below (HB3.o.trans (HBJ.o.mono HB3.o.size)))
   have HIN : Hid (∀ w', Below wr.heap.size wr w' -> Calls Tryz.prog 142 #[.int .i64 r.out] w' fun e w'' => e = .returned (.string ⟨ot.toArray⟩) /\ Below w'.heap.size w' w'') := L0 fun w' hb => by have := Z39 r.out HRO.o w' (HWR.o.below hb); rw [hot] at this; exact this
   have b1 : jt.length <= 243 := by rw [<- hjt]; exact HJC.o
   have b2 : ot.length <= 30 := by rw [<- hot]; exact HIO.o
   have b3 : sx.length <= 2000 := by have := HSL.o; have := HR6.o; omega
   have s1 : ¬ (9223372036854775807 < 2 + jt.length) := by omega
   have s2 : ¬ (9223372036854775807 < 2 + jt.length + 4) := by omega
   have s3 : ¬ (9223372036854775807 < 2 + jt.length + 4 + ot.length) := by omega
   have s4 : ¬ (9223372036854775807 < 2 + jt.length + 4 + ot.length + 2) := by omega
   have s5 : ¬ (9223372036854775807 < sx.length + (2 + jt.length + 4 + ot.length + 2)) := by omega
   clear b1 b2 b3 hjt hot
   have hq8 : n8 < wr.heap.size := L0c hs3.out HBJ.o.size
   go_wp2
   refine wp_region_quiet_below (by kernel_rfl) (by kernel_rfl) ?_
   repeat (go_big_quiet_step (first | with_reducible exact Calls.inBelow HJN.o _ _ | with_reducible exact Calls.inBelow HIN.o _ _))
   refine wpQuiet_nil ?_
   intro _ hw'
   obtain ⟨⟨dq, osq⟩, hw''⟩ := hw'
   subst hw''
   have HBG0 : Hid (Below W0.heap.size W0 wr) := L0 (HB3.o.trans (HBJ.o.mono HB3.o.size))
   have HRB := L0 (X2x sx jt ot r HJT.o HOT.o)
   go_wp2
   go_roundw
   exact ⟨k + 1, sx ++ Z7m r, by omega, by go_num, congrArg Value.string HRB.o, HTK, L0 (HBG0.o.trans ((below_regrown _ _ _).mono HBG0.o.size))⟩
   simp [intOf]; omega
  have hij : ¬ (k : Int) < (rules.length : Int) := by omega
  have HSE : Hid (sx ++ [125, 10] = Z6u ⟨nm, p, _, ins, rules⟩) := L0 (by rw [HSX.o, <- HHD.o, L0l (by omega)]; rfl)
  have hsz : sx.length + 2 <= 1700 := by have h := HTL.o; rw [<- HSE.o, L0i] at h; exact h
  have HZ : Hid ((⟨sx.toArray⟩ : ByteArray) ++ ⟨#[125, 10]⟩ = ⟨(sx ++ [125, 10]).toArray⟩) := L0 (Y6t sx [125, 10])
  have s1 : ¬ (9223372036854775807 < sx.length + 2) := by omega
  have s2 : ¬ ((2000 : Int) < (sx.length : Int) + 2) := by omega
  have s3 : ¬ (2000 < sx.length + 2) := by omega
  clear hsz hlt hk
  go_wp2
  go_ret2
  refine ⟨?_, HBW.o⟩
  rw [<- HSE.o, <- HZ.o]
  rfl
theorem Z5z (d : UInt8) (k : Nat) (hd : jD d = some k) : ∀ (l : Txt) (acc n : Nat), jC acc l = some n -> jC acc (l ++ [d]) = some (n * 10 + k)
 | [], acc, n, h => by
  simp only [jC, L3b] at h
  subst h
  simp [jC, hd]
 | b :: l, acc, n, h => by
  simp only [jC, List.cons_append] at h ⊢
  cases hb : jD b with
  | none => rw [hb] at h; cases h
  | some e => rw [hb] at h; exact Z5z d k hd l _ n h
theorem Z8h {k : Nat} (h : k < 10) : jD (UInt8.ofNat (48 + k)) = some k := by
 have : (UInt8.ofNat (48 + k)).toNat = 48 + k := by simp; omega
 unfold jD
 rw [this, if_pos (by omega)]
 simp
theorem Z8t {k : Nat} (h : k < 10) : Z23 (UInt8.ofNat (48 + k)) = true := by
 have : (UInt8.ofNat (48 + k)).toNat = 48 + k := by simp; omega
 unfold Z23
 rw [this]
 simp
 omega
theorem Z22 (u : Nat) : jC 0 (jA u) = some u /\ (jA u).all Z23 = true /\ jA u ≠ [] := by
 induction u using Nat.strongRecOn with
 | ind u ih =>
  rw [jA]
  by_cases h : u < 10
  ·rw [dif_pos h]
   refine ⟨?_, by rw [jJ, Z8t h]; rfl, by simp⟩
   have := Z5z _ u (Z8h h) [] 0 0 rfl
   simpa using this
  rw [dif_neg h]
  obtain ⟨h1, h2, _⟩ := ih (u / 10) (by omega)
  refine ⟨?_, ?_, by simp⟩
  ·rw [Z5z _ (u % 10) (Z8h (by omega)) _ 0 _ h1]
   congr 1
   omega
  rw [List.all_append, h2, jJ, Z8t (k := u % 10) (by omega)]
  rfl
theorem Y7f (v : Int) : ∃ c t, jE v = c :: t /\ (c.toNat = 45 \/ Z23 c = true) /\ t.all Z23 = true := by
 by_cases hneg : v < 0
 ·obtain ⟨u, rfl⟩ : ∃ u : Nat, v = -(u : Int) := ⟨v.natAbs, by omega⟩
  rw [jF u (by omega)]
  exact ⟨_, _, rfl, .inl rfl, (Z22 u).2.1⟩
 obtain ⟨u, rfl⟩ : ∃ u : Nat, v = u := ⟨v.toNat, by omega⟩
 rw [jG]
 obtain ⟨_, h2, h3⟩ := Z22 u
 cases hd : jA u with
 | nil => exact absurd hd h3
 | cons c t =>
  rw [hd] at h2
  simp only [jJ, L0y] at h2
  exact ⟨c, t, rfl, .inr h2.1, h2.2⟩
theorem Y60 (v : Int) : Lib.atoi (jE v) = some v := by
 by_cases hneg : v < 0
 ·obtain ⟨u, rfl⟩ : ∃ u : Nat, v = -(u : Int) := ⟨v.natAbs, by omega⟩
  rw [jF u (by omega)]
  obtain ⟨h1, _, h3⟩ := Z22 u
  simp [Lib.atoi, Lib.decNat, h1, h3]
 obtain ⟨u, rfl⟩ : ∃ u : Nat, v = u := ⟨v.toNat, by omega⟩
 rw [jG]
 obtain ⟨h1, h2, h3⟩ := Z22 u
 cases hd : jA u with
 | nil => exact absurd hd h3
 | cons c t =>
  rw [hd] at h1 h2
  simp only [jJ, L0y] at h2
  have hc := h2.1
  unfold Z23 at hc
  simp only [L0y, decide_eq_true_iff] at hc
  have n1 : (c == 45) = false := by
   rw [beq_eq_false_iff_ne]
   rintro rfl
   have : (45 : UInt8).toNat = 45 := rfl
   omega
  have n2 : (c == 43) = false := by
   rw [beq_eq_false_iff_ne]
   rintro rfl
   have : (43 : UInt8).toNat = 43 := rfl
   omega
  simp [Lib.atoi, Lib.decNat, n1, n2, h1]
theorem Y5q {v : Int} (h : Z0v v = true) : Z55 (jE v) = some v := by
 have h8 := Z36 v h
 unfold Z55
 rw [Lib.atoiAll_short _ (by omega), Y60]
 exact if_pos ⟨rfl, (Z02 v).1 h⟩
def Stop (t : Txt) : Prop := ∀ c r, t = c :: r -> Z4u c = false /\ Z23 c = false
def sepW {α : Type} (g : α -> List Txt) (sep : Txt) : List α -> List Txt
 | [] => []
 | x :: r => g x ++ r.flatMap fun y => sep :: g y
def rgW (r : Rg) : List Txt := if r.1 < r.2 then [jE r.1, [46, 46], jE r.2] else [jE r.1]
def Y63 (c : Cl) : List Txt := if c.rs.length = 0 then [[42]] else (if c.no then [[110, 111, 116]] else []) ++ sepW rgW [124] c.rs
def X11 (r : Rl) : List Txt := sepW Y63 [44] r.cells ++ [[61, 62], jE r.out, [59]]
def NotAt (s : Txt) (l : List Txt) : Prop := ∀ x r, l = x :: r -> x ≠ s
theorem NotAt.cons {s x : Txt} (r : List Txt) (h : x ≠ s) : NotAt s (x :: r) := fun _ _ e => by injection e with e1 _; subst e1; exact h
theorem Y6z {s : Txt} {l : List Txt} (b : Bool) (h : NotAt s l) : atR ⟨l, b⟩ s = (false, ⟨l, b⟩) := by
 cases l with
 | nil => rfl
 | cons x r => simp [atR, h x r rfl]
theorem Y1y (s : Txt) (l : List Txt) (b : Bool) : atR ⟨s :: l, b⟩ s = (true, ⟨l, b⟩) := by simp [atR]
theorem Y99 (s : Txt) (l : List Txt) (b : Bool) : Z2y ⟨s :: l, b⟩ s = ⟨l, b⟩ := by simp [Z2y, Y1y]
theorem Z6q {v : Int} (h : Z0v v = true) (l : List Txt) (b : Bool) : Z0k ⟨jE v :: l, b⟩ = (v, ⟨l, b⟩) := by
 unfold Z0k
 have : (Z30 ⟨jE v :: l, b⟩).1 = jE v := rfl
 rw [this, Y5q h]
 rfl
theorem Y9w {r : Rg} (h1 : Z0v r.1 = true) (h2 : Z0v r.2 = true) (hle : r.1 <= r.2) (l : List Txt) (hl : NotAt [46, 46] l) : Z1m ⟨rgW r ++ l, false⟩ = (r, ⟨l, false⟩) := by
 unfold Z1m rgW
 split
 ·rename_i h
  have e : ([jE r.1, [46, 46], jE r.2] : List Txt) ++ l = jE r.1 :: [46, 46] :: jE r.2 :: l := rfl
  simp only [e, Z6q h1, Y1y, Z6q h2, if_true]
  have : ¬ r.2 <= r.1 := by omega
  simp [this]
 rename_i h
 have e : ([jE r.1] : List Txt) ++ l = jE r.1 :: l := rfl
 simp only [e, Z6q h1, Y6z false hl]
 have : r = (r.1, r.1) := Prod.ext rfl (by dsimp only; omega)
 rw [<- this]
 simp
theorem Y06 {α : Type} {item : Rs -> α × Rs} {sep : Txt} {g : α -> List Txt} {Ok : List Txt -> Prop} (hi : ∀ r, (item r).2.l.length <= r.l.length) (hs : ∀ l, Ok (sep :: l)) (rest : List Txt) (hr : Ok rest) (hn : NotAt sep rest) :
  ∀ (l : List α) (acc : List α), l ≠ [] -> (∀ x ∈ l, ∀ t, Ok t -> item ⟨g x ++ t, false⟩ = (x, ⟨t, false⟩)) -> Z0o item sep ⟨sepW g sep l ++ rest, false⟩ acc = (acc ++ l, ⟨rest, false⟩)
 | [], _, h, _ => absurd rfl h
 | [x], acc, _, h => by
  have e : sepW g sep [x] ++ rest = g x ++ rest := by simp [sepW]
  rw [e]
  exact Z5a acc rfl (h x (List.mem_singleton_self x) rest hr) (Y6z false hn)
 | x :: y :: l, acc, _, h => by
  have e : sepW g sep (x :: y :: l) ++ rest = g x ++ (sep :: (sepW g sep (y :: l) ++ rest)) := by simp [sepW]
  rw [e, Z53 hi acc rfl (h x (L3d ..) _ (hs _)) (Y1y sep _ _), Y06 hi hs rest hr hn (y :: l) (acc ++ [x]) (by simp) fun z hz => h z (L2u _ hz)]
  simp
theorem Y11 : ∀ (f : Nat) (r : Rs) (acc : List Rg), Z29 f r acc = Z11 Z1m [124] f r acc := by
 intro f
 induction f with
 | zero => intro _ _; rfl
 | succ f ih => intro r acc; simp only [Z29, Z11, ih]
theorem Y0w (r : Rs) (acc : List Rg) : Z1v r acc = Z0o Z1m [124] r acc := Y11 _ _ _
theorem Y2l : ∀ {l : List Rg} {a : Int}, Z3n a l = true -> ∀ r ∈ l, r.1 <= r.2
 | [], _, _, _, hr => by simp at hr
 | x :: l, a, h, r, hr => by
  simp only [Z3n, L0y, decide_eq_true_iff] at h
  rcases L3e.1 hr with rfl | hr
  ·exact h.1.1.2
  exact Y2l h.2 r hr
def OkC (l : List Txt) : Prop := NotAt [46, 46] l /\ NotAt [124] l
theorem Y7e (v : Int) {s : Txt} (h : s.head?.all (fun c => !(decide (c.toNat = 45) || Z23 c)) = true) : jE v ≠ s := by
 obtain ⟨c, t, e, hc, _⟩ := Y7f v
 rintro rfl
 rw [e] at h
 simp at h
 rcases hc with hc | hc
 ·exact h.1 hc
 rw [h.2] at hc; cases hc
theorem Y9x (r : Rg) (l : List Txt) : ∃ m, rgW r ++ l = jE r.1 :: m := by
 unfold rgW
 split <;> exact ⟨_, rfl⟩
theorem X1g {c : Cl} (h : Z1a c = true) (t : List Txt) (ht : OkC t) : Z3f ⟨Y63 c ++ t, false⟩ = (c, ⟨t, false⟩) := by
 obtain ⟨no, rs⟩ := c
 unfold Z1a at h
 simp only [L0y, decide_eq_true_iff] at h
 obtain ⟨⟨_, hs⟩, hn⟩ := h
 unfold Z3f Y63
 dsimp only
 by_cases h0 : rs.length = 0
 ·rw [if_pos h0]
  obtain rfl : rs = [] := L1g h0
  obtain rfl : no = false := by simpa using hn
  have e : ([[42]] : List Txt) ++ t = [42] :: t := rfl
  simp only [e, Y1y, if_true]
 rw [if_neg h0]
 have hI := Y06 (item := Z1m) (sep := [124]) (g := rgW) (Ok := NotAt [46, 46]) Z5q (fun l => NotAt.cons l (by decide)) t ht.1 ht.2 rs [] (by rintro rfl; exact h0 rfl)
  fun r hr l hl => Y9w (Z5m hs r hr).1 (Z5m hs r hr).2 (Y2l hs r hr) l hl
 rw [L1t, <- Y0w] at hI
 obtain ⟨m, hm⟩ : ∃ m v, sepW rgW [124] rs ++ t = jE v :: m := by
  cases rs with
  | nil => exact absurd rfl h0
  | cons r l =>
   obtain ⟨m, hm⟩ := Y9x r ((l.flatMap fun y => [124] :: rgW y) ++ t)
   exact ⟨m, r.1, by rw [<- hm]; simp [sepW]⟩
 obtain ⟨v, hm⟩ := hm
 have n1 : NotAt [42] (sepW rgW [124] rs ++ t) := by rw [hm]; exact NotAt.cons _ (Y7e v (by decide))
 have n2 : NotAt [110, 111, 116] (sepW rgW [124] rs ++ t) := by rw [hm]; exact NotAt.cons _ (Y7e v (by decide))
 cases no
 ·simp only [L4m, if_false, L1t]
  simp only [Y6z false n1, Y6z false n2, hI]
  simp
 simp only [if_true]
 have e : (([[110, 111, 116]] : List Txt) ++ sepW rgW [124] rs) ++ t = [110, 111, 116] :: (sepW rgW [124] rs ++ t) := by simp
 have n3 : NotAt [42] ([110, 111, 116] :: (sepW rgW [124] rs ++ t)) := NotAt.cons _ (by decide)
 simp only [e, Y6z false n3, Y1y, hI]
 simp
theorem X0m {x : Txt} (h1 : x ≠ [46, 46]) (h2 : x ≠ [124]) (l : List Txt) : OkC (x :: l) := ⟨NotAt.cons l h1, NotAt.cons l h2⟩
theorem X3a {n : Nat} {r : Rl} (h : Z0m n r = true) (hn : 1 <= n) (t : List Txt) : Z7e ⟨X11 r ++ t, false⟩ = (r, ⟨t, false⟩) := by
 obtain ⟨cells, out⟩ := r
 unfold Z0m at h
 simp only [L0y, decide_eq_true_iff, L2e] at h
 obtain ⟨⟨ho, hl⟩, hc⟩ := h
 have hI := Y06 (item := Z3f) (sep := [44]) (g := Y63) (Ok := OkC) Z6d (fun l => X0m (by decide) (by decide) l) ([61, 62] :: jE out :: [59] :: t) (X0m (by decide) (by decide) _) (NotAt.cons _ (by decide)) cells [] (by rintro rfl; simp at hl; omega)
  fun c hc' l hl => X1g (hc c hc') l hl
 have e : X11 ⟨cells, out⟩ ++ t = sepW Y63 [44] cells ++ ([61, 62] :: jE out :: [59] :: t) := by simp [X11]
 unfold Z7e
 rw [e, hI]
 simp only [L1t, Y99, Z6q ho]
theorem Z66 {d : Dm} (h : Z5u d = true) : Z12 d.name = true /\ Z0v d.lo = true /\ Z0v d.hi = true := by
 unfold Z5u at h
 simp only [L0y, decide_eq_true_iff] at h
 obtain ⟨h1, h2, h3, h4⟩ := h
 exact ⟨h1, (Z02 _).2 ⟨h2, by omega⟩, (Z02 _).2 ⟨by omega, h4⟩⟩
def Y0c (t : Tb) : Txt × Int := if Z0u t then (Z6u t, 0) else ([], 1)
theorem Y6q {S : Nat -> Prop} {cs : List Value} (t : Tb) (w : World) (hl : rTb.rel w S cs t) (hw : LibW w) (hpw : PolW w) :
  Calls Tryz.prog 109 #[.agg cs.toArray] w fun e w' => e = .returned (.tuple #[.string ⟨(Y0c t).1.toArray⟩, .int .i64 (Y0c t).2]) /\ Below w.heap.size w w' := by
 unfold Y0c
 cases hg : Z0u t
 ·have HL := L0 hl
  obtain ⟨vi, vr, rfl, hnm, hp, hi, hr⟩ := hl
  obtain ⟨A, c, rfl, _⟩ := rSl.elems hi
  obtain ⟨B, d, rfl, _⟩ := rSl.elems hr
  obtain ⟨W0, e0, HB0, c0, c1, c2, c3, c4, hs0⟩ : ∃ W0, w.alloc (.cells #[.string ⟨t.name.toArray⟩, .int .i64 t.pol, .bool t.comp, .slice A t.ins.length c, .slice B t.rules.length d] 42) = W0 /\ Hid (Below w.heap.size w W0) /\
    W0.cell? ⟨w.heap.size, 0, none⟩ = some (.string ⟨t.name.toArray⟩) /\ W0.cell? ⟨w.heap.size, 1, none⟩ = some (.int .i64 t.pol) /\ W0.cell? ⟨w.heap.size, 2, none⟩ = some (.bool t.comp) /\ W0.cell? ⟨w.heap.size, 3, none⟩ = some (.slice A t.ins.length c) /\ W0.cell? ⟨w.heap.size, 4, none⟩ = some (.slice B t.rules.length d) /\ w.heap.size < W0.heap.size :=
   ⟨_, rfl, L0 bA, L0b _ _ _ _, L0b _ _ _ _, L0b _ _ _ _, L0b _ _ _ _, L0b _ _ _ _, by simp⟩
  have HG0 := L0 (Y0q W0 (jK HL.o HB0.o) hg)
  clear hi hr hw hpw hg hnm hp
  go_enter Tryz.func109, Tryz.ntmps109
  go_wp2_with (go_at_call 51; (with_reducible refine HG0.o.mono ?_); rintro e w1 ⟨rfl, hb1⟩; have HB1 := L0 (HB0.o.trans (hb1.mono HB0.o.size)); clear hb1)
  go_ret2
  exact ⟨rfl, HB1.o⟩
 exact Y6r t w hl hg hw hpw
