import Derived.Test.YtlopccnehgolnacGreatDoorGL36
import Derived.Test.YtlopccnehgolnacGreatDoorRdrE
import Derived.Test.YtlopccnehgolnacGreatDoorParse
namespace Go.Proofs.YtlopccnehgolnacGreatDoor
open Go.RowKit Rb
open Go.Lib renaming decDigits -> jA, decDigits_length -> jB, decFrom -> jC, digitVal -> jD, itoa -> jE, itoa_neg -> jF, itoa_nonneg -> jG, join -> jH, nDigits_small -> jI
open List renaming all_cons -> jJ
open Rd renaming below -> jK
set_option maxRecDepth 100000
set_option maxHeartbeats 6400000
theorem Z8o (u : Nat) (h : u <= 1000000) : Lib.nDigits u <= 7 := by
 have : ∀ (k u : Nat), u < 10 ^ (k + 1) -> Lib.nDigits u <= k + 1 := by
  intro k
  induction k with
  | zero => intro u hu; rw [jI (by simpa using hu)]; omega
  | succ k ih =>
   intro u hu
   by_cases h : u < 10
   ·rw [jI h]; omega
   ·rw [Lib.nDigits_big h]
    have := ih (u / 10) (by rw [Nat.pow_succ] at hu; omega)
    omega
 exact this 6 u (by omega)
theorem Z32 (n : Int) (h : Z0s n = true) : (jE n).length <= 8 := by
 obtain ⟨h0, h1⟩ := (Z1b n).1 h
 by_cases hneg : n < 0
 ·obtain ⟨u, rfl⟩ : ∃ u : Nat, n = -(u : Int) := ⟨n.natAbs, by omega⟩
  rw [jF u (by omega), L0r, jB]
  have := Z8o u (by omega)
  omega
 ·obtain ⟨u, rfl⟩ : ∃ u : Nat, n = u := ⟨n.toNat, by omega⟩
  rw [jG, jB]
  have := Z8o u (by omega)
  omega
theorem Z5d : ∀ {l : List Rg} {a : Int}, Z3k a l = true -> ∀ r ∈ l, Z0s r.1 = true /\ Z0s r.2 = true
 | [], _, _, _, hr => by simp at hr
 | x :: l, a, h, r, hr => by
  simp only [Z3k, L0z] at h
  rcases L2v.1 hr with rfl | hr
  ·exact ⟨h.1.1.1.1, h.1.1.1.2⟩
  ·exact Z5d h.2 r hr
theorem Y3s {r : Rg} (h1 : Z0s r.1 = true) (h2 : Z0s r.2 = true) : (Z2t r).length <= 18 := by
 have a := Z32 _ h1
 have b := Z32 _ h2
 unfold Z2t
 split <;> simp <;> omega
theorem Z74 {c : Cl} (h : Z09 c = true) : (Z0u c).length <= 80 := by
 unfold Z09 at h
 simp only [L0z, decide_eq_true_iff] at h
 have h1 := Z6b (l := c.rs.map Z2t) (sep := [124]) (m := 19) (fun x hx => by
  obtain ⟨r, hr, rfl⟩ := L3a.1 hx
  obtain ⟨g1, g2⟩ := Z5d h.1.2 r hr
  have := Y3s g1 g2
  simp only [L0p]
  omega)
 rw [L1g] at h1
 have h4 := h.1.1
 unfold Z0u
 split
 ·simp
 ·cases c.no <;> simp <;> omega
def Z7f (r : Rl) : Txt := [32, 32] ++ jH (r.cells.map Z0u) [44] ++ [32, 61, 62, 32] ++ jE r.out ++ [59, 10]
def Z3x (l : List Rl) : Txt := (l.map Z7f).flatten
theorem Y3t (l : List Rl) (r : Rl) : Z3x (l ++ [r]) = Z3x l ++ Z7f r := by simp [Z3x]
theorem Y2b {n : Nat} {r : Rl} (h : Z0k n r = true) (hn : n <= 3) : (jH (r.cells.map Z0u) [44]).length <= 243 := by
 unfold Z0k at h
 simp only [L0z, decide_eq_true_iff, L2c] at h
 have h1 := Z6b (l := r.cells.map Z0u) (sep := [44]) (m := 81) (fun x hx => by
  obtain ⟨c, hc, rfl⟩ := L3a.1 hx
  have := Z74 (h.2 c hc)
  simp only [L0p]
  omega)
 rw [L1g, h.1.2] at h1
 omega
theorem Y5r {n : Nat} {r : Rl} (h : Z0k n r = true) (hn : n <= 3) : (Z7f r).length <= 259 := by
 have h1 := Y2b h hn
 unfold Z0k at h
 simp only [L0z] at h
 have h2 := Z32 _ h.1.1
 unfold Z7f
 simp only [L0h, L0r, L0u]
 omega
theorem Z5v {n : Nat} (hn : n <= 3) : ∀ {l : List Rl}, (∀ r ∈ l, Z0k n r = true) -> (Z3x l).length <= 259 * l.length
 | [], _ => by simp [Z3x]
 | x :: l, h => by
  have h1 := Y5r (h x (L3q ..)) hn
  have h2 := Z5v hn fun r hr => h r (L3c _ hr)
  unfold Z3x at *
  simp only [L2u, List.flatten_cons, L0h, L0r]
  omega
theorem Z6f {s : Txt} (h : Z2c s = true) : s.length <= 8 := by
 unfold Z2c at h
 simp only [L0z, decide_eq_true_iff] at h
 omega
theorem Z59 : ∀ {l seen : List Txt}, Z2j seen l = true -> ∀ s ∈ l, Z2c s = true
 | [], _, _, _, hs => by simp at hs
 | x :: l, seen, h, s, hs => by
  simp only [Z2j, L0z] at h
  rcases L2v.1 hs with rfl | hs
  ·exact h.1.1
  ·exact Z59 h.2 s hs
theorem Y2c {t : Tb} (h : Z0r t = true) : (jH t.ins [44]).length <= 27 := by
 have h3 := (Z05 h).2.2.2.1
 unfold Z0r at h
 simp only [L0z] at h
 have h1 := Z6b (l := t.ins) (sep := [44]) (m := 9) (fun x hx => by
  have := Z6f (Z59 h.1.2 x hx)
  simp only [L0p]
  omega)
 omega
theorem Z6y {t : Tb} (h : Z0r t = true) : t.name.length <= 8 := by
 unfold Z0r at h
 simp only [L0z] at h
 exact Z6f (Y0s h.1.1).1
theorem Z9o {t : Tb} (h : Z0r t = true) {r : Rl} (hr : r ∈ t.rules) : Z0k t.ins.length r = true := by
 unfold Z0r at h
 simp only [L0z, L2c] at h
 exact h.2 r hr
def Z8v (p : Nat) : Txt := pols.getD p []
theorem Y2k {p : Nat} (h : p <= 7) : pols[p]? = some (Z8v p) /\ (Z8v p).length <= 6 := by
 have : p < 8 := by omega
 match p, this with
 | 0, _ | 1, _ | 2, _ | 3, _ | 4, _ | 5, _ | 6, _ | 7, _ => exact ⟨rfl, by decide⟩
def Z39 (t : Tb) : Txt := [116, 97, 98, 108, 101, 32] ++ t.name ++ [32] ++ Z8v t.pol.toNat ++ (if t.comp then [32, 99, 111, 109, 112, 108, 101, 116, 101] else []) ++ ([32, 40] ++ jH t.ins [44] ++ [41, 32, 123, 10])
def Z6n (t : Tb) : Txt := Z39 t ++ Z3x t.rules ++ [125, 10]
theorem Z8g {t : Tb} (h : Z0r t = true) : (Z39 t).length <= 63 := by
 have h1 := Z6y h
 have h2 := Y2c h
 have h3 := (Y2k (p := t.pol.toNat) (by have := (Z05 h).2.1; omega)).2
 unfold Z39
 cases t.comp <;> simp <;> omega
theorem Z7h {t : Tb} (h : Z0r t = true) : (Z6n t).length <= 1700 := by
 have h1 := Z8g h
 obtain ⟨_, _, _, hn, _, h6⟩ := Z05 h
 have h2 := Z5v (l := t.rules) hn fun r hr => Z9o h hr
 unfold Z6n
 simp only [L0h, L0r, L0u]
 omega
theorem X2j (w : World) (S : Nat -> Prop) (c : Cl) (h : (Z0u c).length <= 80) : rStr.rel w S [.string ⟨(Z0u c).toArray⟩] (Z0u c) := ⟨rfl, by omega⟩
theorem X09 (nm pt J : Txt) (comp : Bool) (p : Nat) (ins : List Txt) (rules : List Rl) (hp : Z8v p = pt) (hJ : jH ins [44] = J) :
  (⟨#[116, 97, 98, 108, 101, 32]⟩ : ByteArray) ++ ⟨nm.toArray⟩ ++ ⟨#[32]⟩ ++ ⟨pt.toArray⟩ ++ ⟨(if comp then [32, 99, 111, 109, 112, 108, 101, 116, 101] else [] : Txt).toArray⟩ ++ (⟨#[32, 40]⟩ ++ ⟨J.toArray⟩ ++ ⟨#[41, 32, 123, 10]⟩) = ⟨(Z39 ⟨nm, p, comp, ins, rules⟩).toArray⟩ := by
 apply ByteArray.ext
 simp [ByteArray.data_append, Z39, hp, hJ]
theorem X2h (nm pt J : Txt) (p : Nat) (ins : List Txt) (rules : List Rl) (hp : Z8v p = pt) (hJ : jH ins [44] = J) :
  (⟨#[116, 97, 98, 108, 101, 32]⟩ : ByteArray) ++ ⟨nm.toArray⟩ ++ ⟨#[32]⟩ ++ ⟨pt.toArray⟩ ++ ⟨#[32, 99, 111, 109, 112, 108, 101, 116, 101]⟩ ++ (⟨#[32, 40]⟩ ++ ⟨J.toArray⟩ ++ ⟨#[41, 32, 123, 10]⟩) = ⟨(Z39 ⟨nm, p, true, ins, rules⟩).toArray⟩ :=
 X09 nm pt J true p ins rules hp hJ
theorem X2g (nm pt J : Txt) (p : Nat) (ins : List Txt) (rules : List Rl) (hp : Z8v p = pt) (hJ : jH ins [44] = J) :
  (⟨#[116, 97, 98, 108, 101, 32]⟩ : ByteArray) ++ ⟨nm.toArray⟩ ++ ⟨#[32]⟩ ++ ⟨pt.toArray⟩ ++ (⟨#[32, 40]⟩ ++ ⟨J.toArray⟩ ++ ⟨#[41, 32, 123, 10]⟩) = ⟨(Z39 ⟨nm, p, false, ins, rules⟩).toArray⟩ := by
 apply ByteArray.ext
 simp [ByteArray.data_append, Z39, hp, hJ]
theorem X2k (sx J O : Txt) (r : Rl) (hJ : jH (r.cells.map Z0u) [44] = J) (hO : jE r.out = O) :
  (⟨sx.toArray⟩ : ByteArray) ++ ((⟨#[32, 32]⟩ : ByteArray) ++ ⟨J.toArray⟩ ++ ⟨#[32, 61, 62, 32]⟩ ++ ⟨O.toArray⟩ ++ ⟨#[59, 10]⟩) = ⟨(sx ++ Z7f r).toArray⟩ := by
 apply ByteArray.ext
 simp [ByteArray.data_append, Z7f, hJ, hO]
theorem Y6k {S : Nat -> Prop} {cs : List Value} (t : Tb) (w : World) (hl : rTb.rel w S cs t) (hg : Z0r t = true) (hw : LibW w) (hpw : PolW w) :
  Calls Tryz.prog 51 #[.agg cs.toArray] w fun e w' => e = .returned (.tuple #[.string ⟨(Z6n t).toArray⟩, .int .i64 0]) /\ Below w.heap.size w w' := by
 have HL := L0 hl
 obtain ⟨vi, vr, rfl, hnm, hp, hi, hr⟩ := hl
 obtain ⟨A, c, rfl, hi1, hi2, hi3, hE⟩ := rSl.elems hi
 obtain ⟨B, d, rfl, hr1, hr2, hr3, hF⟩ := rSl.elems hr
 obtain ⟨hp1, hp7, hi1', hi3', hr1', hr6'⟩ := Z05 hg
 have HLN := L0 (Z6y hg)
 have HJL := L0 (Y2c hg)
 have HHL := L0 (Z8g hg)
 have HTL := L0 (Z7h hg)
 have HGR : Hid (∀ r ∈ t.rules, Z0k t.ins.length r = true) := L0 fun r hr => Z9o hg hr
 have HG1 := L0 hg
 obtain ⟨nm, pol, comp, ins, rules⟩ := t
 dsimp only at *
 obtain ⟨p, rfl⟩ : ∃ p : Nat, pol = p := ⟨pol.toNat, by omega⟩
 obtain ⟨W0, e0, HB0, c0, c1, c2, c3, c4, hs0⟩ : ∃ W0, w.alloc (.cells #[.string ⟨nm.toArray⟩, .int .i64 p, .bool comp, .slice A ins.length c, .slice B rules.length d] 66) = W0 /\ Hid (Below w.heap.size w W0) /\
   W0.cell? ⟨w.heap.size, 0, none⟩ = some (.string ⟨nm.toArray⟩) /\ W0.cell? ⟨w.heap.size, 1, none⟩ = some (.int .i64 p) /\ W0.cell? ⟨w.heap.size, 2, none⟩ = some (.bool comp) /\ W0.cell? ⟨w.heap.size, 3, none⟩ = some (.slice A ins.length c) /\ W0.cell? ⟨w.heap.size, 4, none⟩ = some (.slice B rules.length d) /\ w.heap.size < W0.heap.size :=
  ⟨_, rfl, L0 bA, L0b _ _ _ _, L0b _ _ _ _, L0b _ _ _ _, L0b _ _ _ _, L0b _ _ _ _, by simp⟩
 have HG0 := L0 (Y0f W0 (jK HL.out HB0.out) HG1.out)
 have HW0 := L0 (hw.below HB0.out)
 have HP0 := L0 (hpw.below HB0.out)
 have HI := L0 hi
 have HF := L0 hF
 have HR6 := L0 hr6'
 have HI3 := L0 hi3'
 obtain ⟨hpt, hpl⟩ := Y2k (p := p) (by omega)
 obtain ⟨J, hJ⟩ : ∃ x, jH ins [44] = x := ⟨_, rfl⟩
 have HJ := L0 hJ
 rw [hJ] at HJL
 obtain ⟨pt, hpe⟩ : ∃ x, Z8v p = x := ⟨_, rfl⟩
 have HPE := L0 hpe
 rw [hpe] at hpt hpl
 have HPT := L0 hpt
 have hp0' : (0 : Int) <= (p : Int) := by omega
 have hp8' : (p : Int) < 8 := by omega
 have hp8n : p < 8 := by omega
 have a1 : nm.length <= 8 := HLN.out
 have a2 : J.length <= 27 := HJL.out
 have s1 : ¬ (9223372036854775807 < 6 + nm.length) := by omega
 have s2 : ¬ (9223372036854775807 < 6 + nm.length + 1) := by omega
 have s3 : ¬ (9223372036854775807 < 6 + nm.length + 1 + pt.length) := by omega
 have s4 : ¬ (9223372036854775807 < 6 + nm.length + 1 + pt.length + 9) := by omega
 have s5 : ¬ (9223372036854775807 < 2 + J.length) := by omega
 have s6 : ¬ (9223372036854775807 < 2 + J.length + 4) := by omega
 have s7 : ¬ (9223372036854775807 < 6 + nm.length + 1 + pt.length + 9 + (2 + J.length + 4)) := by omega
 have s8 : ¬ (9223372036854775807 < 6 + nm.length + 1 + pt.length + (2 + J.length + 4)) := by omega
 clear hi hr hE hF hw hpw hg hi1 hi2 hi3 hr1 hr2 hr3 hi1' hi3' hr1' hr6' hp1 hp7 hJ hpt hpe a1 a2 hnm hp hpl
 obtain ⟨hd, hhd⟩ : ∃ x, Z39 ⟨nm, p, comp, ins, rules⟩ = x := ⟨_, rfl⟩
 have HHD := L0 hhd
 rw [hhd] at HHL
 clear hhd
 go_enter Tryz.func51, Tryz.ntmps51
 cases comp
 all_goals
  go_wp2_with (go_at_call 79; (with_reducible refine HG0.out.mono ?_); rintro e w1 ⟨rfl, hb1⟩; have HB1 := L0 hb1; have d0 := (hb1.ce 0 hs0).trans c0; have d1 := (hb1.ce 1 hs0).trans c1; have d2 := (hb1.ce 2 hs0).trans c2; have d3 := (hb1.ce 3 hs0).trans c3; have d4 := (hb1.ce 4 hs0).trans c4; have HP1 := L0 (HP0.out.below hb1); have pc := HP1.out.2 p pt HPT.out; have hbd := L0 (HB0.out.trans (hb1.mono HB0.out.size)); have HS1 := L0 (L0c hs0 hb1.size); clear hb1 c0 c1 c2 c3 c4)
  go_region
  go_wp2_with (go_at_call 41; (with_reducible refine (Z7z [44] w1.drew (jK HI.out hbd.out.drew) (by rw [HJ.out]; have := HJL.out; omega)).mono ?_); rw [HJ.out]; rintro e w2 ⟨rfl, hb2⟩; have HB2 := L0 (HB1.out.drew.trans (hb2.mono HB1.out.size)); have f4 := (hb2.ce 4 HS1.out).trans d4; clear hb2 d0 d1 d2 d3 d4 pc)
  clear s1 s2 s3 s4 s5 s6 s7 s8 hp0' hp8' hp8n
  go_loopw [4, 36] (fun z i wr => ∃ (k : Nat) (sx : Txt), k <= rules.length /\ i = .int .i64 k /\ z = .string ⟨sx.toArray⟩ /\ Hid (sx = hd ++ Z3x (rules.take k)) /\ Hid (Below W0.heap.size W0 wr)) (fun _ i _ => rules.length - (intOf i).toNat)
  case atStart => exact ⟨0, hd, L0o _, rfl, by rw [<- HHD.out]; first | exact congrArg Value.string (X2h nm pt J p ins rules HPE.out HJ.out) | exact congrArg Value.string (X2g nm pt J p ins rules HPE.out HJ.out), L0 (by simp [Z3x]), HB2⟩
  case round =>
   obtain ⟨k, sx, hk, rfl, rfl, HSX, HB⟩ := hrel
   have hr6 : rules.length <= 6 := HR6.out
   have HBW : Hid (Below w.heap.size w wr) := L0 (HB0.out.trans (HB.out.mono HB0.out.size))
   have HSL : Hid (sx.length <= 63 + 259 * k) := L0 (by
    have h1 := Z5v (l := rules.take k) HI3.out fun r hr => HGR.out r (L4e hr)
    have h2 := HHL.out
    rw [HSX.out, L0h]
    rw [List.length_take_of_le hk] at h1
    omega)
   by_cases hlt : k < rules.length
   ·obtain ⟨bB, off, r, v, rfl, _, hbB, hx, hro, hrc, g0, g1⟩ := HF.out.rl hlt
    obtain ⟨C, cc, rfl, _, _, _, hEC⟩ := rSl.elems hrc
    rw [<- HBW.out.ce _ hbB] at g0 g1
    have hik : (k : Int) < (rules.length : Int) := by omega
    have HGK : Hid (Z0k ins.length r = true) := L0 (HGR.out r (L0v hx))
    have HTK : Hid (sx ++ Z7f r = hd ++ Z3x (rules.take (k + 1))) := L0 (by rw [HSX.out, L2k, <- Y3t, L1k, hx]; rfl)
    have HEC := L0 hEC
    have HRO := L0 hro
    have HNC : Hid (r.cells.length <= 3) := L0 (by have h := HGK.out; unfold Z0k at h; simp only [L0z, decide_eq_true_iff] at h; have := HI3.out; omega)
    have HGC : Hid (∀ c ∈ r.cells, Z09 c = true) := L0 (by have h := HGK.out; unfold Z0k at h; simp only [L0z, L2c] at h; exact h.2)
    obtain ⟨W3, e3, HB3, hs3⟩ : ∃ W3, wr.alloc (.cells #[.slice C r.cells.length cc, .int .i64 r.out] 69) = W3 /\ Hid (Below W0.heap.size W0 W3) /\ Hid (wr.heap.size < W3.heap.size) := ⟨_, rfl, L0 (HB.out.alloc HB.out.size _), L0 (by simp)⟩; have j0 := ac0 e3; have j1 := ac1 e3
    have HBW3 : Hid (Below w.heap.size w W3) := L0 (HB0.out.trans (HB3.out.mono HB0.out.size))
    clear hx hro hrc hEC
    go_wp2
    clear e3
    generalize hn8 : wr.heap.size = n8 at *
    clear hn8
    go_loopw [7, 43] (fun o i wr => ∃ j : Nat, j <= r.cells.length /\ i = .int .i64 j /\ Hid (Own rStr 9 wr W3.heap.size (fun _ => False) o ((r.cells.take j).map Z0u)) /\ Hid (Below W3.heap.size W3 wr)) (fun _ i _ => r.cells.length - (intOf i).toNat)
    case atStart => exact ⟨0, L0o _, rfl, L0 (Own.nil _ _ _ _ _), L0 (L0m _ _)⟩
    case round =>
     obtain ⟨j, hj, rfl, HO, HBJ⟩ := hrel
     have hnc : r.cells.length <= 3 := HNC.out
     have HBX : Hid (Below w.heap.size w wr) := L0 (HBW3.out.trans (HBJ.out.mono HBW3.out.size))
     by_cases hlj : j < r.cells.length
     ·obtain ⟨bC, oC, cl, vv, rfl, _, hbC, hx, hcr, q0, q1⟩ := HEC.out.cl hlj
      rw [<- HBX.out.ce _ hbC] at q0 q1
      have hjk : (j : Int) < (r.cells.length : Int) := by omega
      have HCL : Hid (Z09 cl = true) := L0 (HGC.out cl (L0v hx))
      have HTJ : Hid ((r.cells.take j).map Z0u ++ [Z0u cl] = (r.cells.take (j + 1)).map Z0u) := L0 (by rw [L1k, hx]; simp)
      obtain ⟨D, cd, rfl, _⟩ := rSl.elems hcr
      have HCR := L0 hcr
      obtain ⟨W5, e5, HB5, hs5⟩ : ∃ W5, wr.alloc (.cells #[.bool cl.no, .slice D cl.rs.length cd] 72) = W5 /\ Hid (Below W3.heap.size W3 W5) /\ Hid (wr.heap.size < W5.heap.size) := ⟨_, rfl, L0 (HBJ.out.alloc HBJ.out.size _), L0 (by simp)⟩; have z0 := ac0 e5; have z1 := ac1 e5
      have HO5 : Hid (Own rStr 9 W5 W3.heap.size (fun _ => False) u7 ((r.cells.take j).map Z0u)) := L0 (by rw [<- e5]; exact HO.out.alloc _)
      have HCA : Hid (Calls Tryz.prog 88 #[.agg #[.bool cl.no, .slice D cl.rs.length cd]] W5 fun e w' => e = .returned (.string ⟨(Z0u cl).toArray⟩) /\ Below W5.heap.size W5 w') := L0 (Y8u cl W5 (jK HCR.out (HBW3.out.trans (HB5.out.mono HBW3.out.size))) (by have h := HCL.out; unfold Z09 at h; simp only [L0z, decide_eq_true_iff] at h; exact h.1.1) (HW0.out.below (HB3.out.trans (HB5.out.mono HB3.out.size))))
      have HBY : Hid ((((r.cells.take j).map Z0u).length + 1) * rStr.bytes <= 140737488355328) := L0 (by rw [L1g, L1h]; have := HNC.out; simp only [rStr]; omega)
      have HC8 := L0 (Z74 HCL.out)
      clear hx hcr
      go_wp2_with (first
       | (go_at_call 88; (with_reducible refine HCA.out.mono ?_); rintro e w6 ⟨rfl, hb6⟩; have HB6 := L0 (HB5.out.trans (hb6.mono HB5.out.size)); have HO6 := L0 (HO5.out.below hb6); clear hb6)
       | (at_builtin; refine Z0a (R := rStr) (x := Z0u cl) Y3e rfl (.tmp 47) (.tmp 50) rfl rfl HO6.out [.string ⟨(Z0u cl).toArray⟩] rfl rfl (fun _ => False) (X2j w6 (fun _ => False) cl HC8.out) (fun _ h => h.elim) HBY.out HB6.out.size ?_; intro v9 w9 hown9 hb9 _ _; have HB9 := L0 (HB6.out.trans hb9)))
      go_roundw
      case rel => exact ⟨j + 1, by omega, by go_num, L0 (by rw [<- HTJ.out]; exact hown9), HB9⟩
      case measure => simp [intOf]; omega
     ·have hjk : ¬ (j : Int) < (r.cells.length : Int) := by omega
      have HOF : Hid (Own rStr 9 wr W3.heap.size (fun _ => False) u7 (r.cells.map Z0u)) := L0 (by have := HO.out; rwa [L0k (by omega)] at this)
      have HJC := L0 (Y2b HGK.out HI3.out)
      have HIO : Hid ((jE r.out).length <= 30) := L0 (Z4a _ HRO.out)
      have k0 := (HBJ.out.ce 0 hs3.out).trans j0
      have k1 := (HBJ.out.ce 1 hs3.out).trans j1
      obtain ⟨jt, hjt⟩ : ∃ x, jH (r.cells.map Z0u) [44] = x := ⟨_, rfl⟩
      obtain ⟨ot, hot⟩ : ∃ x, jE r.out = x := ⟨_, rfl⟩
      have HJT := L0 hjt
      have HOT := L0 hot
      have HJN : Hid (∀ w', Below wr.heap.size wr w' -> Calls Tryz.prog 41 #[u7, .string ⟨#[44]⟩] w' fun e w'' => e = .returned (.string ⟨jt.toArray⟩) /\ Below w'.heap.size w' w'') := L0 fun w' hb => by have := Z7z [44] w' ((HOF.out.below hb).rel (by decide)) (by have := HJC.out; omega); rw [hjt] at this; exact this
      have HWR : Hid (LibW wr) := L0 (HW0.out.below (HB3.out.trans (HBJ.out.mono HB3.out.size)))
      have HIN : Hid (∀ w', Below wr.heap.size wr w' -> Calls Tryz.prog 87 #[.int .i64 r.out] w' fun e w'' => e = .returned (.string ⟨ot.toArray⟩) /\ Below w'.heap.size w' w'') := L0 fun w' hb => by have := Z34 r.out HRO.out w' (HWR.out.below hb); rw [hot] at this; exact this
      have b1 : jt.length <= 243 := by rw [<- hjt]; exact HJC.out
      have b2 : ot.length <= 30 := by rw [<- hot]; exact HIO.out
      have b3 : sx.length <= 2000 := by have := HSL.out; have := HR6.out; omega
      have s1 : ¬ (9223372036854775807 < 2 + jt.length) := by omega
      have s2 : ¬ (9223372036854775807 < 2 + jt.length + 4) := by omega
      have s3 : ¬ (9223372036854775807 < 2 + jt.length + 4 + ot.length) := by omega
      have s4 : ¬ (9223372036854775807 < 2 + jt.length + 4 + ot.length + 2) := by omega
      have s5 : ¬ (9223372036854775807 < sx.length + (2 + jt.length + 4 + ot.length + 2)) := by omega
      clear b1 b2 b3 hjt hot
      have hq8 : n8 < wr.heap.size := L0c hs3.out HBJ.out.size
      go_wp2
      refine wp_region_quiet_below (by kernel_rfl) (by kernel_rfl) ?_
      repeat (go_big_quiet_step (first | with_reducible exact Calls.inBelow HJN.out _ _ | with_reducible exact Calls.inBelow HIN.out _ _))
      refine wpQuiet_nil ?_
      intro _ hw'
      obtain ⟨⟨dq, osq⟩, hw''⟩ := hw'
      subst hw''
      have HBG0 : Hid (Below W0.heap.size W0 wr) := L0 (HB3.out.trans (HBJ.out.mono HB3.out.size))
      have HRB := L0 (X2k sx jt ot r HJT.out HOT.out)
      go_wp2
      go_roundw
      case rel => exact ⟨k + 1, sx ++ Z7f r, by omega, by go_num, congrArg Value.string HRB.out, HTK, L0 (HBG0.out.trans ((below_regrown _ _ _).mono HBG0.out.size))⟩
      case measure => simp [intOf]; omega
   ·have hij : ¬ (k : Int) < (rules.length : Int) := by omega
    have HSE : Hid (sx ++ [125, 10] = Z6n ⟨nm, p, _, ins, rules⟩) := L0 (by rw [HSX.out, <- HHD.out, L0k (by omega)]; rfl)
    have hsz : sx.length + 2 <= 1700 := by have h := HTL.out; rw [<- HSE.out, L0h] at h; exact h
    have HZ : Hid ((⟨sx.toArray⟩ : ByteArray) ++ ⟨#[125, 10]⟩ = ⟨(sx ++ [125, 10]).toArray⟩) := L0 (Y6m sx [125, 10])
    have s1 : ¬ (9223372036854775807 < sx.length + 2) := by omega
    have s2 : ¬ ((2000 : Int) < (sx.length : Int) + 2) := by omega
    have s3 : ¬ (2000 < sx.length + 2) := by omega
    clear hsz hlt hk
    go_wp2
    go_ret2
    refine ⟨?_, HBW.out⟩
    rw [<- HSE.out, <- HZ.out]
    rfl
theorem Z5p (d : UInt8) (k : Nat) (hd : jD d = some k) : ∀ (l : Txt) (acc n : Nat), jC acc l = some n -> jC acc (l ++ [d]) = some (n * 10 + k)
 | [], acc, n, h => by
  simp only [jC, L2z] at h
  subst h
  simp [jC, hd]
 | b :: l, acc, n, h => by
  simp only [jC, List.cons_append] at h ⊢
  cases hb : jD b with
  | none => rw [hb] at h; cases h
  | some e => rw [hb] at h; exact Z5p d k hd l _ n h
theorem Z79 {k : Nat} (h : k < 10) : jD (UInt8.ofNat (48 + k)) = some k := by
 have : (UInt8.ofNat (48 + k)).toNat = 48 + k := by simp; omega
 unfold jD
 rw [this, if_pos (by omega)]
 simp
theorem Z8k {k : Nat} (h : k < 10) : Z20 (UInt8.ofNat (48 + k)) = true := by
 have : (UInt8.ofNat (48 + k)).toNat = 48 + k := by simp; omega
 unfold Z20
 rw [this]
 simp
 omega
theorem Z2z (u : Nat) : jC 0 (jA u) = some u /\ (jA u).all Z20 = true /\ jA u ≠ [] := by
 induction u using Nat.strongRecOn with
 | ind u ih =>
  rw [jA]
  by_cases h : u < 10
  ·rw [dif_pos h]
   refine ⟨?_, by rw [jJ, Z8k h]; rfl, by simp⟩
   have := Z5p _ u (Z79 h) [] 0 0 rfl
   simpa using this
  ·rw [dif_neg h]
   obtain ⟨h1, h2, _⟩ := ih (u / 10) (by omega)
   refine ⟨?_, ?_, by simp⟩
   ·rw [Z5p _ (u % 10) (Z79 (by omega)) _ 0 _ h1]
    congr 1
    omega
   ·rw [List.all_append, h2, jJ, Z8k (k := u % 10) (by omega)]
    rfl
theorem Y68 (v : Int) : ∃ c t, jE v = c :: t /\ (c.toNat = 45 \/ Z20 c = true) /\ t.all Z20 = true := by
 by_cases hneg : v < 0
 ·obtain ⟨u, rfl⟩ : ∃ u : Nat, v = -(u : Int) := ⟨v.natAbs, by omega⟩
  rw [jF u (by omega)]
  exact ⟨_, _, rfl, .inl rfl, (Z2z u).2.1⟩
 ·obtain ⟨u, rfl⟩ : ∃ u : Nat, v = u := ⟨v.toNat, by omega⟩
  rw [jG]
  obtain ⟨_, h2, h3⟩ := Z2z u
  cases hd : jA u with
  | nil => exact absurd hd h3
  | cons c t =>
   rw [hd] at h2
   simp only [jJ, L0z] at h2
   exact ⟨c, t, rfl, .inr h2.1, h2.2⟩
theorem Y6t (v : Int) : Lib.atoi (jE v) = some v := by
 by_cases hneg : v < 0
 ·obtain ⟨u, rfl⟩ : ∃ u : Nat, v = -(u : Int) := ⟨v.natAbs, by omega⟩
  rw [jF u (by omega)]
  obtain ⟨h1, _, h3⟩ := Z2z u
  simp [Lib.atoi, Lib.decNat, h1, h3]
 ·obtain ⟨u, rfl⟩ : ∃ u : Nat, v = u := ⟨v.toNat, by omega⟩
  rw [jG]
  obtain ⟨h1, h2, h3⟩ := Z2z u
  cases hd : jA u with
  | nil => exact absurd hd h3
  | cons c t =>
   rw [hd] at h1 h2
   simp only [jJ, L0z] at h2
   have hc := h2.1
   unfold Z20 at hc
   simp only [L0z, decide_eq_true_iff] at hc
   have n1 : (c == 45) = false := by
    rw [beq_eq_false_iff_ne]
    rintro rfl
    have : (45 : UInt8).toNat = 45 := rfl
    omega
   have n2 : (c == 43) = false := by
    rw [beq_eq_false_iff_ne]
    rintro rfl
    have : (43 : UInt8).toNat = 43 := rfl
    omega
   simp [Lib.atoi, Lib.decNat, n1, n2, h1]
theorem Y5i {v : Int} (h : Z0s v = true) : Z6h (jE v) = some v := by
 have h8 := Z32 v h
 unfold Z6h
 rw [Lib.atoiAll_short _ (by omega), Y6t]
 exact if_pos ⟨rfl, (Z1b v).1 h⟩
def Stop (t : Txt) : Prop := ∀ c r, t = c :: r -> Z4o c = false /\ Z20 c = false
def sepW {α : Type} (g : α -> List Txt) (sep : Txt) : List α -> List Txt
 | [] => []
 | x :: r => g x ++ r.flatMap fun y => sep :: g y
def rgW (r : Rg) : List Txt := if r.1 < r.2 then [jE r.1, [46, 46], jE r.2] else [jE r.1]
def Y6w (c : Cl) : List Txt := if c.rs.length = 0 then [[42]] else (if c.no then [[110, 111, 116]] else []) ++ sepW rgW [124] c.rs
def X1j (r : Rl) : List Txt := sepW Y6w [44] r.cells ++ [[61, 62], jE r.out, [59]]
def NotAt (s : Txt) (l : List Txt) : Prop := ∀ x r, l = x :: r -> x ≠ s
theorem NotAt.cons {s x : Txt} (r : List Txt) (h : x ≠ s) : NotAt s (x :: r) := fun _ _ e => by injection e with e1 _; subst e1; exact h
theorem Y6s {s : Txt} {l : List Txt} (b : Bool) (h : NotAt s l) : atR ⟨l, b⟩ s = (false, ⟨l, b⟩) := by
 cases l with
 | nil => rfl
 | cons x r => simp [atR, h x r rfl]
theorem Y1o (s : Txt) (l : List Txt) (b : Bool) : atR ⟨s :: l, b⟩ s = (true, ⟨l, b⟩) := by simp [atR]
theorem Y9z (s : Txt) (l : List Txt) (b : Bool) : Z2v ⟨s :: l, b⟩ s = ⟨l, b⟩ := by simp [Z2v, Y1o]
theorem Z6i {v : Int} (h : Z0s v = true) (l : List Txt) (b : Bool) : Z0i ⟨jE v :: l, b⟩ = (v, ⟨l, b⟩) := by
 unfold Z0i
 have : (Z3w ⟨jE v :: l, b⟩).1 = jE v := rfl
 rw [this, Y5i h]
 rfl
theorem Y9m {r : Rg} (h1 : Z0s r.1 = true) (h2 : Z0s r.2 = true) (hle : r.1 <= r.2) (l : List Txt) (hl : NotAt [46, 46] l) : Z1m ⟨rgW r ++ l, false⟩ = (r, ⟨l, false⟩) := by
 unfold Z1m rgW
 split
 ·rename_i h
  have e : ([jE r.1, [46, 46], jE r.2] : List Txt) ++ l = jE r.1 :: [46, 46] :: jE r.2 :: l := rfl
  simp only [e, Z6i h1, Y1o, Z6i h2, if_true]
  have : ¬ r.2 <= r.1 := by omega
  simp [this]
 ·rename_i h
  have e : ([jE r.1] : List Txt) ++ l = jE r.1 :: l := rfl
  simp only [e, Z6i h1, Y6s false hl]
  have : r = (r.1, r.1) := Prod.ext rfl (by dsimp only; omega)
  rw [<- this]
  simp
theorem Y0u {α : Type} {item : Rs -> α × Rs} {sep : Txt} {g : α -> List Txt} {Ok : List Txt -> Prop} (hi : ∀ r, (item r).2.l.length <= r.l.length) (hs : ∀ l, Ok (sep :: l)) (rest : List Txt) (hr : Ok rest) (hn : NotAt sep rest) :
  ∀ (l : List α) (acc : List α), l ≠ [] -> (∀ x ∈ l, ∀ t, Ok t -> item ⟨g x ++ t, false⟩ = (x, ⟨t, false⟩)) -> Z0m item sep ⟨sepW g sep l ++ rest, false⟩ acc = (acc ++ l, ⟨rest, false⟩)
 | [], _, h, _ => absurd rfl h
 | [x], acc, _, h => by
  have e : sepW g sep [x] ++ rest = g x ++ rest := by simp [sepW]
  rw [e]
  exact Z44 acc rfl (h x (List.mem_singleton_self x) rest hr) (Y6s false hn)
 | x :: y :: l, acc, _, h => by
  have e : sepW g sep (x :: y :: l) ++ rest = g x ++ (sep :: (sepW g sep (y :: l) ++ rest)) := by simp [sepW]
  rw [e, Z5t hi acc rfl (h x (L3q ..) _ (hs _)) (Y1o sep _ _), Y0u hi hs rest hr hn (y :: l) (acc ++ [x]) (by simp) fun z hz => h z (L3c _ hz)]
  simp
theorem Y1r : ∀ (f : Nat) (r : Rs) (acc : List Rg), Z26 f r acc = Z1x Z1m [124] f r acc := by
 intro f
 induction f with
 | zero => intro _ _; rfl
 | succ f ih => intro r acc; simp only [Z26, Z1x, ih]
theorem Y0l (r : Rs) (acc : List Rg) : Z1s r acc = Z0m Z1m [124] r acc := Y1r _ _ _
theorem Y2a : ∀ {l : List Rg} {a : Int}, Z3k a l = true -> ∀ r ∈ l, r.1 <= r.2
 | [], _, _, _, hr => by simp at hr
 | x :: l, a, h, r, hr => by
  simp only [Z3k, L0z, decide_eq_true_iff] at h
  rcases L2v.1 hr with rfl | hr
  ·exact h.1.1.2
  ·exact Y2a h.2 r hr
def OkC (l : List Txt) : Prop := NotAt [46, 46] l /\ NotAt [124] l
theorem Y67 (v : Int) {s : Txt} (h : s.head?.all (fun c => !(decide (c.toNat = 45) || Z20 c)) = true) : jE v ≠ s := by
 obtain ⟨c, t, e, hc, _⟩ := Y68 v
 rintro rfl
 rw [e] at h
 simp at h
 rcases hc with hc | hc
 ·exact h.1 hc
 ·rw [h.2] at hc; cases hc
theorem Y9n (r : Rg) (l : List Txt) : ∃ m, rgW r ++ l = jE r.1 :: m := by
 unfold rgW
 split <;> exact ⟨_, rfl⟩
theorem X00 {c : Cl} (h : Z09 c = true) (t : List Txt) (ht : OkC t) : Z3c ⟨Y6w c ++ t, false⟩ = (c, ⟨t, false⟩) := by
 obtain ⟨no, rs⟩ := c
 unfold Z09 at h
 simp only [L0z, decide_eq_true_iff] at h
 obtain ⟨⟨_, hs⟩, hn⟩ := h
 unfold Z3c Y6w
 dsimp only
 by_cases h0 : rs.length = 0
 ·rw [if_pos h0]
  obtain rfl : rs = [] := L1f h0
  obtain rfl : no = false := by simpa using hn
  have e : ([[42]] : List Txt) ++ t = [42] :: t := rfl
  simp only [e, Y1o, if_true]
 ·rw [if_neg h0]
  have hI := Y0u (item := Z1m) (sep := [124]) (g := rgW) (Ok := NotAt [46, 46]) Z5f (fun l => NotAt.cons l (by decide)) t ht.1 ht.2 rs [] (by rintro rfl; exact h0 rfl)
   fun r hr l hl => Y9m (Z5d hs r hr).1 (Z5d hs r hr).2 (Y2a hs r hr) l hl
  rw [L1s, <- Y0l] at hI
  obtain ⟨m, hm⟩ : ∃ m v, sepW rgW [124] rs ++ t = jE v :: m := by
   cases rs with
   | nil => exact absurd rfl h0
   | cons r l =>
    obtain ⟨m, hm⟩ := Y9n r ((l.flatMap fun y => [124] :: rgW y) ++ t)
    exact ⟨m, r.1, by rw [<- hm]; simp [sepW]⟩
  obtain ⟨v, hm⟩ := hm
  have n1 : NotAt [42] (sepW rgW [124] rs ++ t) := by rw [hm]; exact NotAt.cons _ (Y67 v (by decide))
  have n2 : NotAt [110, 111, 116] (sepW rgW [124] rs ++ t) := by rw [hm]; exact NotAt.cons _ (Y67 v (by decide))
  cases no
  ·simp only [Bool.false_eq_true, if_false, L1s]
   simp only [Y6s false n1, Y6s false n2, hI]
   simp
  ·simp only [if_true]
   have e : (([[110, 111, 116]] : List Txt) ++ sepW rgW [124] rs) ++ t = [110, 111, 116] :: (sepW rgW [124] rs ++ t) := by simp
   have n3 : NotAt [42] ([110, 111, 116] :: (sepW rgW [124] rs ++ t)) := NotAt.cons _ (by decide)
   simp only [e, Y6s false n3, Y1o, hI]
   simp
theorem Y98 {x : Txt} (h1 : x ≠ [46, 46]) (h2 : x ≠ [124]) (l : List Txt) : OkC (x :: l) := ⟨NotAt.cons l h1, NotAt.cons l h2⟩
theorem X2x {n : Nat} {r : Rl} (h : Z0k n r = true) (hn : 1 <= n) (t : List Txt) : Z67 ⟨X1j r ++ t, false⟩ = (r, ⟨t, false⟩) := by
 obtain ⟨cells, out⟩ := r
 unfold Z0k at h
 simp only [L0z, decide_eq_true_iff, L2c] at h
 obtain ⟨⟨ho, hl⟩, hc⟩ := h
 have hI := Y0u (item := Z3c) (sep := [44]) (g := Y6w) (Ok := OkC) Z53 (fun l => Y98 (by decide) (by decide) l) ([61, 62] :: jE out :: [59] :: t) (Y98 (by decide) (by decide) _) (NotAt.cons _ (by decide)) cells [] (by rintro rfl; simp at hl; omega)
  fun c hc' l hl => X00 (hc c hc') l hl
 have e : X1j ⟨cells, out⟩ ++ t = sepW Y6w [44] cells ++ ([61, 62] :: jE out :: [59] :: t) := by simp [X1j]
 unfold Z67
 rw [e, hI]
 simp only [L1s, Y9z, Z6i ho]
theorem Z9n {d : Dm} (h : Z5j d = true) : Z2c d.name = true /\ Z0s d.lo = true /\ Z0s d.hi = true := by
 unfold Z5j at h
 simp only [L0z, decide_eq_true_iff] at h
 obtain ⟨h1, h2, h3, h4⟩ := h
 exact ⟨h1, (Z1b _).2 ⟨h2, by omega⟩, (Z1b _).2 ⟨by omega, h4⟩⟩
def Z93 (t : Tb) : Txt × Int := if Z0r t then (Z6n t, 0) else ([], 1)
theorem Y6j {S : Nat -> Prop} {cs : List Value} (t : Tb) (w : World) (hl : rTb.rel w S cs t) (hw : LibW w) (hpw : PolW w) :
  Calls Tryz.prog 51 #[.agg cs.toArray] w fun e w' => e = .returned (.tuple #[.string ⟨(Z93 t).1.toArray⟩, .int .i64 (Z93 t).2]) /\ Below w.heap.size w w' := by
 unfold Z93
 cases hg : Z0r t
 ·have HL := L0 hl
  obtain ⟨vi, vr, rfl, hnm, hp, hi, hr⟩ := hl
  obtain ⟨A, c, rfl, _⟩ := rSl.elems hi
  obtain ⟨B, d, rfl, _⟩ := rSl.elems hr
  obtain ⟨W0, e0, HB0, c0, c1, c2, c3, c4, hs0⟩ : ∃ W0, w.alloc (.cells #[.string ⟨t.name.toArray⟩, .int .i64 t.pol, .bool t.comp, .slice A t.ins.length c, .slice B t.rules.length d] 66) = W0 /\ Hid (Below w.heap.size w W0) /\
    W0.cell? ⟨w.heap.size, 0, none⟩ = some (.string ⟨t.name.toArray⟩) /\ W0.cell? ⟨w.heap.size, 1, none⟩ = some (.int .i64 t.pol) /\ W0.cell? ⟨w.heap.size, 2, none⟩ = some (.bool t.comp) /\ W0.cell? ⟨w.heap.size, 3, none⟩ = some (.slice A t.ins.length c) /\ W0.cell? ⟨w.heap.size, 4, none⟩ = some (.slice B t.rules.length d) /\ w.heap.size < W0.heap.size :=
   ⟨_, rfl, L0 bA, L0b _ _ _ _, L0b _ _ _ _, L0b _ _ _ _, L0b _ _ _ _, L0b _ _ _ _, by simp⟩
  have HG0 := L0 (Y0f W0 (jK HL.out HB0.out) hg)
  clear hi hr hw hpw hg hnm hp
  go_enter Tryz.func51, Tryz.ntmps51
  go_wp2_with (go_at_call 79; (with_reducible refine HG0.out.mono ?_); rintro e w1 ⟨rfl, hb1⟩; have HB1 := L0 (HB0.out.trans (hb1.mono HB0.out.size)); clear hb1)
  go_ret2
  exact ⟨rfl, HB1.out⟩
 ·exact Y6k t w hl hg hw hpw
