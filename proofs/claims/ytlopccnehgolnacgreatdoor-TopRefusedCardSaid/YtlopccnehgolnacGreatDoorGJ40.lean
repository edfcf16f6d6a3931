import Derived.Test.YtlopccnehgolnacGreatDoorGJ38
import Derived.Test.YtlopccnehgolnacGreatDoorRdrE
import Derived.Test.YtlopccnehgolnacGreatDoorParse
namespace Go.Proofs.YtlopccnehgolnacGreatDoor
open Go.RowKit Rb
open Go.Lib renaming hid -> hI9, decDigits -> jC, decDigits_length -> jD, decFrom -> jE, digitVal -> jF, itoa -> jG, itoa_neg -> jH, itoa_nonneg -> jI, join -> jJ, nDigits_small -> jK
open Go.World renaming cell?_alloc_new -> cN
open List renaming length_append -> lA, all_cons -> jL, all_eq_true -> jM, length_cons -> jN, length_map -> jO, length_nil -> jP, length_singleton -> jQ, mem_cons -> jR, mem_cons_of_mem -> jS, mem_cons_self -> jT, mem_of_getElem? -> jU, nil_append -> jV, take_add_one -> jW, take_of_length_le -> jX
open Go.RowKit.Below renaming refl -> jA
open Bool renaming and_eq_true -> jB
open Nat renaming lt_of_lt_of_le -> jY
open Rd renaming below -> jZ
set_option maxRecDepth 100000
set_option maxHeartbeats 6400000
theorem Z8o (u : Nat) (h : u <= 1000000) : Lib.nDigits u <= 7 := by
 have : ∀ (k u : Nat), u < 10 ^ (k + 1) -> Lib.nDigits u <= k + 1 := by
  intro k
  induction k with
  | zero => intro u hu; rw [jK (by simpa using hu)]; omega
  | succ k ih =>
   intro u hu
   by_cases h : u < 10
   ·rw [jK h]; omega
   ·rw [Lib.nDigits_big h]
    have := ih (u / 10) (by rw [Nat.pow_succ] at hu; omega)
    omega
 exact this 6 u (by omega)
theorem Z30 (n : Int) (h : Z0s n = true) : (jG n).length <= 8 := by
 obtain ⟨h0, h1⟩ := (Z1d n).1 h
 by_cases hneg : n < 0
 ·obtain ⟨u, rfl⟩ : ∃ u : Nat, n = -(u : Int) := ⟨n.natAbs, by omega⟩
  rw [jH u (by omega), jN, jD]
  have := Z8o u (by omega)
  omega
 ·obtain ⟨u, rfl⟩ : ∃ u : Nat, n = u := ⟨n.toNat, by omega⟩
  rw [jI, jD]
  have := Z8o u (by omega)
  omega
theorem Z5a : ∀ {l : List Rg} {a : Int}, Z3k a l = true -> ∀ r ∈ l, Z0s r.1 = true /\ Z0s r.2 = true
 | [], _, _, _, hr => by simp at hr
 | x :: l, a, h, r, hr => by
  simp only [Z3k, jB] at h
  rcases jR.1 hr with rfl | hr
  ·exact ⟨h.1.1.1.1, h.1.1.1.2⟩
  ·exact Z5a h.2 r hr
theorem Y3j {r : Rg} (h1 : Z0s r.1 = true) (h2 : Z0s r.2 = true) : (Z2w r).length <= 18 := by
 have a := Z30 _ h1
 have b := Z30 _ h2
 unfold Z2w
 split <;> simp <;> omega
theorem Z74 {c : Cl} (h : Z1b c = true) : (Z0t c).length <= 80 := by
 unfold Z1b at h
 simp only [jB, decide_eq_true_iff] at h
 have h1 := Z59 (l := c.rs.map Z2w) (sep := [124]) (m := 19) (fun x hx => by
  obtain ⟨r, hr, rfl⟩ := List.mem_map.1 hx
  obtain ⟨g1, g2⟩ := Z5a h.1.2 r hr
  have := Y3j g1 g2
  simp only [jQ]
  omega)
 rw [jO] at h1
 have h4 := h.1.1
 unfold Z0t
 split
 ·simp
 ·cases c.no <;> simp <;> omega
def Z7e (r : Rl) : Txt := [32, 32] ++ jJ (r.cells.map Z0t) [44] ++ [32, 61, 62, 32] ++ jG r.out ++ [59, 10]
def Z3w (l : List Rl) : Txt := (l.map Z7e).flatten
theorem Y3k (l : List Rl) (r : Rl) : Z3w (l ++ [r]) = Z3w l ++ Z7e r := by simp [Z3w]
theorem Y2c {n : Nat} {r : Rl} (h : Z0l n r = true) (hn : n <= 3) : (jJ (r.cells.map Z0t) [44]).length <= 243 := by
 unfold Z0l at h
 simp only [jB, decide_eq_true_iff, jM] at h
 have h1 := Z59 (l := r.cells.map Z0t) (sep := [44]) (m := 81) (fun x hx => by
  obtain ⟨c, hc, rfl⟩ := List.mem_map.1 hx
  have := Z74 (h.2 c hc)
  simp only [jQ]
  omega)
 rw [jO, h.1.2] at h1
 omega
theorem Y5a {n : Nat} {r : Rl} (h : Z0l n r = true) (hn : n <= 3) : (Z7e r).length <= 259 := by
 have h1 := Y2c h hn
 unfold Z0l at h
 simp only [jB] at h
 have h2 := Z30 _ h.1.1
 unfold Z7e
 simp only [lA, jN, jP]
 omega
theorem Z5u {n : Nat} (hn : n <= 3) : ∀ {l : List Rl}, (∀ r ∈ l, Z0l n r = true) -> (Z3w l).length <= 259 * l.length
 | [], _ => by simp [Z3w]
 | x :: l, h => by
  have h1 := Y5a (h x (jT ..)) hn
  have h2 := Z5u hn fun r hr => h r (jS _ hr)
  unfold Z3w at *
  simp only [List.map_cons, List.flatten_cons, lA, jN]
  omega
theorem Z6d {s : Txt} (h : Z14 s = true) : s.length <= 8 := by
 unfold Z14 at h
 simp only [jB, decide_eq_true_iff] at h
 omega
theorem Z57 : ∀ {l seen : List Txt}, Z2j seen l = true -> ∀ s ∈ l, Z14 s = true
 | [], _, _, _, hs => by simp at hs
 | x :: l, seen, h, s, hs => by
  simp only [Z2j, jB] at h
  rcases jR.1 hs with rfl | hs
  ·exact h.1.1
  ·exact Z57 h.2 s hs
theorem Y2d {t : Tb} (h : Z0r t = true) : (jJ t.ins [44]).length <= 27 := by
 have h3 := (Z05 h).2.2.2.1
 unfold Z0r at h
 simp only [jB] at h
 have h1 := Z59 (l := t.ins) (sep := [44]) (m := 9) (fun x hx => by
  have := Z6d (Z57 h.1.2 x hx)
  simp only [jQ]
  omega)
 omega
theorem Z6v {t : Tb} (h : Z0r t = true) : t.name.length <= 8 := by
 unfold Z0r at h
 simp only [jB] at h
 exact Z6d (Y0t h.1.1).1
theorem Z9n {t : Tb} (h : Z0r t = true) {r : Rl} (hr : r ∈ t.rules) : Z0l t.ins.length r = true := by
 unfold Z0r at h
 simp only [jB, jM] at h
 exact h.2 r hr
def Z8t (p : Nat) : Txt := pols.getD p []
theorem Y2h {p : Nat} (h : p <= 7) : pols[p]? = some (Z8t p) /\ (Z8t p).length <= 6 := by
 have : p < 8 := by omega
 match p, this with
 | 0, _ | 1, _ | 2, _ | 3, _ | 4, _ | 5, _ | 6, _ | 7, _ => exact ⟨rfl, by decide⟩
def Z37 (t : Tb) : Txt := [116, 97, 98, 108, 101, 32] ++ t.name ++ [32] ++ Z8t t.pol.toNat ++ (if t.comp then [32, 99, 111, 109, 112, 108, 101, 116, 101] else []) ++ ([32, 40] ++ jJ t.ins [44] ++ [41, 32, 123, 10])
def Z6l (t : Tb) : Txt := Z37 t ++ Z3w t.rules ++ [125, 10]
theorem Z8g {t : Tb} (h : Z0r t = true) : (Z37 t).length <= 63 := by
 have h1 := Z6v h
 have h2 := Y2d h
 have h3 := (Y2h (p := t.pol.toNat) (by have := (Z05 h).2.1; omega)).2
 unfold Z37
 cases t.comp <;> simp <;> omega
theorem Z7h {t : Tb} (h : Z0r t = true) : (Z6l t).length <= 1700 := by
 have h1 := Z8g h
 obtain ⟨_, _, _, hn, _, h6⟩ := Z05 h
 have h2 := Z5u (l := t.rules) hn fun r hr => Z9n h hr
 unfold Z6l
 simp only [lA, jN, jP]
 omega
theorem X1m (w : World) (S : Nat -> Prop) (c : Cl) (h : (Z0t c).length <= 80) : rStr.rel w S [.string ⟨(Z0t c).toArray⟩] (Z0t c) := ⟨rfl, by omega⟩
theorem X0e (nm pt J : Txt) (comp : Bool) (p : Nat) (ins : List Txt) (rules : List Rl) (hp : Z8t p = pt) (hJ : jJ ins [44] = J) :
  (⟨#[116, 97, 98, 108, 101, 32]⟩ : ByteArray) ++ ⟨nm.toArray⟩ ++ ⟨#[32]⟩ ++ ⟨pt.toArray⟩ ++ ⟨(if comp then [32, 99, 111, 109, 112, 108, 101, 116, 101] else [] : Txt).toArray⟩ ++ (⟨#[32, 40]⟩ ++ ⟨J.toArray⟩ ++ ⟨#[41, 32, 123, 10]⟩) = ⟨(Z37 ⟨nm, p, comp, ins, rules⟩).toArray⟩ := by
 apply ByteArray.ext
 simp [ByteArray.data_append, Z37, hp, hJ]
theorem X1k (nm pt J : Txt) (p : Nat) (ins : List Txt) (rules : List Rl) (hp : Z8t p = pt) (hJ : jJ ins [44] = J) :
  (⟨#[116, 97, 98, 108, 101, 32]⟩ : ByteArray) ++ ⟨nm.toArray⟩ ++ ⟨#[32]⟩ ++ ⟨pt.toArray⟩ ++ ⟨#[32, 99, 111, 109, 112, 108, 101, 116, 101]⟩ ++ (⟨#[32, 40]⟩ ++ ⟨J.toArray⟩ ++ ⟨#[41, 32, 123, 10]⟩) = ⟨(Z37 ⟨nm, p, true, ins, rules⟩).toArray⟩ :=
 X0e nm pt J true p ins rules hp hJ
theorem X1j (nm pt J : Txt) (p : Nat) (ins : List Txt) (rules : List Rl) (hp : Z8t p = pt) (hJ : jJ ins [44] = J) :
  (⟨#[116, 97, 98, 108, 101, 32]⟩ : ByteArray) ++ ⟨nm.toArray⟩ ++ ⟨#[32]⟩ ++ ⟨pt.toArray⟩ ++ (⟨#[32, 40]⟩ ++ ⟨J.toArray⟩ ++ ⟨#[41, 32, 123, 10]⟩) = ⟨(Z37 ⟨nm, p, false, ins, rules⟩).toArray⟩ := by
 apply ByteArray.ext
 simp [ByteArray.data_append, Z37, hp, hJ]
theorem X1n (sx J O : Txt) (r : Rl) (hJ : jJ (r.cells.map Z0t) [44] = J) (hO : jG r.out = O) :
  (⟨sx.toArray⟩ : ByteArray) ++ ((⟨#[32, 32]⟩ : ByteArray) ++ ⟨J.toArray⟩ ++ ⟨#[32, 61, 62, 32]⟩ ++ ⟨O.toArray⟩ ++ ⟨#[59, 10]⟩) = ⟨(sx ++ Z7e r).toArray⟩ := by
 apply ByteArray.ext
 simp [ByteArray.data_append, Z7e, hJ, hO]
theorem Y52 {S : Nat -> Prop} {cs : List Value} (t : Tb) (w : World) (hl : rTb.rel w S cs t) (hg : Z0r t = true) (hw : LibW w) (hpw : PolW w) :
  Calls Tryz.prog 51 #[.agg cs.toArray] w fun e w' => e = .returned (.tuple #[.string ⟨(Z6l t).toArray⟩, .int .i64 0]) /\ Below w.heap.size w w' := by
 have HL := hI9 hl
 obtain ⟨vi, vr, rfl, hnm, hp, hi, hr⟩ := hl
 obtain ⟨A, c, rfl, hi1, hi2, hi3, hE⟩ := rSl.elems hi
 obtain ⟨B, d, rfl, hr1, hr2, hr3, hF⟩ := rSl.elems hr
 obtain ⟨hp1, hp7, hi1', hi3', hr1', hr6'⟩ := Z05 hg
 have HLN := hI9 (Z6v hg)
 have HJL := hI9 (Y2d hg)
 have HHL := hI9 (Z8g hg)
 have HTL := hI9 (Z7h hg)
 have HGR : Hid (∀ r ∈ t.rules, Z0l t.ins.length r = true) := hI9 fun r hr => Z9n hg hr
 have HG1 := hI9 hg
 obtain ⟨nm, pol, comp, ins, rules⟩ := t
 dsimp only at *
 obtain ⟨p, rfl⟩ : ∃ p : Nat, pol = p := ⟨pol.toNat, by omega⟩
 obtain ⟨W0, e0, HB0, c0, c1, c2, c3, c4, hs0⟩ : ∃ W0, w.alloc (.cells #[.string ⟨nm.toArray⟩, .int .i64 p, .bool comp, .slice A ins.length c, .slice B rules.length d] 66) = W0 /\ Hid (Below w.heap.size w W0) /\
   W0.cell? ⟨w.heap.size, 0, none⟩ = some (.string ⟨nm.toArray⟩) /\ W0.cell? ⟨w.heap.size, 1, none⟩ = some (.int .i64 p) /\ W0.cell? ⟨w.heap.size, 2, none⟩ = some (.bool comp) /\ W0.cell? ⟨w.heap.size, 3, none⟩ = some (.slice A ins.length c) /\ W0.cell? ⟨w.heap.size, 4, none⟩ = some (.slice B rules.length d) /\ w.heap.size < W0.heap.size :=
  ⟨_, rfl, hI9 ((jA _ _).alloc (Nat.le_refl _) _), cN _ _ _ _, cN _ _ _ _, cN _ _ _ _, cN _ _ _ _, cN _ _ _ _, by simp⟩
 have HG0 := hI9 (Y0g W0 (jZ HL.out HB0.out) HG1.out)
 have HW0 := hI9 (hw.below HB0.out)
 have HP0 := hI9 (hpw.below HB0.out)
 have HI := hI9 hi
 have HF := hI9 hF
 have HR6 := hI9 hr6'
 have HI3 := hI9 hi3'
 obtain ⟨hpt, hpl⟩ := Y2h (p := p) (by omega)
 obtain ⟨J, hJ⟩ : ∃ x, jJ ins [44] = x := ⟨_, rfl⟩
 have HJ := hI9 hJ
 rw [hJ] at HJL
 obtain ⟨pt, hpe⟩ : ∃ x, Z8t p = x := ⟨_, rfl⟩
 have HPE := hI9 hpe
 rw [hpe] at hpt hpl
 have HPT := hI9 hpt
 have hp0' : (0 : Int) <= (p : Int) := by omega
 have hp8' : (p : Int) < 8 := by omega
 have hp8n : p < 8 := by omega
 have a1 : nm.length <= 8 := HLN.out
 have a2 : J.length <= 27 := HJL.out
 have s1 : ¬ (9223372036854775807 < 6 + nm.length) := by omega
 have s2 : ¬ (9223372036854775807 < 6 + nm.length + 1) := by omega
 have s3 : ¬ (9223372036854775807 < 6 + nm.length + 1 + pt.length) := by omega
 have s4 : ¬ (9223372036854775807 < 6 + nm.length + 1 + pt.length + 9) := by omega
 have s5 : ¬ (9223372036854775807 < 2 + J.length) := by omega
 have s6 : ¬ (9223372036854775807 < 2 + J.length + 4) := by omega
 have s7 : ¬ (9223372036854775807 < 6 + nm.length + 1 + pt.length + 9 + (2 + J.length + 4)) := by omega
 have s8 : ¬ (9223372036854775807 < 6 + nm.length + 1 + pt.length + (2 + J.length + 4)) := by omega
 clear hi hr hE hF hw hpw hg hi1 hi2 hi3 hr1 hr2 hr3 hi1' hi3' hr1' hr6' hp1 hp7 hJ hpt hpe a1 a2 hnm hp hpl
 obtain ⟨hd, hhd⟩ : ∃ x, Z37 ⟨nm, p, comp, ins, rules⟩ = x := ⟨_, rfl⟩
 have HHD := hI9 hhd
 rw [hhd] at HHL
 clear hhd
 go_enter Tryz.func51, Tryz.ntmps51
 cases comp
 all_goals
  go_wp2_with (go_at_call 79; (with_reducible refine HG0.out.mono ?_); rintro e w1 ⟨rfl, hb1⟩; have HB1 := hI9 hb1; have d0 := (hb1.cell (p := ⟨w.heap.size, 0, none⟩) hs0).trans c0; have d1 := (hb1.cell (p := ⟨w.heap.size, 1, none⟩) hs0).trans c1; have d2 := (hb1.cell (p := ⟨w.heap.size, 2, none⟩) hs0).trans c2; have d3 := (hb1.cell (p := ⟨w.heap.size, 3, none⟩) hs0).trans c3; have d4 := (hb1.cell (p := ⟨w.heap.size, 4, none⟩) hs0).trans c4; have HP1 := hI9 (HP0.out.below hb1); have pc := HP1.out.2 p pt HPT.out; have hbd := hI9 (HB0.out.trans (hb1.mono HB0.out.size)); have HS1 := hI9 (jY hs0 hb1.size); clear hb1 c0 c1 c2 c3 c4)
  go_region
  go_wp2_with (go_at_call 41; (with_reducible refine (Z7z [44] w1.drew (jZ HI.out hbd.out.drew) (by rw [HJ.out]; have := HJL.out; omega)).mono ?_); rw [HJ.out]; rintro e w2 ⟨rfl, hb2⟩; have HB2 := hI9 (HB1.out.drew.trans (hb2.mono HB1.out.size)); have f4 := (hb2.cell (p := ⟨w.heap.size, 4, none⟩) HS1.out).trans d4; clear hb2 d0 d1 d2 d3 d4 pc)
  clear s1 s2 s3 s4 s5 s6 s7 s8 hp0' hp8' hp8n
  go_loopw [4, 36] (fun z i wr => ∃ (k : Nat) (sx : Txt), k <= rules.length /\ i = .int .i64 k /\ z = .string ⟨sx.toArray⟩ /\ Hid (sx = hd ++ Z3w (rules.take k)) /\ Hid (Below W0.heap.size W0 wr)) (fun _ i _ => rules.length - (intOf i).toNat)
  case atStart => exact ⟨0, hd, Nat.zero_le _, rfl, by rw [<- HHD.out]; first | exact congrArg Value.string (X1k nm pt J p ins rules HPE.out HJ.out) | exact congrArg Value.string (X1j nm pt J p ins rules HPE.out HJ.out), hI9 (by simp [Z3w]), HB2⟩
  case round =>
   obtain ⟨k, sx, hk, rfl, rfl, HSX, HB⟩ := hrel
   have hr6 : rules.length <= 6 := HR6.out
   have HBW : Hid (Below w.heap.size w wr) := hI9 (HB0.out.trans (HB.out.mono HB0.out.size))
   have HSL : Hid (sx.length <= 63 + 259 * k) := hI9 (by
    have h1 := Z5u (l := rules.take k) HI3.out fun r hr => HGR.out r (List.mem_of_mem_take hr)
    have h2 := HHL.out
    rw [HSX.out, lA]
    rw [List.length_take_of_le hk] at h1
    omega)
   by_cases hlt : k < rules.length
   ·obtain ⟨bB, off, r, v, rfl, _, hbB, hx, hro, hrc, g0, g1⟩ := HF.out.rl hlt
    obtain ⟨C, cc, rfl, _, _, _, hEC⟩ := rSl.elems hrc
    rw [<- HBW.out.cell (p := ⟨bB, _, none⟩) hbB] at g0 g1
    have hik : (k : Int) < (rules.length : Int) := by omega
    have HGK : Hid (Z0l ins.length r = true) := hI9 (HGR.out r (jU hx))
    have HTK : Hid (sx ++ Z7e r = hd ++ Z3w (rules.take (k + 1))) := hI9 (by rw [HSX.out, List.append_assoc, <- Y3k, jW, hx]; rfl)
    have HEC := hI9 hEC
    have HRO := hI9 hro
    have HNC : Hid (r.cells.length <= 3) := hI9 (by have h := HGK.out; unfold Z0l at h; simp only [jB, decide_eq_true_iff] at h; have := HI3.out; omega)
    have HGC : Hid (∀ c ∈ r.cells, Z1b c = true) := hI9 (by have h := HGK.out; unfold Z0l at h; simp only [jB, jM] at h; exact h.2)
    obtain ⟨W3, e3, HB3, hs3⟩ : ∃ W3, wr.alloc (.cells #[.slice C r.cells.length cc, .int .i64 r.out] 69) = W3 /\ Hid (Below W0.heap.size W0 W3) /\ Hid (wr.heap.size < W3.heap.size) := ⟨_, rfl, hI9 (HB.out.alloc HB.out.size _), hI9 (by simp)⟩; have j0 := ac0 e3; have j1 := ac1 e3
    have HBW3 : Hid (Below w.heap.size w W3) := hI9 (HB0.out.trans (HB3.out.mono HB0.out.size))
    clear hx hro hrc hEC
    go_wp2
    clear e3
    generalize hn8 : wr.heap.size = n8 at *
    clear hn8
    go_loopw [7, 43] (fun o i wr => ∃ j : Nat, j <= r.cells.length /\ i = .int .i64 j /\ Hid (Own rStr 9 wr W3.heap.size (fun _ => False) o ((r.cells.take j).map Z0t)) /\ Hid (Below W3.heap.size W3 wr)) (fun _ i _ => r.cells.length - (intOf i).toNat)
    case atStart => exact ⟨0, Nat.zero_le _, rfl, hI9 (Own.nil _ _ _ _ _), hI9 (jA _ _)⟩
    case round =>
     obtain ⟨j, hj, rfl, HO, HBJ⟩ := hrel
     have hnc : r.cells.length <= 3 := HNC.out
     have HBX : Hid (Below w.heap.size w wr) := hI9 (HBW3.out.trans (HBJ.out.mono HBW3.out.size))
     by_cases hlj : j < r.cells.length
     ·obtain ⟨bC, oC, cl, vv, rfl, _, hbC, hx, hcr, q0, q1⟩ := HEC.out.cl hlj
      rw [<- HBX.out.cell (p := ⟨bC, _, none⟩) hbC] at q0 q1
      have hjk : (j : Int) < (r.cells.length : Int) := by omega
      have HCL : Hid (Z1b cl = true) := hI9 (HGC.out cl (jU hx))
      have HTJ : Hid ((r.cells.take j).map Z0t ++ [Z0t cl] = (r.cells.take (j + 1)).map Z0t) := hI9 (by rw [jW, hx]; simp)
      obtain ⟨D, cd, rfl, _⟩ := rSl.elems hcr
      have HCR := hI9 hcr
      obtain ⟨W5, e5, HB5, hs5⟩ : ∃ W5, wr.alloc (.cells #[.bool cl.no, .slice D cl.rs.length cd] 72) = W5 /\ Hid (Below W3.heap.size W3 W5) /\ Hid (wr.heap.size < W5.heap.size) := ⟨_, rfl, hI9 (HBJ.out.alloc HBJ.out.size _), hI9 (by simp)⟩; have z0 := ac0 e5; have z1 := ac1 e5
      have HO5 : Hid (Own rStr 9 W5 W3.heap.size (fun _ => False) u7 ((r.cells.take j).map Z0t)) := hI9 (by rw [<- e5]; exact HO.out.alloc _)
      have HCA : Hid (Calls Tryz.prog 88 #[.agg #[.bool cl.no, .slice D cl.rs.length cd]] W5 fun e w' => e = .returned (.string ⟨(Z0t cl).toArray⟩) /\ Below W5.heap.size W5 w') := hI9 (Y76 cl W5 (jZ HCR.out (HBW3.out.trans (HB5.out.mono HBW3.out.size))) (by have h := HCL.out; unfold Z1b at h; simp only [jB, decide_eq_true_iff] at h; exact h.1.1) (HW0.out.below (HB3.out.trans (HB5.out.mono HB3.out.size))))
      have HBY : Hid ((((r.cells.take j).map Z0t).length + 1) * rStr.bytes <= 140737488355328) := hI9 (by rw [jO, List.length_take]; have := HNC.out; simp only [rStr]; omega)
      have HC8 := hI9 (Z74 HCL.out)
      clear hx hcr
      go_wp2_with (first
       | (go_at_call 88; (with_reducible refine HCA.out.mono ?_); rintro e w6 ⟨rfl, hb6⟩; have HB6 := hI9 (HB5.out.trans (hb6.mono HB5.out.size)); have HO6 := hI9 (HO5.out.below hb6); clear hb6)
       | (at_builtin; refine Z0a (R := rStr) (x := Z0t cl) Y25 rfl (.tmp 47) (.tmp 50) rfl rfl HO6.out [.string ⟨(Z0t cl).toArray⟩] rfl rfl (fun _ => False) (X1m w6 (fun _ => False) cl HC8.out) (fun _ h => h.elim) HBY.out HB6.out.size ?_; intro v9 w9 hown9 hb9 _ _; have HB9 := hI9 (HB6.out.trans hb9)))
      go_roundw
      case rel => exact ⟨j + 1, by omega, by go_num, hI9 (by rw [<- HTJ.out]; exact hown9), HB9⟩
      case measure => simp [intOf]; omega
     ·have hjk : ¬ (j : Int) < (r.cells.length : Int) := by omega
      have HOF : Hid (Own rStr 9 wr W3.heap.size (fun _ => False) u7 (r.cells.map Z0t)) := hI9 (by have := HO.out; rwa [jX (by omega)] at this)
      have HJC := hI9 (Y2c HGK.out HI3.out)
      have HIO : Hid ((jG r.out).length <= 30) := hI9 (Z39 _ HRO.out)
      have k0 := (HBJ.out.cell (p := ⟨n8, 0, none⟩) hs3.out).trans j0
      have k1 := (HBJ.out.cell (p := ⟨n8, 1, none⟩) hs3.out).trans j1
      obtain ⟨jt, hjt⟩ : ∃ x, jJ (r.cells.map Z0t) [44] = x := ⟨_, rfl⟩
      obtain ⟨ot, hot⟩ : ∃ x, jG r.out = x := ⟨_, rfl⟩
      have HJT := hI9 hjt
      have HOT := hI9 hot
      have HJN : Hid (∀ w', Below wr.heap.size wr w' -> Calls Tryz.prog 41 #[u7, .string ⟨#[44]⟩] w' fun e w'' => e = .returned (.string ⟨jt.toArray⟩) /\ Below w'.heap.size w' w'') := hI9 fun w' hb => by have := Z7z [44] w' ((HOF.out.below hb).rel (by decide)) (by have := HJC.out; omega); rw [hjt] at this; exact this
      have HWR : Hid (LibW wr) := hI9 (HW0.out.below (HB3.out.trans (HBJ.out.mono HB3.out.size)))
      have HIN : Hid (∀ w', Below wr.heap.size wr w' -> Calls Tryz.prog 87 #[.int .i64 r.out] w' fun e w'' => e = .returned (.string ⟨ot.toArray⟩) /\ Below w'.heap.size w' w'') := hI9 fun w' hb => by have := Z32 r.out HRO.out w' (HWR.out.below hb); rw [hot] at this; exact this
      have b1 : jt.length <= 243 := by rw [<- hjt]; exact HJC.out
      have b2 : ot.length <= 30 := by rw [<- hot]; exact HIO.out
      have b3 : sx.length <= 2000 := by have := HSL.out; have := HR6.out; omega
      have s1 : ¬ (9223372036854775807 < 2 + jt.length) := by omega
      have s2 : ¬ (9223372036854775807 < 2 + jt.length + 4) := by omega
      have s3 : ¬ (9223372036854775807 < 2 + jt.length + 4 + ot.length) := by omega
      have s4 : ¬ (9223372036854775807 < 2 + jt.length + 4 + ot.length + 2) := by omega
      have s5 : ¬ (9223372036854775807 < sx.length + (2 + jt.length + 4 + ot.length + 2)) := by omega
      clear b1 b2 b3 hjt hot
      have hq8 : n8 < wr.heap.size := jY hs3.out HBJ.out.size
      go_wp2
      refine wp_region_quiet_below (by kernel_rfl) (by kernel_rfl) ?_
      repeat (go_big_quiet_step (first | with_reducible exact Calls.inBelow HJN.out _ _ | with_reducible exact Calls.inBelow HIN.out _ _))
      refine wpQuiet_nil ?_
      intro _ hw'
      obtain ⟨⟨dq, osq⟩, hw''⟩ := hw'
      subst hw''
      have HBG0 : Hid (Below W0.heap.size W0 wr) := hI9 (HB3.out.trans (HBJ.out.mono HB3.out.size))
      have HRB := hI9 (X1n sx jt ot r HJT.out HOT.out)
      go_wp2
      go_roundw
      case rel => exact ⟨k + 1, sx ++ Z7e r, by omega, by go_num, congrArg Value.string HRB.out, HTK, hI9 (HBG0.out.trans ((below_regrown _ _ _).mono HBG0.out.size))⟩
      case measure => simp [intOf]; omega
   ·have hij : ¬ (k : Int) < (rules.length : Int) := by omega
    have HSE : Hid (sx ++ [125, 10] = Z6l ⟨nm, p, _, ins, rules⟩) := hI9 (by rw [HSX.out, <- HHD.out, jX (by omega)]; rfl)
    have hsz : sx.length + 2 <= 1700 := by have h := HTL.out; rw [<- HSE.out, lA] at h; exact h
    have HZ : Hid ((⟨sx.toArray⟩ : ByteArray) ++ ⟨#[125, 10]⟩ = ⟨(sx ++ [125, 10]).toArray⟩) := hI9 (Y55 sx [125, 10])
    have s1 : ¬ (9223372036854775807 < sx.length + 2) := by omega
    have s2 : ¬ ((2000 : Int) < (sx.length : Int) + 2) := by omega
    have s3 : ¬ (2000 < sx.length + 2) := by omega
    clear hsz hlt hk
    go_wp2
    go_ret2
    refine ⟨?_, HBW.out⟩
    rw [<- HSE.out, <- HZ.out]
    rfl
theorem Z5n (d : UInt8) (k : Nat) (hd : jF d = some k) : ∀ (l : Txt) (acc n : Nat), jE acc l = some n -> jE acc (l ++ [d]) = some (n * 10 + k)
 | [], acc, n, h => by
  simp only [jE, Option.some.injEq] at h
  subst h
  simp [jE, hd]
 | b :: l, acc, n, h => by
  simp only [jE, List.cons_append] at h ⊢
  cases hb : jF b with
  | none => rw [hb] at h; cases h
  | some e => rw [hb] at h; exact Z5n d k hd l _ n h
theorem Z79 {k : Nat} (h : k < 10) : jF (UInt8.ofNat (48 + k)) = some k := by
 have : (UInt8.ofNat (48 + k)).toNat = 48 + k := by simp; omega
 unfold jF
 rw [this, if_pos (by omega)]
 simp
theorem Z8k {k : Nat} (h : k < 10) : Z2s (UInt8.ofNat (48 + k)) = true := by
 have : (UInt8.ofNat (48 + k)).toNat = 48 + k := by simp; omega
 unfold Z2s
 rw [this]
 simp
 omega
theorem Z21 (u : Nat) : jE 0 (jC u) = some u /\ (jC u).all Z2s = true /\ jC u ≠ [] := by
 induction u using Nat.strongRecOn with
 | ind u ih =>
  rw [jC]
  by_cases h : u < 10
  ·rw [dif_pos h]
   refine ⟨?_, by rw [jL, Z8k h]; rfl, by simp⟩
   have := Z5n _ u (Z79 h) [] 0 0 rfl
   simpa using this
  ·rw [dif_neg h]
   obtain ⟨h1, h2, _⟩ := ih (u / 10) (by omega)
   refine ⟨?_, ?_, by simp⟩
   ·rw [Z5n _ (u % 10) (Z79 (by omega)) _ 0 _ h1]
    congr 1
    omega
   ·rw [List.all_append, h2, jL, Z8k (k := u % 10) (by omega)]
    rfl
theorem Y6s (v : Int) : ∃ c t, jG v = c :: t /\ (c.toNat = 45 \/ Z2s c = true) /\ t.all Z2s = true := by
 by_cases hneg : v < 0
 ·obtain ⟨u, rfl⟩ : ∃ u : Nat, v = -(u : Int) := ⟨v.natAbs, by omega⟩
  rw [jH u (by omega)]
  exact ⟨_, _, rfl, .inl rfl, (Z21 u).2.1⟩
 ·obtain ⟨u, rfl⟩ : ∃ u : Nat, v = u := ⟨v.toNat, by omega⟩
  rw [jI]
  obtain ⟨_, h2, h3⟩ := Z21 u
  cases hd : jC u with
  | nil => exact absurd hd h3
  | cons c t =>
   rw [hd] at h2
   simp only [jL, jB] at h2
   exact ⟨c, t, rfl, .inr h2.1, h2.2⟩
theorem Y6c (v : Int) : Lib.atoi (jG v) = some v := by
 by_cases hneg : v < 0
 ·obtain ⟨u, rfl⟩ : ∃ u : Nat, v = -(u : Int) := ⟨v.natAbs, by omega⟩
  rw [jH u (by omega)]
  obtain ⟨h1, _, h3⟩ := Z21 u
  simp [Lib.atoi, Lib.decNat, h1, h3]
 ·obtain ⟨u, rfl⟩ : ∃ u : Nat, v = u := ⟨v.toNat, by omega⟩
  rw [jI]
  obtain ⟨h1, h2, h3⟩ := Z21 u
  cases hd : jC u with
  | nil => exact absurd hd h3
  | cons c t =>
   rw [hd] at h1 h2
   simp only [jL, jB] at h2
   have hc := h2.1
   unfold Z2s at hc
   simp only [jB, decide_eq_true_iff] at hc
   have n1 : (c == 45) = false := by
    rw [beq_eq_false_iff_ne]
    rintro rfl
    have : (45 : UInt8).toNat = 45 := rfl
    omega
   have n2 : (c == 43) = false := by
    rw [beq_eq_false_iff_ne]
    rintro rfl
    have : (43 : UInt8).toNat = 43 := rfl
    omega
   simp [Lib.atoi, Lib.decNat, n1, n2, h1]
theorem Y42 {v : Int} (h : Z0s v = true) : Z5s (jG v) = some v := by
 have h8 := Z30 v h
 unfold Z5s
 rw [Lib.atoiAll_short _ (by omega), Y6c]
 exact if_pos ⟨rfl, (Z1d v).1 h⟩
def Stop (t : Txt) : Prop := ∀ c r, t = c :: r -> Z38 c = false /\ Z2s c = false
def sepW {α : Type} (g : α -> List Txt) (sep : Txt) : List α -> List Txt
 | [] => []
 | x :: r => g x ++ r.flatMap fun y => sep :: g y
def rgW (r : Rg) : List Txt := if r.1 < r.2 then [jG r.1, [46, 46], jG r.2] else [jG r.1]
def Y6f (c : Cl) : List Txt := if c.rs.length = 0 then [[42]] else (if c.no then [[110, 111, 116]] else []) ++ sepW rgW [124] c.rs
def X0n (r : Rl) : List Txt := sepW Y6f [44] r.cells ++ [[61, 62], jG r.out, [59]]
def NotAt (s : Txt) (l : List Txt) : Prop := ∀ x r, l = x :: r -> x ≠ s
theorem NotAt.cons {s x : Txt} (r : List Txt) (h : x ≠ s) : NotAt s (x :: r) := fun _ _ e => by injection e with e1 _; subst e1; exact h
theorem Y6b {s : Txt} {l : List Txt} (b : Bool) (h : NotAt s l) : atR ⟨l, b⟩ s = (false, ⟨l, b⟩) := by
 cases l with
 | nil => rfl
 | cons x r => simp [atR, h x r rfl]
theorem Y1o (s : Txt) (l : List Txt) (b : Bool) : atR ⟨s :: l, b⟩ s = (true, ⟨l, b⟩) := by simp [atR]
theorem Y87 (s : Txt) (l : List Txt) (b : Bool) : Z2y ⟨s :: l, b⟩ s = ⟨l, b⟩ := by simp [Z2y, Y1o]
theorem Z6f {v : Int} (h : Z0s v = true) (l : List Txt) (b : Bool) : Z0i ⟨jG v :: l, b⟩ = (v, ⟨l, b⟩) := by
 unfold Z0i
 have : (Z3v ⟨jG v :: l, b⟩).1 = jG v := rfl
 rw [this, Y42 h]
 rfl
theorem Y8v {r : Rg} (h1 : Z0s r.1 = true) (h2 : Z0s r.2 = true) (hle : r.1 <= r.2) (l : List Txt) (hl : NotAt [46, 46] l) : Z1o ⟨rgW r ++ l, false⟩ = (r, ⟨l, false⟩) := by
 unfold Z1o rgW
 split
 ·rename_i h
  have e : ([jG r.1, [46, 46], jG r.2] : List Txt) ++ l = jG r.1 :: [46, 46] :: jG r.2 :: l := rfl
  simp only [e, Z6f h1, Y1o, Z6f h2, if_true]
  have : ¬ r.2 <= r.1 := by omega
  simp [this]
 ·rename_i h
  have e : ([jG r.1] : List Txt) ++ l = jG r.1 :: l := rfl
  simp only [e, Z6f h1, Y6b false hl]
  have : r = (r.1, r.1) := Prod.ext rfl (by dsimp only; omega)
  rw [<- this]
  simp
theorem Y0w {α : Type} {item : Rs -> α × Rs} {sep : Txt} {g : α -> List Txt} {Ok : List Txt -> Prop} (hi : ∀ r, (item r).2.l.length <= r.l.length) (hs : ∀ l, Ok (sep :: l)) (rest : List Txt) (hr : Ok rest) (hn : NotAt sep rest) :
  ∀ (l : List α) (acc : List α), l ≠ [] -> (∀ x ∈ l, ∀ t, Ok t -> item ⟨g x ++ t, false⟩ = (x, ⟨t, false⟩)) -> Z0n item sep ⟨sepW g sep l ++ rest, false⟩ acc = (acc ++ l, ⟨rest, false⟩)
 | [], _, h, _ => absurd rfl h
 | [x], acc, _, h => by
  have e : sepW g sep [x] ++ rest = g x ++ rest := by simp [sepW]
  rw [e]
  exact Z4y acc rfl (h x (List.mem_singleton_self x) rest hr) (Y6b false hn)
 | x :: y :: l, acc, _, h => by
  have e : sepW g sep (x :: y :: l) ++ rest = g x ++ (sep :: (sepW g sep (y :: l) ++ rest)) := by simp [sepW]
  rw [e, Z5r hi acc rfl (h x (jT ..) _ (hs _)) (Y1o sep _ _), Y0w hi hs rest hr hn (y :: l) (acc ++ [x]) (by simp) fun z hz => h z (jS _ hz)]
  simp
theorem Y1r : ∀ (f : Nat) (r : Rs) (acc : List Rg), Z26 f r acc = Z1y Z1o [124] f r acc := by
 intro f
 induction f with
 | zero => intro _ _; rfl
 | succ f ih => intro r acc; simp only [Z26, Z1y, ih]
theorem Y0m (r : Rs) (acc : List Rg) : Z1s r acc = Z0n Z1o [124] r acc := Y1r _ _ _
theorem Y2b : ∀ {l : List Rg} {a : Int}, Z3k a l = true -> ∀ r ∈ l, r.1 <= r.2
 | [], _, _, _, hr => by simp at hr
 | x :: l, a, h, r, hr => by
  simp only [Z3k, jB, decide_eq_true_iff] at h
  rcases jR.1 hr with rfl | hr
  ·exact h.1.1.2
  ·exact Y2b h.2 r hr
def OkC (l : List Txt) : Prop := NotAt [46, 46] l /\ NotAt [124] l
theorem Y6r (v : Int) {s : Txt} (h : s.head?.all (fun c => !(decide (c.toNat = 45) || Z2s c)) = true) : jG v ≠ s := by
 obtain ⟨c, t, e, hc, _⟩ := Y6s v
 rintro rfl
 rw [e] at h
 simp at h
 rcases hc with hc | hc
 ·exact h.1 hc
 ·rw [h.2] at hc; cases hc
theorem Y8w (r : Rg) (l : List Txt) : ∃ m, rgW r ++ l = jG r.1 :: m := by
 unfold rgW
 split <;> exact ⟨_, rfl⟩
theorem Y96 {c : Cl} (h : Z1b c = true) (t : List Txt) (ht : OkC t) : Z3b ⟨Y6f c ++ t, false⟩ = (c, ⟨t, false⟩) := by
 obtain ⟨no, rs⟩ := c
 unfold Z1b at h
 simp only [jB, decide_eq_true_iff] at h
 obtain ⟨⟨_, hs⟩, hn⟩ := h
 unfold Z3b Y6f
 dsimp only
 by_cases h0 : rs.length = 0
 ·rw [if_pos h0]
  obtain rfl : rs = [] := List.eq_nil_of_length_eq_zero h0
  obtain rfl : no = false := by simpa using hn
  have e : ([[42]] : List Txt) ++ t = [42] :: t := rfl
  simp only [e, Y1o, if_true]
 ·rw [if_neg h0]
  have hI := Y0w (item := Z1o) (sep := [124]) (g := rgW) (Ok := NotAt [46, 46]) Z5c (fun l => NotAt.cons l (by decide)) t ht.1 ht.2 rs [] (by rintro rfl; exact h0 rfl)
   fun r hr l hl => Y8v (Z5a hs r hr).1 (Z5a hs r hr).2 (Y2b hs r hr) l hl
  rw [jV, <- Y0m] at hI
  obtain ⟨m, hm⟩ : ∃ m v, sepW rgW [124] rs ++ t = jG v :: m := by
   cases rs with
   | nil => exact absurd rfl h0
   | cons r l =>
    obtain ⟨m, hm⟩ := Y8w r ((l.flatMap fun y => [124] :: rgW y) ++ t)
    exact ⟨m, r.1, by rw [<- hm]; simp [sepW]⟩
  obtain ⟨v, hm⟩ := hm
  have n1 : NotAt [42] (sepW rgW [124] rs ++ t) := by rw [hm]; exact NotAt.cons _ (Y6r v (by decide))
  have n2 : NotAt [110, 111, 116] (sepW rgW [124] rs ++ t) := by rw [hm]; exact NotAt.cons _ (Y6r v (by decide))
  cases no
  ·simp only [Bool.false_eq_true, if_false, jV]
   simp only [Y6b false n1, Y6b false n2, hI]
   simp
  ·simp only [if_true]
   have e : (([[110, 111, 116]] : List Txt) ++ sepW rgW [124] rs) ++ t = [110, 111, 116] :: (sepW rgW [124] rs ++ t) := by simp
   have n3 : NotAt [42] ([110, 111, 116] :: (sepW rgW [124] rs ++ t)) := NotAt.cons _ (by decide)
   simp only [e, Y6b false n3, Y1o, hI]
   simp
theorem Y9e {x : Txt} (h1 : x ≠ [46, 46]) (h2 : x ≠ [124]) (l : List Txt) : OkC (x :: l) := ⟨NotAt.cons l h1, NotAt.cons l h2⟩
theorem X1y {n : Nat} {r : Rl} (h : Z0l n r = true) (hn : 1 <= n) (t : List Txt) : Z63 ⟨X0n r ++ t, false⟩ = (r, ⟨t, false⟩) := by
 obtain ⟨cells, out⟩ := r
 unfold Z0l at h
 simp only [jB, decide_eq_true_iff, jM] at h
 obtain ⟨⟨ho, hl⟩, hc⟩ := h
 have hI := Y0w (item := Z3b) (sep := [44]) (g := Y6f) (Ok := OkC) Z51 (fun l => Y9e (by decide) (by decide) l) ([61, 62] :: jG out :: [59] :: t) (Y9e (by decide) (by decide) _) (NotAt.cons _ (by decide)) cells [] (by rintro rfl; simp at hl; omega)
  fun c hc' l hl => Y96 (hc c hc') l hl
 have e : X0n ⟨cells, out⟩ ++ t = sepW Y6f [44] cells ++ ([61, 62] :: jG out :: [59] :: t) := by simp [X0n]
 unfold Z63
 rw [e, hI]
 simp only [jV, Y87, Z6f ho]
theorem Z9m {d : Dm} (h : Z5h d = true) : Z14 d.name = true /\ Z0s d.lo = true /\ Z0s d.hi = true := by
 unfold Z5h at h
 simp only [jB, decide_eq_true_iff] at h
 obtain ⟨h1, h2, h3, h4⟩ := h
 exact ⟨h1, (Z1d _).2 ⟨h2, by omega⟩, (Z1d _).2 ⟨by omega, h4⟩⟩
def Z94 (t : Tb) : Txt × Int := if Z0r t then (Z6l t, 0) else ([], 1)
theorem Y51 {S : Nat -> Prop} {cs : List Value} (t : Tb) (w : World) (hl : rTb.rel w S cs t) (hw : LibW w) (hpw : PolW w) :
  Calls Tryz.prog 51 #[.agg cs.toArray] w fun e w' => e = .returned (.tuple #[.string ⟨(Z94 t).1.toArray⟩, .int .i64 (Z94 t).2]) /\ Below w.heap.size w w' := by
 unfold Z94
 cases hg : Z0r t
 ·have HL := hI9 hl
  obtain ⟨vi, vr, rfl, hnm, hp, hi, hr⟩ := hl
  obtain ⟨A, c, rfl, _⟩ := rSl.elems hi
  obtain ⟨B, d, rfl, _⟩ := rSl.elems hr
  obtain ⟨W0, e0, HB0, c0, c1, c2, c3, c4, hs0⟩ : ∃ W0, w.alloc (.cells #[.string ⟨t.name.toArray⟩, .int .i64 t.pol, .bool t.comp, .slice A t.ins.length c, .slice B t.rules.length d] 66) = W0 /\ Hid (Below w.heap.size w W0) /\
    W0.cell? ⟨w.heap.size, 0, none⟩ = some (.string ⟨t.name.toArray⟩) /\ W0.cell? ⟨w.heap.size, 1, none⟩ = some (.int .i64 t.pol) /\ W0.cell? ⟨w.heap.size, 2, none⟩ = some (.bool t.comp) /\ W0.cell? ⟨w.heap.size, 3, none⟩ = some (.slice A t.ins.length c) /\ W0.cell? ⟨w.heap.size, 4, none⟩ = some (.slice B t.rules.length d) /\ w.heap.size < W0.heap.size :=
   ⟨_, rfl, hI9 ((jA _ _).alloc (Nat.le_refl _) _), cN _ _ _ _, cN _ _ _ _, cN _ _ _ _, cN _ _ _ _, cN _ _ _ _, by simp⟩
  have HG0 := hI9 (Y0g W0 (jZ HL.out HB0.out) hg)
  clear hi hr hw hpw hg hnm hp
  go_enter Tryz.func51, Tryz.ntmps51
  go_wp2_with (go_at_call 79; (with_reducible refine HG0.out.mono ?_); rintro e w1 ⟨rfl, hb1⟩; have HB1 := hI9 (HB0.out.trans (hb1.mono HB0.out.size)); clear hb1)
  go_ret2
  exact ⟨rfl, HB1.out⟩
 ·exact Y52 t w hl hg hw hpw
