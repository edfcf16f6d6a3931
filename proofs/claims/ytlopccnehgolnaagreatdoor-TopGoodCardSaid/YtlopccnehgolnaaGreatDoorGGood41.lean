import Derived.Test.YtlopccnehgolnaaGreatDoorGGood39
import Derived.Test.YtlopccnehgolnaaGreatDoorRdrE
import Derived.Test.YtlopccnehgolnaaGreatDoorParse
namespace Go.Proofs.YtlopccnehgolnaaGreatDoor
open Go.RowKit Rb
theorem Z8n (u : Nat) (h : u <= 1000000) : Lib.nDigits u <= 7 := by
 have : ∀ (k u : Nat), u < 10 ^ (k + 1) -> Lib.nDigits u <= k + 1 := by
  intro k
  induction k with
  | zero => intro u hu; rw [Lib.nDigits_small (by simpa using hu)]; omega
  | succ k ih =>
   intro u hu
   by_cases h : u < 10
   ·rw [Lib.nDigits_small h]; omega
   ·rw [Lib.nDigits_big h]
    have := ih (u / 10) (by rw [Nat.pow_succ] at hu; omega)
    omega
 exact this 6 u (by omega)
theorem Z3z (n : Int) (h : Z0s n = true) : (Lib.itoa n).length <= 8 := by
 obtain ⟨h0, h1⟩ := (Z1b n).1 h
 by_cases hneg : n < 0
 ·obtain ⟨u, rfl⟩ : ∃ u : Nat, n = -(u : Int) := ⟨n.natAbs, by omega⟩
  rw [Lib.itoa_neg u (by omega), List.length_cons, Lib.decDigits_length]
  have := Z8n u (by omega)
  omega
 ·obtain ⟨u, rfl⟩ : ∃ u : Nat, n = u := ⟨n.toNat, by omega⟩
  rw [Lib.itoa_nonneg, Lib.decDigits_length]
  have := Z8n u (by omega)
  omega
theorem Z47 : ∀ {l : List Rg} {a : Int}, Z3h a l = true -> ∀ r ∈ l, Z0s r.1 = true /\ Z0s r.2 = true
 | [], _, _, _, hr => by simp at hr
 | x :: l, a, h, r, hr => by
  simp only [Z3h, Bool.and_eq_true] at h
  rcases List.mem_cons.1 hr with rfl | hr
  ·exact ⟨h.1.1.1.1, h.1.1.1.2⟩
  ·exact Z47 h.2 r hr
theorem Y2p {r : Rg} (h1 : Z0s r.1 = true) (h2 : Z0s r.2 = true) : (Z2r r).length <= 18 := by
 have a := Z3z _ h1
 have b := Z3z _ h2
 unfold Z2r
 split <;> simp <;> omega
theorem Z75 {c : Cl} (h : Z1a c = true) : (Z0w c).length <= 80 := by
 unfold Z1a at h
 simp only [Bool.and_eq_true, decide_eq_true_iff] at h
 have h1 := Z6o (l := c.rs.map Z2r) (sep := [124]) (m := 19) (fun x hx => by
  obtain ⟨r, hr, rfl⟩ := List.mem_map.1 hx
  obtain ⟨g1, g2⟩ := Z47 h.1.2 r hr
  have := Y2p g1 g2
  simp only [List.length_singleton]
  omega)
 rw [List.length_map] at h1
 have h4 := h.1.1
 unfold Z0w
 split
 ·simp
 ·cases c.no <;> simp <;> omega
def Z7b (r : Rl) : Txt := [32, 32] ++ Lib.join (r.cells.map Z0w) [44] ++ [32, 61, 62, 32] ++ Lib.itoa r.out ++ [59, 10]
def Z3s (l : List Rl) : Txt := (l.map Z7b).flatten
theorem Y2i (l : List Rl) (r : Rl) : Z3s (l ++ [r]) = Z3s l ++ Z7b r := by simp [Z3s]
theorem Y19 {n : Nat} {r : Rl} (h : Z0l n r = true) (hn : n <= 3) : (Lib.join (r.cells.map Z0w) [44]).length <= 243 := by
 unfold Z0l at h
 simp only [Bool.and_eq_true, decide_eq_true_iff, List.all_eq_true] at h
 have h1 := Z6o (l := r.cells.map Z0w) (sep := [44]) (m := 81) (fun x hx => by
  obtain ⟨c, hc, rfl⟩ := List.mem_map.1 hx
  have := Z75 (h.2 c hc)
  simp only [List.length_singleton]
  omega)
 rw [List.length_map, h.1.2] at h1
 omega
theorem Y4a {n : Nat} {r : Rl} (h : Z0l n r = true) (hn : n <= 3) : (Z7b r).length <= 259 := by
 have h1 := Y19 h hn
 unfold Z0l at h
 simp only [Bool.and_eq_true] at h
 have h2 := Z3z _ h.1.1
 unfold Z7b
 simp only [List.length_append, List.length_cons, List.length_nil]
 omega
theorem Z5s {n : Nat} (hn : n <= 3) : ∀ {l : List Rl}, (∀ r ∈ l, Z0l n r = true) -> (Z3s l).length <= 259 * l.length
 | [], _ => by simp [Z3s]
 | x :: l, h => by
  have h1 := Y4a (h x (List.mem_cons_self ..)) hn
  have h2 := Z5s hn fun r hr => h r (List.mem_cons_of_mem _ hr)
  unfold Z3s at *
  simp only [List.map_cons, List.flatten_cons, List.length_append, List.length_cons]
  omega
theorem Z6f {s : Txt} (h : Z18 s = true) : s.length <= 8 := by
 unfold Z18 at h
 simp only [Bool.and_eq_true, decide_eq_true_iff] at h
 omega
theorem Z6n : ∀ {l seen : List Txt}, Z2f seen l = true -> ∀ s ∈ l, Z18 s = true
 | [], _, _, _, hs => by simp at hs
 | x :: l, seen, h, s, hs => by
  simp only [Z2f, Bool.and_eq_true] at h
  rcases List.mem_cons.1 hs with rfl | hs
  ·exact h.1.1
  ·exact Z6n h.2 s hs
theorem Y18 {t : Tb} (h : Z0r t = true) : (Lib.join t.ins [44]).length <= 27 := by
 have h3 := (Z06 h).2.2.2.1
 unfold Z0r at h
 simp only [Bool.and_eq_true] at h
 have h1 := Z6o (l := t.ins) (sep := [44]) (m := 9) (fun x hx => by
  have := Z6f (Z6n h.1.2 x hx)
  simp only [List.length_singleton]
  omega)
 omega
theorem Z6q {t : Tb} (h : Z0r t = true) : t.name.length <= 8 := by
 unfold Z0r at h
 simp only [Bool.and_eq_true] at h
 exact Z6f (Z90 h.1.1).1
theorem Z9c {t : Tb} (h : Z0r t = true) {r : Rl} (hr : r ∈ t.rules) : Z0l t.ins.length r = true := by
 unfold Z0r at h
 simp only [Bool.and_eq_true, List.all_eq_true] at h
 exact h.2 r hr
def Z7t (p : Nat) : Txt := pols.getD p []
theorem Y07 {p : Nat} (h : p <= 7) : pols[p]? = some (Z7t p) /\ (Z7t p).length <= 6 := by
 have : p < 8 := by omega
 match p, this with
 | 0, _ | 1, _ | 2, _ | 3, _ | 4, _ | 5, _ | 6, _ | 7, _ => exact ⟨rfl, by decide⟩
def Z33 (t : Tb) : Txt := [116, 97, 98, 108, 101, 32] ++ t.name ++ [32] ++ Z7t t.pol.toNat ++ (if t.comp then [32, 99, 111, 109, 112, 108, 101, 116, 101] else []) ++ ([32, 40] ++ Lib.join t.ins [44] ++ [41, 32, 123, 10])
def Z53 (t : Tb) : Txt := Z33 t ++ Z3s t.rules ++ [125, 10]
theorem Z7z {t : Tb} (h : Z0r t = true) : (Z33 t).length <= 63 := by
 have h1 := Z6q h
 have h2 := Y18 h
 have h3 := (Y07 (p := t.pol.toNat) (by have := (Z06 h).2.1; omega)).2
 unfold Z33
 cases t.comp <;> simp <;> omega
theorem Z68 {t : Tb} (h : Z0r t = true) : (Z53 t).length <= 1700 := by
 have h1 := Z7z h
 obtain ⟨_, _, _, hn, _, h6⟩ := Z06 h
 have h2 := Z5s (l := t.rules) hn fun r hr => Z9c h hr
 unfold Z53
 simp only [List.length_append, List.length_cons, List.length_nil]
 omega
end Go.Proofs.YtlopccnehgolnaaGreatDoor
namespace Go.Proofs.YtlopccnehgolnaaGreatDoor
open Go.RowKit Rb
open Go.Lib renaming hid -> hI
open Go.World renaming cell?_alloc_new -> cN
set_option maxRecDepth 100000
set_option maxHeartbeats 6400000
theorem X0o (w : World) (S : Nat -> Prop) (c : Cl) (h : (Z0w c).length <= 80) : rStr.rel w S [.string ⟨(Z0w c).toArray⟩] (Z0w c) := ⟨rfl, by omega⟩
theorem X0a (nm pt J : Txt) (comp : Bool) (p : Nat) (ins : List Txt) (rules : List Rl) (hp : Z7t p = pt) (hJ : Lib.join ins [44] = J) :
  (⟨#[116, 97, 98, 108, 101, 32]⟩ : ByteArray) ++ ⟨nm.toArray⟩ ++ ⟨#[32]⟩ ++ ⟨pt.toArray⟩ ++ ⟨(if comp then [32, 99, 111, 109, 112, 108, 101, 116, 101] else [] : Txt).toArray⟩ ++ (⟨#[32, 40]⟩ ++ ⟨J.toArray⟩ ++ ⟨#[41, 32, 123, 10]⟩) = ⟨(Z33 ⟨nm, p, comp, ins, rules⟩).toArray⟩ := by
 apply ByteArray.ext
 simp [ByteArray.data_append, Z33, hp, hJ]
theorem X0s (nm pt J : Txt) (p : Nat) (ins : List Txt) (rules : List Rl) (hp : Z7t p = pt) (hJ : Lib.join ins [44] = J) :
  (⟨#[116, 97, 98, 108, 101, 32]⟩ : ByteArray) ++ ⟨nm.toArray⟩ ++ ⟨#[32]⟩ ++ ⟨pt.toArray⟩ ++ ⟨#[32, 99, 111, 109, 112, 108, 101, 116, 101]⟩ ++ (⟨#[32, 40]⟩ ++ ⟨J.toArray⟩ ++ ⟨#[41, 32, 123, 10]⟩) = ⟨(Z33 ⟨nm, p, true, ins, rules⟩).toArray⟩ :=
 X0a nm pt J true p ins rules hp hJ
theorem X1c (nm pt J : Txt) (p : Nat) (ins : List Txt) (rules : List Rl) (hp : Z7t p = pt) (hJ : Lib.join ins [44] = J) :
  (⟨#[116, 97, 98, 108, 101, 32]⟩ : ByteArray) ++ ⟨nm.toArray⟩ ++ ⟨#[32]⟩ ++ ⟨pt.toArray⟩ ++ (⟨#[32, 40]⟩ ++ ⟨J.toArray⟩ ++ ⟨#[41, 32, 123, 10]⟩) = ⟨(Z33 ⟨nm, p, false, ins, rules⟩).toArray⟩ := by
 apply ByteArray.ext
 simp [ByteArray.data_append, Z33, hp, hJ]
theorem X06 (sx J O : Txt) (r : Rl) (hJ : Lib.join (r.cells.map Z0w) [44] = J) (hO : Lib.itoa r.out = O) :
  (⟨sx.toArray⟩ : ByteArray) ++ ((⟨#[32, 32]⟩ : ByteArray) ++ ⟨J.toArray⟩ ++ ⟨#[32, 61, 62, 32]⟩ ++ ⟨O.toArray⟩ ++ ⟨#[59, 10]⟩) = ⟨(sx ++ Z7b r).toArray⟩ := by
 apply ByteArray.ext
 simp [ByteArray.data_append, Z7b, hJ, hO]
theorem Y5s {S : Nat -> Prop} {cs : List Value} (t : Tb) (w : World) (hl : rTb.rel w S cs t) (hg : Z0r t = true) (hw : LibW w) (hpw : PolW w) :
  Calls Tryz.prog 56 #[.agg cs.toArray] w fun e w' => e = .returned (.tuple #[.string ⟨(Z53 t).toArray⟩, .int .i64 0]) /\ Below w.heap.size w w' := by
 have HL := hI hl
 obtain ⟨vi, vr, rfl, hnm, hp, hi, hr⟩ := hl
 obtain ⟨A, c, rfl, hi1, hi2, hi3, hE⟩ := rSl.elems hi
 obtain ⟨B, d, rfl, hr1, hr2, hr3, hF⟩ := rSl.elems hr
 obtain ⟨hp1, hp7, hi1', hi3', hr1', hr6'⟩ := Z06 hg
 have HLN := hI (Z6q hg)
 have HJL := hI (Y18 hg)
 have HHL := hI (Z7z hg)
 have HTL := hI (Z68 hg)
 have HGR : Hid (∀ r ∈ t.rules, Z0l t.ins.length r = true) := hI fun r hr => Z9c hg hr
 have HG1 := hI hg
 obtain ⟨nm, pol, comp, ins, rules⟩ := t
 dsimp only at *
 obtain ⟨p, rfl⟩ : ∃ p : Nat, pol = p := ⟨pol.toNat, by omega⟩
 obtain ⟨W0, e0, HB0, c0, c1, c2, c3, c4, hs0⟩ : ∃ W0, w.alloc (.cells #[.string ⟨nm.toArray⟩, .int .i64 p, .bool comp, .slice A ins.length c, .slice B rules.length d] 58) = W0 /\ Hid (Below w.heap.size w W0) /\
   W0.cell? ⟨w.heap.size, 0, none⟩ = some (.string ⟨nm.toArray⟩) /\ W0.cell? ⟨w.heap.size, 1, none⟩ = some (.int .i64 p) /\ W0.cell? ⟨w.heap.size, 2, none⟩ = some (.bool comp) /\ W0.cell? ⟨w.heap.size, 3, none⟩ = some (.slice A ins.length c) /\ W0.cell? ⟨w.heap.size, 4, none⟩ = some (.slice B rules.length d) /\ w.heap.size < W0.heap.size :=
  ⟨_, rfl, hI ((Below.refl _ _).alloc (Nat.le_refl _) _), cN _ _ _ _, cN _ _ _ _, cN _ _ _ _, cN _ _ _ _, cN _ _ _ _, by simp⟩
 have HG0 := hI (Y0a W0 (Rd.below HL.out HB0.out) HG1.out)
 have HW0 := hI (hw.below HB0.out)
 have HP0 := hI (hpw.below HB0.out)
 have HI := hI hi
 have HF := hI hF
 have HR6 := hI hr6'
 have HI3 := hI hi3'
 have HS0 := hI hs0
 obtain ⟨hpt, hpl⟩ := Y07 (p := p) (by omega)
 obtain ⟨J, hJ⟩ : ∃ x, Lib.join ins [44] = x := ⟨_, rfl⟩
 have HJ := hI hJ
 rw [hJ] at HJL
 obtain ⟨pt, hpe⟩ : ∃ x, Z7t p = x := ⟨_, rfl⟩
 have HPE := hI hpe
 rw [hpe] at hpt hpl
 have HPT := hI hpt
 have hp0' : (0 : Int) <= (p : Int) := by omega
 have hp8' : (p : Int) < 8 := by omega
 have hp8n : p < 8 := by omega
 have a1 : nm.length <= 8 := HLN.out
 have a2 : J.length <= 27 := HJL.out
 have s1 : ¬ (9223372036854775807 < 6 + nm.length) := by omega
 have s2 : ¬ (9223372036854775807 < 6 + nm.length + 1) := by omega
 have s3 : ¬ (9223372036854775807 < 6 + nm.length + 1 + pt.length) := by omega
 have s4 : ¬ (9223372036854775807 < 6 + nm.length + 1 + pt.length + 9) := by omega
 have s5 : ¬ (9223372036854775807 < 2 + J.length) := by omega
 have s6 : ¬ (9223372036854775807 < 2 + J.length + 4) := by omega
 have s7 : ¬ (9223372036854775807 < 6 + nm.length + 1 + pt.length + 9 + (2 + J.length + 4)) := by omega
 have s8 : ¬ (9223372036854775807 < 6 + nm.length + 1 + pt.length + (2 + J.length + 4)) := by omega
 clear hi hr hE hF hw hpw hg hi1 hi2 hi3 hr1 hr2 hr3 hi1' hi3' hr1' hr6' hp1 hp7 hJ hpt hpe a1 a2 hnm hp hpl
 obtain ⟨hd, hhd⟩ : ∃ x, Z33 ⟨nm, p, comp, ins, rules⟩ = x := ⟨_, rfl⟩
 have HHD := hI hhd
 rw [hhd] at HHL
 clear hhd
 go_enter Tryz.func56, Tryz.ntmps56
 cases comp
 all_goals
  go_wp2_with (first
   | (go_at_call 14; (with_reducible refine HG0.out.mono ?_); rintro e w1 ⟨rfl, hb1⟩; have HB1 := hI hb1; have d0 := (hb1.cell (p := ⟨w.heap.size, 0, none⟩) hs0).trans c0; have d1 := (hb1.cell (p := ⟨w.heap.size, 1, none⟩) hs0).trans c1; have d2 := (hb1.cell (p := ⟨w.heap.size, 2, none⟩) hs0).trans c2; have d3 := (hb1.cell (p := ⟨w.heap.size, 3, none⟩) hs0).trans c3; have d4 := (hb1.cell (p := ⟨w.heap.size, 4, none⟩) hs0).trans c4; have HP1 := hI (HP0.out.below hb1); have pc := HP1.out.2 p pt HPT.out; have hbd := hI (HB0.out.trans (hb1.mono HB0.out.size)); have HS1 := hI (Nat.lt_of_lt_of_le hs0 hb1.size); clear hb1 c0 c1 c2 c3 c4))
  go_region
  go_wp2_with (first | (go_at_call 89; (with_reducible refine (Z8d [44] w1.drew (Rd.below HI.out hbd.out.drew) (by rw [HJ.out]; have := HJL.out; omega)).mono ?_); rw [HJ.out]; rintro e w2 ⟨rfl, hb2⟩; have HB2 := hI (HB1.out.drew.trans (hb2.mono HB1.out.size)); have f4 := (hb2.cell (p := ⟨w.heap.size, 4, none⟩) HS1.out).trans d4; clear hb2 d0 d1 d2 d3 d4 pc))
  clear s1 s2 s3 s4 s5 s6 s7 s8 hp0' hp8' hp8n
  go_loopw [4, 36] (fun z i wr => ∃ (k : Nat) (sx : Txt), k <= rules.length /\ i = .int .i64 k /\ z = .string ⟨sx.toArray⟩ /\ Hid (sx = hd ++ Z3s (rules.take k)) /\ Hid (Below W0.heap.size W0 wr)) (fun _ i _ => rules.length - (intOf i).toNat)
  case atStart => exact ⟨0, hd, Nat.zero_le _, rfl, by rw [<- HHD.out]; first | exact congrArg Value.string (X0s nm pt J p ins rules HPE.out HJ.out) | exact congrArg Value.string (X1c nm pt J p ins rules HPE.out HJ.out), hI (by simp [Z3s]), HB2⟩
  case round =>
   obtain ⟨k, sx, hk, rfl, rfl, HSX, HB⟩ := hrel
   have hr6 : rules.length <= 6 := HR6.out
   have HBW : Hid (Below w.heap.size w wr) := hI (HB0.out.trans (HB.out.mono HB0.out.size))
   have HSL : Hid (sx.length <= 63 + 259 * k) := hI (by
    have h1 := Z5s (l := rules.take k) HI3.out fun r hr => HGR.out r (List.mem_of_mem_take hr)
    have h2 := HHL.out
    rw [HSX.out, List.length_append]
    rw [List.length_take_of_le hk] at h1
    omega)
   by_cases hlt : k < rules.length
   ·obtain ⟨bB, off, r, v, rfl, _, hbB, hx, hro, hrc, g0, g1⟩ := HF.out.rl hlt
    obtain ⟨C, cc, rfl, _, _, _, hEC⟩ := rSl.elems hrc
    rw [<- HBW.out.cell (p := ⟨bB, _, none⟩) hbB] at g0 g1
    have hik : (k : Int) < (rules.length : Int) := by omega
    have HGK : Hid (Z0l ins.length r = true) := hI (HGR.out r (List.mem_of_getElem? hx))
    have HTK : Hid (sx ++ Z7b r = hd ++ Z3s (rules.take (k + 1))) := hI (by rw [HSX.out, List.append_assoc, <- Y2i, List.take_add_one, hx]; rfl)
    have HEC := hI hEC
    have HRO := hI hro
    have HNC : Hid (r.cells.length <= 3) := hI (by have h := HGK.out; unfold Z0l at h; simp only [Bool.and_eq_true, decide_eq_true_iff] at h; have := HI3.out; omega)
    have HGC : Hid (∀ c ∈ r.cells, Z1a c = true) := hI (by have h := HGK.out; unfold Z0l at h; simp only [Bool.and_eq_true, List.all_eq_true] at h; exact h.2)
    obtain ⟨W3, e3, HB3, j0, j1, hs3⟩ : ∃ W3, wr.alloc (.cells #[.slice C r.cells.length cc, .int .i64 r.out] 85) = W3 /\ Hid (Below W0.heap.size W0 W3) /\ W3.cell? ⟨wr.heap.size, 0, none⟩ = some (.slice C r.cells.length cc) /\ W3.cell? ⟨wr.heap.size, 1, none⟩ = some (.int .i64 r.out) /\ Hid (wr.heap.size < W3.heap.size) :=
     ⟨_, rfl, hI (HB.out.alloc HB.out.size _), cN _ _ _ _, cN _ _ _ _, hI (by simp)⟩
    have HBW3 : Hid (Below w.heap.size w W3) := hI (HB0.out.trans (HB3.out.mono HB0.out.size))
    clear hx hro hrc hEC
    go_wp2
    clear e3
    generalize hn8 : wr.heap.size = n8 at *
    clear hn8
    go_loopw [7, 43] (fun o i wr => ∃ j : Nat, j <= r.cells.length /\ i = .int .i64 j /\ Hid (Own rStr 9 wr W3.heap.size (fun _ => False) o ((r.cells.take j).map Z0w)) /\ Hid (Below W3.heap.size W3 wr)) (fun _ i _ => r.cells.length - (intOf i).toNat)
    case atStart => exact ⟨0, Nat.zero_le _, rfl, hI (Own.nil _ _ _ _ _), hI (Below.refl _ _)⟩
    case round =>
     obtain ⟨j, hj, rfl, HO, HBJ⟩ := hrel
     have hnc : r.cells.length <= 3 := HNC.out
     have HBX : Hid (Below w.heap.size w wr) := hI (HBW3.out.trans (HBJ.out.mono HBW3.out.size))
     by_cases hlj : j < r.cells.length
     ·obtain ⟨bC, oC, cl, vv, rfl, _, hbC, hx, hcr, q0, q1⟩ := HEC.out.cl hlj
      rw [<- HBX.out.cell (p := ⟨bC, _, none⟩) hbC] at q0 q1
      have hjk : (j : Int) < (r.cells.length : Int) := by omega
      have HCL : Hid (Z1a cl = true) := hI (HGC.out cl (List.mem_of_getElem? hx))
      have HTJ : Hid ((r.cells.take j).map Z0w ++ [Z0w cl] = (r.cells.take (j + 1)).map Z0w) := hI (by rw [List.take_add_one, hx]; simp)
      obtain ⟨D, cd, rfl, _⟩ := rSl.elems hcr
      have HCR := hI hcr
      obtain ⟨W5, e5, HB5, z0, z1, hs5⟩ : ∃ W5, wr.alloc (.cells #[.bool cl.no, .slice D cl.rs.length cd] 89) = W5 /\ Hid (Below W3.heap.size W3 W5) /\ W5.cell? ⟨wr.heap.size, 0, none⟩ = some (.bool cl.no) /\ W5.cell? ⟨wr.heap.size, 1, none⟩ = some (.slice D cl.rs.length cd) /\ Hid (wr.heap.size < W5.heap.size) :=
       ⟨_, rfl, hI (HBJ.out.alloc HBJ.out.size _), cN _ _ _ _, cN _ _ _ _, hI (by simp)⟩
      have HO5 : Hid (Own rStr 9 W5 W3.heap.size (fun _ => False) u7 ((r.cells.take j).map Z0w)) := hI (by rw [<- e5]; exact HO.out.alloc _)
      have HCA : Hid (Calls Tryz.prog 90 #[.agg #[.bool cl.no, .slice D cl.rs.length cd]] W5 fun e w' => e = .returned (.string ⟨(Z0w cl).toArray⟩) /\ Below W5.heap.size W5 w') := hI (Y76 cl W5 (Rd.below HCR.out (HBW3.out.trans (HB5.out.mono HBW3.out.size))) (by have h := HCL.out; unfold Z1a at h; simp only [Bool.and_eq_true, decide_eq_true_iff] at h; exact h.1.1) (HW0.out.below (HB3.out.trans (HB5.out.mono HB3.out.size))))
      have HBY : Hid ((((r.cells.take j).map Z0w).length + 1) * rStr.bytes <= 140737488355328) := hI (by rw [List.length_map, List.length_take]; have := HNC.out; simp only [rStr]; omega)
      have HC8 := hI (Z75 HCL.out)
      clear hx hcr
      go_wp2_with (first
       | (go_at_call 90; (with_reducible refine HCA.out.mono ?_); rintro e w6 ⟨rfl, hb6⟩; have HB6 := hI (HB5.out.trans (hb6.mono HB5.out.size)); have HO6 := hI (HO5.out.below hb6); clear hb6)
       | (at_builtin; refine Z0a (R := rStr) (x := Z0w cl) Y2x rfl (.tmp 47) (.tmp 50) rfl rfl HO6.out [.string ⟨(Z0w cl).toArray⟩] rfl rfl (fun _ => False) (X0o w6 (fun _ => False) cl HC8.out) (fun _ h => h.elim) HBY.out HB6.out.size ?_; intro v9 w9 hown9 hb9 _ _; have HB9 := hI (HB6.out.trans hb9)))
      go_roundw
      case rel => exact ⟨j + 1, by omega, by go_num, hI (by rw [<- HTJ.out]; exact hown9), HB9⟩
      case measure => simp [intOf]; omega
     ·have hjk : ¬ (j : Int) < (r.cells.length : Int) := by omega
      have HOF : Hid (Own rStr 9 wr W3.heap.size (fun _ => False) u7 (r.cells.map Z0w)) := hI (by have := HO.out; rwa [List.take_of_length_le (by omega)] at this)
      have HJC := hI (Y19 HGK.out HI3.out)
      have HIO : Hid ((Lib.itoa r.out).length <= 30) := hI (Z37 _ HRO.out)
      have k0 := (HBJ.out.cell (p := ⟨n8, 0, none⟩) hs3.out).trans j0
      have k1 := (HBJ.out.cell (p := ⟨n8, 1, none⟩) hs3.out).trans j1
      obtain ⟨jt, hjt⟩ : ∃ x, Lib.join (r.cells.map Z0w) [44] = x := ⟨_, rfl⟩
      obtain ⟨ot, hot⟩ : ∃ x, Lib.itoa r.out = x := ⟨_, rfl⟩
      have HJT := hI hjt
      have HOT := hI hot
      have HJN : Hid (∀ w', Below wr.heap.size wr w' -> Calls Tryz.prog 89 #[u7, .string ⟨#[44]⟩] w' fun e w'' => e = .returned (.string ⟨jt.toArray⟩) /\ Below w'.heap.size w' w'') := hI fun w' hb => by have := Z8d [44] w' ((HOF.out.below hb).rel (by decide)) (by have := HJC.out; omega); rw [hjt] at this; exact this
      have HWR : Hid (LibW wr) := hI (HW0.out.below (HB3.out.trans (HBJ.out.mono HB3.out.size)))
      have HIN : Hid (∀ w', Below wr.heap.size wr w' -> Calls Tryz.prog 88 #[.int .i64 r.out] w' fun e w'' => e = .returned (.string ⟨ot.toArray⟩) /\ Below w'.heap.size w' w'') := hI fun w' hb => by have := Z36 r.out HRO.out w' (HWR.out.below hb); rw [hot] at this; exact this
      have b1 : jt.length <= 243 := by rw [<- hjt]; exact HJC.out
      have b2 : ot.length <= 30 := by rw [<- hot]; exact HIO.out
      have b3 : sx.length <= 2000 := by have := HSL.out; have := HR6.out; omega
      have s1 : ¬ (9223372036854775807 < 2 + jt.length) := by omega
      have s2 : ¬ (9223372036854775807 < 2 + jt.length + 4) := by omega
      have s3 : ¬ (9223372036854775807 < 2 + jt.length + 4 + ot.length) := by omega
      have s4 : ¬ (9223372036854775807 < 2 + jt.length + 4 + ot.length + 2) := by omega
      have s5 : ¬ (9223372036854775807 < sx.length + (2 + jt.length + 4 + ot.length + 2)) := by omega
      clear b1 b2 b3 hjt hot
      have hq8 : n8 < wr.heap.size := Nat.lt_of_lt_of_le hs3.out HBJ.out.size
      go_wp2
      refine wp_region_quiet_below (by kernel_rfl) (by kernel_rfl) ?_
      repeat (go_big_quiet_step (first | with_reducible exact Calls.inBelow HJN.out _ _ | with_reducible exact Calls.inBelow HIN.out _ _))
      refine wpQuiet_nil ?_
      intro _ hw'
      obtain ⟨⟨dq, osq⟩, hw''⟩ := hw'
      subst hw''
      have HBG0 : Hid (Below W0.heap.size W0 wr) := hI (HB3.out.trans (HBJ.out.mono HB3.out.size))
      have HRB := hI (X06 sx jt ot r HJT.out HOT.out)
      go_wp2
      go_roundw
      case rel => exact ⟨k + 1, sx ++ Z7b r, by omega, by go_num, congrArg Value.string HRB.out, HTK, hI (HBG0.out.trans ((below_regrown _ _ _).mono HBG0.out.size))⟩
      case measure => simp [intOf]; omega
   ·have hij : ¬ (k : Int) < (rules.length : Int) := by omega
    have HSE : Hid (sx ++ [125, 10] = Z53 ⟨nm, p, _, ins, rules⟩) := hI (by rw [HSX.out, <- HHD.out, List.take_of_length_le (by omega)]; rfl)
    have hsz : sx.length + 2 <= 1700 := by have h := HTL.out; rw [<- HSE.out, List.length_append] at h; exact h
    have HZ : Hid ((⟨sx.toArray⟩ : ByteArray) ++ ⟨#[125, 10]⟩ = ⟨(sx ++ [125, 10]).toArray⟩) := hI (Y6p sx [125, 10])
    have s1 : ¬ (9223372036854775807 < sx.length + 2) := by omega
    have s2 : ¬ ((2000 : Int) < (sx.length : Int) + 2) := by omega
    have s3 : ¬ (2000 < sx.length + 2) := by omega
    clear hsz hlt hk
    go_wp2
    go_ret2
    refine ⟨?_, HBW.out⟩
    rw [<- HSE.out, <- HZ.out]
    rfl
end Go.Proofs.YtlopccnehgolnaaGreatDoor
namespace Go.Proofs.YtlopccnehgolnaaGreatDoor
open Go.RowKit Rb
theorem Z5m (d : UInt8) (k : Nat) (hd : Lib.digitVal d = some k) : ∀ (l : Txt) (acc n : Nat), Lib.decFrom acc l = some n -> Lib.decFrom acc (l ++ [d]) = some (n * 10 + k)
 | [], acc, n, h => by
  simp only [Lib.decFrom, Option.some.injEq] at h
  subst h
  simp [Lib.decFrom, hd]
 | b :: l, acc, n, h => by
  simp only [Lib.decFrom, List.cons_append] at h ⊢
  cases hb : Lib.digitVal b with
  | none => rw [hb] at h; cases h
  | some e => rw [hb] at h; exact Z5m d k hd l _ n h
theorem Z8g {k : Nat} (h : k < 10) : Lib.digitVal (UInt8.ofNat (48 + k)) = some k := by
 have : (UInt8.ofNat (48 + k)).toNat = 48 + k := by simp; omega
 unfold Lib.digitVal
 rw [this, if_pos (by omega)]
 simp
theorem Z70 {k : Nat} (h : k < 10) : Z2p (UInt8.ofNat (48 + k)) = true := by
 have : (UInt8.ofNat (48 + k)).toNat = 48 + k := by simp; omega
 unfold Z2p
 rw [this]
 simp
 omega
theorem Z2y (u : Nat) : Lib.decFrom 0 (Lib.decDigits u) = some u /\ (Lib.decDigits u).all Z2p = true /\ Lib.decDigits u ≠ [] := by
 induction u using Nat.strongRecOn with
 | ind u ih =>
  rw [Lib.decDigits]
  by_cases h : u < 10
  ·rw [dif_pos h]
   refine ⟨?_, by rw [List.all_cons, Z70 h]; rfl, by simp⟩
   have := Z5m _ u (Z8g h) [] 0 0 rfl
   simpa using this
  ·rw [dif_neg h]
   obtain ⟨h1, h2, _⟩ := ih (u / 10) (by omega)
   refine ⟨?_, ?_, by simp⟩
   ·rw [Z5m _ (u % 10) (Z8g (by omega)) _ 0 _ h1]
    congr 1
    omega
   ·rw [List.all_append, h2, List.all_cons, Z70 (k := u % 10) (by omega)]
    rfl
theorem Y5n (v : Int) : ∃ c t, Lib.itoa v = c :: t /\ (c.toNat = 45 \/ Z2p c = true) /\ t.all Z2p = true := by
 by_cases hneg : v < 0
 ·obtain ⟨u, rfl⟩ : ∃ u : Nat, v = -(u : Int) := ⟨v.natAbs, by omega⟩
  rw [Lib.itoa_neg u (by omega)]
  exact ⟨_, _, rfl, .inl rfl, (Z2y u).2.1⟩
 ·obtain ⟨u, rfl⟩ : ∃ u : Nat, v = u := ⟨v.toNat, by omega⟩
  rw [Lib.itoa_nonneg]
  obtain ⟨_, h2, h3⟩ := Z2y u
  cases hd : Lib.decDigits u with
  | nil => exact absurd hd h3
  | cons c t =>
   rw [hd] at h2
   simp only [List.all_cons, Bool.and_eq_true] at h2
   exact ⟨c, t, rfl, .inr h2.1, h2.2⟩
theorem Y60 (v : Int) : Lib.atoi (Lib.itoa v) = some v := by
 by_cases hneg : v < 0
 ·obtain ⟨u, rfl⟩ : ∃ u : Nat, v = -(u : Int) := ⟨v.natAbs, by omega⟩
  rw [Lib.itoa_neg u (by omega)]
  obtain ⟨h1, _, h3⟩ := Z2y u
  simp [Lib.atoi, Lib.decNat, h1, h3]
 ·obtain ⟨u, rfl⟩ : ∃ u : Nat, v = u := ⟨v.toNat, by omega⟩
  rw [Lib.itoa_nonneg]
  obtain ⟨h1, h2, h3⟩ := Z2y u
  cases hd : Lib.decDigits u with
  | nil => exact absurd hd h3
  | cons c t =>
   rw [hd] at h1 h2
   simp only [List.all_cons, Bool.and_eq_true] at h2
   have hc := h2.1
   unfold Z2p at hc
   simp only [Bool.and_eq_true, decide_eq_true_iff] at hc
   have n1 : (c == 45) = false := by
    rw [beq_eq_false_iff_ne]
    rintro rfl
    have : (45 : UInt8).toNat = 45 := rfl
    omega
   have n2 : (c == 43) = false := by
    rw [beq_eq_false_iff_ne]
    rintro rfl
    have : (43 : UInt8).toNat = 43 := rfl
    omega
   simp [Lib.atoi, Lib.decNat, n1, n2, h1]
theorem Y4b {v : Int} (h : Z0s v = true) : Z5k (Lib.itoa v) = some v := by
 have h8 := Z3z v h
 unfold Z5k
 rw [Lib.atoiAll_short _ (by omega), Y60]
 exact if_pos ⟨rfl, (Z1b v).1 h⟩
def Stop (t : Txt) : Prop := ∀ c r, t = c :: r -> Z34 c = false /\ Z2p c = false
end Go.Proofs.YtlopccnehgolnaaGreatDoor
namespace Go.Proofs.YtlopccnehgolnaaGreatDoor
open Go.RowKit Rb
def sepW {α : Type} (g : α -> List Txt) (sep : Txt) : List α -> List Txt
 | [] => []
 | x :: r => g x ++ r.flatMap fun y => sep :: g y
def rgW (r : Rg) : List Txt := if r.1 < r.2 then [Lib.itoa r.1, [46, 46], Lib.itoa r.2] else [Lib.itoa r.1]
def Y5w (c : Cl) : List Txt := if c.rs.length = 0 then [[42]] else (if c.no then [[110, 111, 116]] else []) ++ sepW rgW [124] c.rs
def X0c (r : Rl) : List Txt := sepW Y5w [44] r.cells ++ [[61, 62], Lib.itoa r.out, [59]]
end Go.Proofs.YtlopccnehgolnaaGreatDoor
namespace Go.Proofs.YtlopccnehgolnaaGreatDoor
open Go.RowKit Rb
def NotAt (s : Txt) (l : List Txt) : Prop := ∀ x r, l = x :: r -> x ≠ s
theorem NotAt.cons {s x : Txt} (r : List Txt) (h : x ≠ s) : NotAt s (x :: r) := fun _ _ e => by injection e with e1 _; subst e1; exact h
theorem Y55 {s : Txt} {l : List Txt} (b : Bool) (h : NotAt s l) : atR ⟨l, b⟩ s = (false, ⟨l, b⟩) := by
 cases l with
 | nil => rfl
 | cons x r => simp [atR, h x r rfl]
theorem Y1v (s : Txt) (l : List Txt) (b : Bool) : atR ⟨s :: l, b⟩ s = (true, ⟨l, b⟩) := by simp [atR]
theorem Y8w (s : Txt) (l : List Txt) (b : Bool) : Z2t ⟨s :: l, b⟩ s = ⟨l, b⟩ := by simp [Z2t, Y1v]
theorem Z6a {v : Int} (h : Z0s v = true) (l : List Txt) (b : Bool) : Z0j ⟨Lib.itoa v :: l, b⟩ = (v, ⟨l, b⟩) := by
 unfold Z0j
 have : (Z3t ⟨Lib.itoa v :: l, b⟩).1 = Lib.itoa v := rfl
 rw [this, Y4b h]
 rfl
theorem Y8b {r : Rg} (h1 : Z0s r.1 = true) (h2 : Z0s r.2 = true) (hle : r.1 <= r.2) (l : List Txt) (hl : NotAt [46, 46] l) : Z1n ⟨rgW r ++ l, false⟩ = (r, ⟨l, false⟩) := by
 unfold Z1n rgW
 split
 ·rename_i h
  have e : ([Lib.itoa r.1, [46, 46], Lib.itoa r.2] : List Txt) ++ l = Lib.itoa r.1 :: [46, 46] :: Lib.itoa r.2 :: l := rfl
  simp only [e, Z6a h1, Y1v, Z6a h2, if_true]
  have : ¬ r.2 <= r.1 := by omega
  simp [this]
 ·rename_i h
  have e : ([Lib.itoa r.1] : List Txt) ++ l = Lib.itoa r.1 :: l := rfl
  simp only [e, Z6a h1, Y55 false hl]
  have : r = (r.1, r.1) := Prod.ext rfl (by dsimp only; omega)
  rw [<- this]
  simp
theorem Y0o {α : Type} {item : Rs -> α × Rs} {sep : Txt} {g : α -> List Txt} {Ok : List Txt -> Prop} (hi : ∀ r, (item r).2.l.length <= r.l.length) (hs : ∀ l, Ok (sep :: l)) (rest : List Txt) (hr : Ok rest) (hn : NotAt sep rest) :
  ∀ (l : List α) (acc : List α), l ≠ [] -> (∀ x ∈ l, ∀ t, Ok t -> item ⟨g x ++ t, false⟩ = (x, ⟨t, false⟩)) -> Z0n item sep ⟨sepW g sep l ++ rest, false⟩ acc = (acc ++ l, ⟨rest, false⟩)
 | [], _, h, _ => absurd rfl h
 | [x], acc, _, h => by
  have e : sepW g sep [x] ++ rest = g x ++ rest := by simp [sepW]
  rw [e]
  exact Z43 acc rfl (h x (List.mem_singleton_self x) rest hr) (Y55 false hn)
 | x :: y :: l, acc, _, h => by
  have e : sepW g sep (x :: y :: l) ++ rest = g x ++ (sep :: (sepW g sep (y :: l) ++ rest)) := by simp [sepW]
  rw [e, Z5n hi acc rfl (h x (List.mem_cons_self ..) _ (hs _)) (Y1v sep _ _), Y0o hi hs rest hr hn (y :: l) (acc ++ [x]) (by simp) fun z hz => h z (List.mem_cons_of_mem _ hz)]
  simp
theorem Y1n : ∀ (f : Nat) (r : Rs) (acc : List Rg), Z25 f r acc = Z1w Z1n [124] f r acc := by
 intro f
 induction f with
 | zero => intro _ _; rfl
 | succ f ih => intro r acc; simp only [Z25, Z1w, ih]
theorem Z92 (r : Rs) (acc : List Rg) : Z1q r acc = Z0n Z1n [124] r acc := Y1n _ _ _
theorem Y1q : ∀ {l : List Rg} {a : Int}, Z3h a l = true -> ∀ r ∈ l, r.1 <= r.2
 | [], _, _, _, hr => by simp at hr
 | x :: l, a, h, r, hr => by
  simp only [Z3h, Bool.and_eq_true, decide_eq_true_iff] at h
  rcases List.mem_cons.1 hr with rfl | hr
  ·exact h.1.1.2
  ·exact Y1q h.2 r hr
def OkC (l : List Txt) : Prop := NotAt [46, 46] l /\ NotAt [124] l
theorem Y67 (v : Int) {s : Txt} (h : s.head?.all (fun c => !(decide (c.toNat = 45) || Z2p c)) = true) : Lib.itoa v ≠ s := by
 obtain ⟨c, t, e, hc, _⟩ := Y5n v
 rintro rfl
 rw [e] at h
 simp at h
 rcases hc with hc | hc
 ·exact h.1 hc
 ·rw [h.2] at hc; cases hc
theorem Y8n (r : Rg) (l : List Txt) : ∃ m, rgW r ++ l = Lib.itoa r.1 :: m := by
 unfold rgW
 split <;> exact ⟨_, rfl⟩
theorem Y91 {c : Cl} (h : Z1a c = true) (t : List Txt) (ht : OkC t) : Z29 ⟨Y5w c ++ t, false⟩ = (c, ⟨t, false⟩) := by
 obtain ⟨no, rs⟩ := c
 unfold Z1a at h
 simp only [Bool.and_eq_true, decide_eq_true_iff] at h
 obtain ⟨⟨_, hs⟩, hn⟩ := h
 unfold Z29 Y5w
 dsimp only
 by_cases h0 : rs.length = 0
 ·rw [if_pos h0]
  obtain rfl : rs = [] := List.eq_nil_of_length_eq_zero h0
  obtain rfl : no = false := by simpa using hn
  have e : ([[42]] : List Txt) ++ t = [42] :: t := rfl
  simp only [e, Y1v, if_true]
 ·rw [if_neg h0]
  have hI := Y0o (item := Z1n) (sep := [124]) (g := rgW) (Ok := NotAt [46, 46]) Z45 (fun l => NotAt.cons l (by decide)) t ht.1 ht.2 rs [] (by rintro rfl; exact h0 rfl)
   fun r hr l hl => Y8b (Z47 hs r hr).1 (Z47 hs r hr).2 (Y1q hs r hr) l hl
  rw [List.nil_append, <- Z92] at hI
  obtain ⟨m, hm⟩ : ∃ m v, sepW rgW [124] rs ++ t = Lib.itoa v :: m := by
   cases rs with
   | nil => exact absurd rfl h0
   | cons r l =>
    obtain ⟨m, hm⟩ := Y8n r ((l.flatMap fun y => [124] :: rgW y) ++ t)
    exact ⟨m, r.1, by rw [<- hm]; simp [sepW]⟩
  obtain ⟨v, hm⟩ := hm
  have n1 : NotAt [42] (sepW rgW [124] rs ++ t) := by rw [hm]; exact NotAt.cons _ (Y67 v (by decide))
  have n2 : NotAt [110, 111, 116] (sepW rgW [124] rs ++ t) := by rw [hm]; exact NotAt.cons _ (Y67 v (by decide))
  cases no
  ·simp only [Bool.false_eq_true, if_false, List.nil_append]
   simp only [Y55 false n1, Y55 false n2, hI]
   simp
  ·simp only [if_true]
   have e : (([[110, 111, 116]] : List Txt) ++ sepW rgW [124] rs) ++ t = [110, 111, 116] :: (sepW rgW [124] rs ++ t) := by simp
   have n3 : NotAt [42] ([110, 111, 116] :: (sepW rgW [124] rs ++ t)) := NotAt.cons _ (by decide)
   simp only [e, Y55 false n3, Y1v, hI]
   simp
end Go.Proofs.YtlopccnehgolnaaGreatDoor
namespace Go.Proofs.YtlopccnehgolnaaGreatDoor
open Go.RowKit Rb
theorem Y89 {x : Txt} (h1 : x ≠ [46, 46]) (h2 : x ≠ [124]) (l : List Txt) : OkC (x :: l) := ⟨NotAt.cons l h1, NotAt.cons l h2⟩
theorem X1j {n : Nat} {r : Rl} (h : Z0l n r = true) (hn : 1 <= n) (t : List Txt) : Z60 ⟨X0c r ++ t, false⟩ = (r, ⟨t, false⟩) := by
 obtain ⟨cells, out⟩ := r
 unfold Z0l at h
 simp only [Bool.and_eq_true, decide_eq_true_iff, List.all_eq_true] at h
 obtain ⟨⟨ho, hl⟩, hc⟩ := h
 have hI := Y0o (item := Z29) (sep := [44]) (g := Y5w) (Ok := OkC) Z55 (fun l => Y89 (by decide) (by decide) l) ([61, 62] :: Lib.itoa out :: [59] :: t) (Y89 (by decide) (by decide) _) (NotAt.cons _ (by decide)) cells [] (by rintro rfl; simp at hl; omega)
  fun c hc' l hl => Y91 (hc c hc') l hl
 have e : X0c ⟨cells, out⟩ ++ t = sepW Y5w [44] cells ++ ([61, 62] :: Lib.itoa out :: [59] :: t) := by simp [X0c]
 unfold Z60
 rw [e, hI]
 simp only [List.nil_append, Y8w, Z6a ho]
theorem Z9j {d : Dm} (h : Z5g d = true) : Z18 d.name = true /\ Z0s d.lo = true /\ Z0s d.hi = true := by
 unfold Z5g at h
 simp only [Bool.and_eq_true, decide_eq_true_iff] at h
 obtain ⟨h1, h2, h3, h4⟩ := h
 exact ⟨h1, (Z1b _).2 ⟨h2, by omega⟩, (Z1b _).2 ⟨by omega, h4⟩⟩
end Go.Proofs.YtlopccnehgolnaaGreatDoor
namespace Go.Proofs.YtlopccnehgolnaaGreatDoor
open Go.RowKit Rb
open Go.Lib renaming hid -> hI
open Go.World renaming cell?_alloc_new -> cN
set_option maxRecDepth 100000
set_option maxHeartbeats 1600000
def Z9q (t : Tb) : Txt × Int := if Z0r t then (Z53 t, 0) else ([], 1)
theorem Y6h {S : Nat -> Prop} {cs : List Value} (t : Tb) (w : World) (hl : rTb.rel w S cs t) (hw : LibW w) (hpw : PolW w) :
  Calls Tryz.prog 56 #[.agg cs.toArray] w fun e w' => e = .returned (.tuple #[.string ⟨(Z9q t).1.toArray⟩, .int .i64 (Z9q t).2]) /\ Below w.heap.size w w' := by
 unfold Z9q
 cases hg : Z0r t
 ·have HL := hI hl
  obtain ⟨vi, vr, rfl, hnm, hp, hi, hr⟩ := hl
  obtain ⟨A, c, rfl, _⟩ := rSl.elems hi
  obtain ⟨B, d, rfl, _⟩ := rSl.elems hr
  obtain ⟨W0, e0, HB0, c0, c1, c2, c3, c4, hs0⟩ : ∃ W0, w.alloc (.cells #[.string ⟨t.name.toArray⟩, .int .i64 t.pol, .bool t.comp, .slice A t.ins.length c, .slice B t.rules.length d] 58) = W0 /\ Hid (Below w.heap.size w W0) /\
    W0.cell? ⟨w.heap.size, 0, none⟩ = some (.string ⟨t.name.toArray⟩) /\ W0.cell? ⟨w.heap.size, 1, none⟩ = some (.int .i64 t.pol) /\ W0.cell? ⟨w.heap.size, 2, none⟩ = some (.bool t.comp) /\ W0.cell? ⟨w.heap.size, 3, none⟩ = some (.slice A t.ins.length c) /\ W0.cell? ⟨w.heap.size, 4, none⟩ = some (.slice B t.rules.length d) /\ w.heap.size < W0.heap.size :=
   ⟨_, rfl, hI ((Below.refl _ _).alloc (Nat.le_refl _) _), cN _ _ _ _, cN _ _ _ _, cN _ _ _ _, cN _ _ _ _, cN _ _ _ _, by simp⟩
  have HG0 := hI (Y0a W0 (Rd.below HL.out HB0.out) hg)
  clear hi hr hw hpw hg hnm hp
  go_enter Tryz.func56, Tryz.ntmps56
  go_wp2_with (first | (go_at_call 14; (with_reducible refine HG0.out.mono ?_); rintro e w1 ⟨rfl, hb1⟩; have HB1 := hI (HB0.out.trans (hb1.mono HB0.out.size)); clear hb1))
  go_ret2
  exact ⟨rfl, HB1.out⟩
 ·exact Y5s t w hl hg hw hpw
end Go.Proofs.YtlopccnehgolnaaGreatDoor
