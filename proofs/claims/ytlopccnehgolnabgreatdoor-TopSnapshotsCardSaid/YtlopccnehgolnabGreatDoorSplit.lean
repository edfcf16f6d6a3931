import Derived.Test.YtlopccnehgolnabGreatDoorShTx
import Derived.Test.YtlopccnehgolnabGreatDoorTabA
import Derived.Test.YtlopccnehgolnabGreatDoorGK0
import Derived.Deep.DeepMust
import Derived.Deep.DeepCutAuto
import Derived.Deep.CutBlock
import Derived.Lib.Hide
namespace Go.Proofs.YtlopccnehgolnabGreatDoor
open Go.RowKit Rb
open Go.Lib renaming hasPrefix -> jA, indexByte -> jB
open List renaming drop_length -> jC
open Nat renaming add_sub_cancel' -> jD
set_option maxRecDepth 100000
set_option maxHeartbeats 6400000
def Z4u (c : UInt8) : Bool := decide (97 <= c.toNat) && decide (c.toNat <= 122)
def Z23 (c : UInt8) : Bool := decide (48 <= c.toNat) && decide (c.toNat <= 57)
def Z06 (s : Txt) : Option Nat :=
 match s with
 | [] => none
 | c :: t =>
  if Z4u c then some (1 + (t.takeWhile Z4u).length)
  else if c.toNat = 45 \/ Z23 c = true then some (1 + (t.takeWhile Z23).length)
  else if jA s [46, 46] || jA s [61, 62] then some 2
  else if 0 <= jB [40, 41, 123, 125, 44, 59, 124, 42] c then some 1
  else none
def Z2j : Nat -> Txt -> List Txt -> Option (List Txt)
 | 0, _, acc => some acc
 | f + 1, s, acc =>
  match s with
  | [] => some acc
  | c :: t => if c.toNat = 32 \/ c.toNat = 10 then Z2j f t acc else match Z06 s with | some n => Z2j f (s.drop n) (acc ++ [s.take n]) | none => none
theorem Z1o (l : Txt) (i j : Nat) : (⟨l.toArray⟩ : ByteArray).extract i j = ⟨((l.drop i).take (j - i)).toArray⟩ := by
 apply ByteArray.ext
 simp [ByteArray.data_extract]
theorem Y38 : ∀ (f g : Nat) (s : Txt) (acc : List Txt), s.length <= f -> s.length <= g -> Z2j f s acc = Z2j g s acc := by
 intro f
 induction f with
 | zero =>
  intro g s acc h hg
  obtain rfl : s = [] := L1g (by omega)
  cases g <;> rfl
 | succ f ih =>
  intro g s acc h hg
  cases s with
  | nil => cases g <;> rfl
  | cons c t =>
   cases g with
   | zero => simp at hg
   | succ g =>
    simp only [L0s] at h hg
    simp only [Z2j]
    split
    ·exact ih g t acc (by omega) (by omega)
    cases hw : Z06 (c :: t) with
    | none => rfl
    | some n =>
     have h1 : 1 <= n := by
      unfold Z06 at hw
      dsimp only at hw
      split at hw
      ·injection hw with hw; omega
      split at hw
      ·injection hw with hw; omega
      split at hw
      ·injection hw with hw; omega
      split at hw
      ·injection hw with hw; omega
      cases hw
     have h2 : ((c :: t).drop n).length <= t.length := by rw [L1b, L0s]; omega
     exact ih g _ _ (by omega) (by omega)
def Z09 (s : Txt) (acc : List Txt) : Option (List Txt) := Z2j s.length s acc
theorem Z9c {s : Txt} {c : UInt8} {t : Txt} (acc : List Txt) (hs : s = c :: t) (h : c.toNat = 32 \/ c.toNat = 10) : Z09 s acc = Z09 (s.drop 1) acc := by
 subst hs
 unfold Z09
 simp only [L0s, Z2j, L4j, L2z]
 rw [if_pos h]
theorem Z1r {s : Txt} {c : UInt8} {t : Txt} {n : Nat} (acc : List Txt) (hs : s = c :: t) (h : ¬ (c.toNat = 32 \/ c.toNat = 10)) (hn : Z06 s = some n) (h1 : 1 <= n) : Z09 s acc = Z09 (s.drop n) (acc ++ [s.take n]) := by
 subst hs
 unfold Z09
 simp only [L0s, Z2j]
 rw [if_neg h, hn]
 exact Y38 _ _ _ _ (by rw [L1b, L0s]; omega) (L0f _)
theorem Y51 {s : Txt} {c : UInt8} {t : Txt} (acc : List Txt) (hs : s = c :: t) (h : ¬ (c.toNat = 32 \/ c.toNat = 10)) (hn : Z06 s = none) : Z09 s acc = none := by
 subst hs
 unfold Z09
 simp only [L0s, Z2j]
 rw [if_neg h, hn]
theorem Y71 {p : UInt8 -> Bool} {t : Txt} {k : Nat} (h : (t.take k).all p = true) (hk : k <= t.length) (he : k = t.length \/ ∃ c, t[k]? = some c /\ p c = false) : (t.takeWhile p).length = k := by
 induction t generalizing k with
 | nil => simp at hk; subst hk; rfl
 | cons c t ih =>
  cases k with
  | zero =>
   rcases he with he | ⟨d, hd, hp⟩
   ·simp at he
   simp at hd
   subst hd
   simp [hp]
  | succ k =>
   simp only [L2j, List.all_cons, L0y] at h
   simp only [L0s] at hk
   rw [List.takeWhile_cons, if_pos h.1, L0s, ih h.2 (by omega)]
   rcases he with he | ⟨d, hd, hp⟩
   ·simp only [L0s] at he; exact .inl (by omega)
   exact .inr ⟨d, by simpa using hd, hp⟩
def Y0d (v : Value) : Nat := match v with | .string b => b.size | _ => 0
theorem Z0q (s : Txt) : Y0d (.string ⟨s.toArray⟩) = s.length := by simp [Y0d, ByteArray.size]
theorem Y40 {r : Txt} {c : UInt8} {t : Txt} {k : Nat} (hr : r = c :: t) (hl : Z4u c = true) (h1 : 1 <= k) (hk : k <= r.length) (ha : ((r.drop 1).take (k - 1)).all Z4u = true) (he : k = r.length \/ ∃ d, r[k]? = some d /\ Z4u d = false) : Z06 r = some k := by
 subst hr
 simp only [L4j, L2z, L0s] at ha hk he
 unfold Z06
 dsimp only
 rw [if_pos hl, Y71 ha (by omega) ?_, jD h1]
 rcases he with he | ⟨d, hd, hp⟩
 ·exact .inl (by omega)
 refine .inr ⟨d, ?_, hp⟩
 cases k with
 | zero => omega
 | succ k => simpa using hd
theorem Z74 {r : Txt} {c : UInt8} {t : Txt} {k : Nat} (hr : r = c :: t) (hl : Z4u c = false) (hd : c.toNat = 45 \/ Z23 c = true) (h1 : 1 <= k) (hk : k <= r.length) (ha : ((r.drop 1).take (k - 1)).all Z23 = true) (he : k = r.length \/ ∃ d, r[k]? = some d /\ Z23 d = false) : Z06 r = some k := by
 subst hr
 simp only [L4j, L2z, L0s] at ha hk he
 unfold Z06
 dsimp only
 rw [if_neg (by simp [hl]), if_pos hd, Y71 ha (by omega) ?_, jD h1]
 rcases he with he | ⟨d, hd, hp⟩
 ·exact .inl (by omega)
 refine .inr ⟨d, ?_, hp⟩
 cases k with
 | zero => omega
 | succ k => simpa using hd
theorem Y8j {r : Txt} {c : UInt8} {t : Txt} (hr : r = c :: t) (hl : Z4u c = false) (hd : ¬ (c.toNat = 45 \/ Z23 c = true)) : Z06 r = if jA r [46, 46] || jA r [61, 62] then some 2 else if 0 <= jB [40, 41, 123, 125, 44, 59, 124, 42] c then some 1 else none := by
 subst hr
 unfold Z06
 dsimp only
 rw [if_neg (by simp [hl]), if_neg hd]
theorem Y7t {r : Txt} {a b : UInt8} (h : jA r [a, b] = true) : 2 <= r.length := by
 unfold jA at h
 match r, h with
 | [], h => cases h
 | [x], h => simp [List.isPrefixOf] at h
 | x :: y :: l, _ => simp
theorem Y0t {p : UInt8 -> Bool} {r : Txt} {k : Nat} {d : UInt8} (h1 : 1 <= k) (ha : ((r.drop 1).take (k - 1)).all p = true) (hd : r[k]? = some d) (hp : p d = true) : ((r.drop 1).take (k + 1 - 1)).all p = true := by
 have hk : k + 1 - 1 = (k - 1) + 1 := by omega
 rw [hk, L1k, List.all_append, ha]
 have : (r.drop 1)[k - 1]? = some d := by rw [L1n]; rw [show 1 + (k - 1) = k by omega]; exact hd
 rw [this]
 simp [hp]
theorem Z4d : ElemOf Tryz.prog rStr 39 9 := .mk' Tryz.underlying39 (z := .string ⟨#[]⟩) (k := 1) (b := 16) (by kernel_rfl) rfl rfl rfl (by decide) (by decide)
theorem Z4e (w : World) (S : Nat -> Prop) (r : Txt) (n : Nat) (h : r.length <= 4000) : rStr.rel w S [.string ((⟨r.toArray⟩ : ByteArray).extract 0 n)] (r.take n) := by
 refine ⟨by rw [Z1o]; rfl, ?_⟩
 have : (r.take n).length <= r.length := List.length_take_le' _ _
 omega
theorem Y78 (s : Txt) (w : World) (hs : s.length <= 4000) :
  Calls Tryz.prog 92 #[.string ⟨s.toArray⟩] w fun e w' => ∃ v, e = .returned (.tuple #[v, .bool (Z09 s []).isSome]) /\ Own rStr 9 w' w.heap.size (fun _ => False) v ((Z09 s []).getD []) /\ Below w.heap.size w w' := by
 obtain ⟨fin, hfin⟩ : ∃ x, Z09 s [] = x := ⟨_, rfl⟩
 have HFIN := L0 hfin
 have HSL := L0 hs
 rw [hfin]
 clear hfin hs
 go_enter Tryz.func92, Tryz.ntmps92
 go_wp2
 go_loopw [0, 4] (fun sv lv wr => ∃ (r : Txt) (acc : List Txt), sv = .string ⟨r.toArray⟩ /\ Hid (Own rStr 9 wr w.heap.size (fun _ => False) lv acc) /\ Hid (Z09 r acc = fin) /\ Hid (acc.length + r.length <= 4000) /\ Hid (Below w.heap.size w wr)) (fun sv _ _ => Y0d sv)
 exact ⟨s, [], rfl, L0 (Own.nil _ _ _ _ _), HFIN, L0 (by simpa using HSL.o), L0 (L0m _ _)⟩
 obtain ⟨r, acc, rfl, HO, HG, HL, HB⟩ := hrel
 obtain ⟨Av, lv, rfl⟩ := HO.o.value
 by_cases hr : r = []
 ·subst hr
  have HZ : Hid (some acc = fin) := L0 HG.o
  go_wp2
  go_ret2
  exact ⟨_, by rw [<- HZ.o]; rfl, by rw [<- HZ.o]; exact HO.o, HB.o⟩
 obtain ⟨c, t, hct⟩ : ∃ c t, r = c :: t := by
  cases r with
  | nil => exact absurd rfl hr
  | cons c t => exact ⟨c, t, rfl⟩
 have HRC := L0 hct
 have hne : r.isEmpty = false := by rw [hct]; rfl
 have hne2 : (r == []) = false := by rw [hct]; rfl
 have hlt0 : 0 < r.length := by rw [hct]; simp
 have hl0 : (0 : Int) < (r.length : Int) := by omega
 have hl1 : (1 : Int) <= (r.length : Int) := by omega
 have hc0 : (⟨r.toArray⟩ : ByteArray)[0]'hlt0 = c := by subst hct; rfl
 have HLT0 : Hid (1 <= r.length) := L0 hlt0
 have HBY : Hid ((acc.length + 1) * rStr.bytes <= 140737488355328) := L0 (by have := HL.o; simp only [rStr]; omega)
 have hrl : r.length <= 4000 := by have := HL.o; omega
 have HRL := L0 hrl
 clear hct hr
 have hall : c.toNat = 32 \/ c.toNat = 10 \/ (97 <= c.toNat /\ c.toNat <= 122) \/ (c.toNat = 45) \/ (48 <= c.toNat /\ c.toNat <= 57) \/ (c.toNat ≠ 32 /\ c.toNat ≠ 10 /\ c.toNat ≠ 45 /\ c.toNat < 48) \/ (57 < c.toNat /\ c.toNat < 97) \/ (122 < c.toNat) := by omega
 rcases hall with hc | hc | ⟨hc, hc'⟩ | hc | ⟨hc, hc'⟩ | hN
 ·have e32 : ((c.toNat : Int) == 32) = true := by simp; omega
  have HZ := L0 ((Z9c acc HRC.o (by omega)).symm.trans HG.o)
  clear hc
  go_wp2
  go_roundw
  exact ⟨r.drop 1, acc, by rw [Z1o, L0l (by simp)], HO, HZ, L0 (by have h1 := HL.o; rw [L1b]; omega), HB⟩
  rw [Z1o, Z0q, Z0q, L1i, L1b]; omega
 ·have e32 : ((c.toNat : Int) == 32) = false := by simp; omega
  have e10 : ((c.toNat : Int) == 10) = true := by simp; omega
  have HZ := L0 ((Z9c acc HRC.o (by omega)).symm.trans HG.o)
  clear hc
  go_wp2
  go_roundw
  exact ⟨r.drop 1, acc, by rw [Z1o, L0l (by simp)], HO, HZ, L0 (by have h1 := HL.o; rw [L1b]; omega), HB⟩
  rw [Z1o, Z0q, Z0q, L1i, L1b]; omega
 ·have e32 : ((c.toNat : Int) == 32) = false := by simp; omega
  have e10 : ((c.toNat : Int) == 10) = false := by simp; omega
  have g1 : (97 : Int) <= (c.toNat : Int) := by omega
  have g2 : (c.toNat : Int) <= 122 := by omega
  have HSP : Hid (¬ (c.toNat = 32 \/ c.toNat = 10)) := L0 (by omega)
  have HLE : Hid (Z4u c = true) := L0 (by simp [Z4u]; omega)
  clear hc hc'
  go_wp2
  go_loop [6] (fun i => ∃ k : Nat, i = .int .i64 k /\ Hid (1 <= k) /\ Hid (k <= r.length) /\ Hid (((r.drop 1).take (k - 1)).all Z4u = true)) (fun i => r.length - (intOf i).toNat)
  exact ⟨1, rfl, L0 (L0f _), HLT0, L0 (by simp)⟩
  obtain ⟨k, rfl, HN1, HNL, HAL⟩ := hrel
  by_cases hk : k < r.length
  ·have hik : (k : Int) < (r.length : Int) := by omega
   obtain ⟨d, hd⟩ : ∃ d : UInt8, (⟨r.toArray⟩ : ByteArray)[k]'hk = d := ⟨_, rfl⟩
   have HD : Hid (r[k]? = some d) := L0 (by rw [L0g hk]; exact congrArg some hd)
   have hcases : (d.toNat : Int) < 97 \/ (97 <= (d.toNat : Int) /\ 122 < (d.toNat : Int)) \/ (97 <= (d.toNat : Int) /\ (d.toNat : Int) <= 122) := by omega
   rcases hcases with e1 | ⟨e1, e2⟩ | ⟨e1, e2⟩
   rotate_right
   ·have HAL2 := L0 (Y0t HN1.o HAL.o HD.o (by simp [Z4u]; omega))
    go_wp2
    go_round
    exact ⟨k + 1, by go_num, L0 (L4e HN1.o), L0 hk, HAL2⟩
    simp [intOf]; omega
   all_goals
    have HWL : Hid (Z06 r = some k) := L0 (Y40 HRC.o HLE.o HN1.o HNL.o HAL.o (.inr ⟨d, HD.o, by simp [Z4u]; omega⟩))
    have hkl : (k : Int) <= (r.length : Int) := by omega
    go_wp2_with (at_builtin; refine Z0a (R := rStr) (x := r.take k) Z4d rfl (.tmp 85) (.tmp 89) rfl rfl HO.o [.string ((⟨r.toArray⟩ : ByteArray).extract 0 k)] rfl rfl (fun _ => False) (Z4e _ _ _ _ HRL.o) (fun _ h => h.elim) HBY.o HB.o.size ?_; intro v9 w9 hown9 hb9 _ _)
    go_roundw
    exact ⟨r.drop k, acc ++ [r.take k], by rw [Z1o, L0l (by simp)], L0 hown9, L0 ((Z1r acc HRC.o HSP.o HWL.o HN1.o).symm.trans HG.o), L0 (by have h1 := HL.o; have h2 : 1 <= k := HN1.o; have h3 : k <= r.length := HNL.o; rw [L0i, L0p, L1b]; omega), L0 (HB.o.trans hb9)⟩
    rw [Z1o, Z0q, Z0q, L1i, L1b]; have h2 : 1 <= k := HN1.o; have h3 : k <= r.length := HNL.o; omega
  have hij : ¬ (k : Int) < (r.length : Int) := by omega
  have HWL : Hid (Z06 r = some k) := L0 (Y40 HRC.o HLE.o HN1.o HNL.o HAL.o (.inl (L4c HNL.o (L4 hk))))
  obtain rfl : k = r.length := L4c HNL.o (L4 hk)
  go_wp2_with (at_builtin; refine Z0a (R := rStr) (x := r.take r.length) Z4d rfl (.tmp 85) (.tmp 89) rfl rfl HO.o [.string ((⟨r.toArray⟩ : ByteArray).extract 0 r.length)] rfl rfl (fun _ => False) (Z4e _ _ _ _ HRL.o) (fun _ h => h.elim) HBY.o HB.o.size ?_; intro v9 w9 hown9 hb9 _ _)
  go_roundw
  exact ⟨[], acc ++ [r.take r.length], rfl, L0 hown9, L0 (by have h := (Z1r acc HRC.o HSP.o HWL.o HN1.o).symm.trans HG.o; rw [jC] at h; exact h), L0 (by have h1 := HL.o; have h2 := HN1.o; rw [L0i, L0p, L0u]; omega), L0 (HB.o.trans hb9)⟩
  show Y0d (.string ByteArray.empty) < _; rw [Z0q]; exact HLT0.o
 ·have e32 : ((c.toNat : Int) == 32) = false := by simp; omega
  have e10 : ((c.toNat : Int) == 10) = false := by simp; omega
  have g1 : ¬ (97 : Int) <= (c.toNat : Int) := by omega
  have e45 : ((c.toNat : Int) == 45) = true := by simp; omega
  have HSP : Hid (¬ (c.toNat = 32 \/ c.toNat = 10)) := L0 (by omega)
  have HLE : Hid (Z4u c = false) := L0 (by simp [Z4u]; omega)
  have HDE : Hid (c.toNat = 45 \/ Z23 c = true) := L0 (.inl hc)
  clear hc
  go_wp2
  go_loop [6] (fun i => ∃ k : Nat, i = .int .i64 k /\ Hid (1 <= k) /\ Hid (k <= r.length) /\ Hid (((r.drop 1).take (k - 1)).all Z23 = true)) (fun i => r.length - (intOf i).toNat)
  exact ⟨1, rfl, L0 (L0f _), HLT0, L0 (by simp)⟩
  obtain ⟨k, rfl, HN1, HNL, HAL⟩ := hrel
  by_cases hk : k < r.length
  ·have hik : (k : Int) < (r.length : Int) := by omega
   obtain ⟨d, hd⟩ : ∃ d : UInt8, (⟨r.toArray⟩ : ByteArray)[k]'hk = d := ⟨_, rfl⟩
   have HD : Hid (r[k]? = some d) := L0 (by rw [L0g hk]; exact congrArg some hd)
   have hcases : (d.toNat : Int) < 48 \/ (48 <= (d.toNat : Int) /\ 57 < (d.toNat : Int)) \/ (48 <= (d.toNat : Int) /\ (d.toNat : Int) <= 57) := by omega
   rcases hcases with e1 | ⟨e1, e2⟩ | ⟨e1, e2⟩
   rotate_right
   ·have HAL2 := L0 (Y0t HN1.o HAL.o HD.o (by simp [Z23]; omega))
    go_wp2
    go_round
    exact ⟨k + 1, by go_num, L0 (L4e HN1.o), L0 hk, HAL2⟩
    simp [intOf]; omega
   all_goals
    have HWL : Hid (Z06 r = some k) := L0 (Z74 HRC.o HLE.o HDE.o HN1.o HNL.o HAL.o (.inr ⟨d, HD.o, by simp [Z23]; omega⟩))
    have hkl : (k : Int) <= (r.length : Int) := by omega
    go_wp2_with (at_builtin; refine Z0a (R := rStr) (x := r.take k) Z4d rfl (.tmp 85) (.tmp 89) rfl rfl HO.o [.string ((⟨r.toArray⟩ : ByteArray).extract 0 k)] rfl rfl (fun _ => False) (Z4e _ _ _ _ HRL.o) (fun _ h => h.elim) HBY.o HB.o.size ?_; intro v9 w9 hown9 hb9 _ _)
    go_roundw
    exact ⟨r.drop k, acc ++ [r.take k], by rw [Z1o, L0l (by simp)], L0 hown9, L0 ((Z1r acc HRC.o HSP.o HWL.o HN1.o).symm.trans HG.o), L0 (by have h1 := HL.o; have h2 : 1 <= k := HN1.o; have h3 : k <= r.length := HNL.o; rw [L0i, L0p, L1b]; omega), L0 (HB.o.trans hb9)⟩
    rw [Z1o, Z0q, Z0q, L1i, L1b]; have h2 : 1 <= k := HN1.o; have h3 : k <= r.length := HNL.o; omega
  have hij : ¬ (k : Int) < (r.length : Int) := by omega
  have HWL : Hid (Z06 r = some k) := L0 (Z74 HRC.o HLE.o HDE.o HN1.o HNL.o HAL.o (.inl (L4c HNL.o (L4 hk))))
  obtain rfl : k = r.length := L4c HNL.o (L4 hk)
  go_wp2_with (at_builtin; refine Z0a (R := rStr) (x := r.take r.length) Z4d rfl (.tmp 85) (.tmp 89) rfl rfl HO.o [.string ((⟨r.toArray⟩ : ByteArray).extract 0 r.length)] rfl rfl (fun _ => False) (Z4e _ _ _ _ HRL.o) (fun _ h => h.elim) HBY.o HB.o.size ?_; intro v9 w9 hown9 hb9 _ _)
  go_roundw
  exact ⟨[], acc ++ [r.take r.length], rfl, L0 hown9, L0 (by have h := (Z1r acc HRC.o HSP.o HWL.o HN1.o).symm.trans HG.o; rw [jC] at h; exact h), L0 (by have h1 := HL.o; have h2 := HN1.o; rw [L0i, L0p, L0u]; omega), L0 (HB.o.trans hb9)⟩
  show Y0d (.string ByteArray.empty) < _; rw [Z0q]; exact HLT0.o
 ·have e32 : ((c.toNat : Int) == 32) = false := by simp; omega
  have e10 : ((c.toNat : Int) == 10) = false := by simp; omega
  have g1 : ¬ (97 : Int) <= (c.toNat : Int) := by omega
  have e45 : ((c.toNat : Int) == 45) = false := by simp; omega
  have g3 : (48 : Int) <= (c.toNat : Int) := by omega
  have g4 : (c.toNat : Int) <= 57 := by omega
  have HSP : Hid (¬ (c.toNat = 32 \/ c.toNat = 10)) := L0 (by omega)
  have HLE : Hid (Z4u c = false) := L0 (by simp [Z4u]; omega)
  have HDE : Hid (c.toNat = 45 \/ Z23 c = true) := L0 (.inr (by simp [Z23]; omega))
  clear hc hc'
  go_wp2
  go_loop [6] (fun i => ∃ k : Nat, i = .int .i64 k /\ Hid (1 <= k) /\ Hid (k <= r.length) /\ Hid (((r.drop 1).take (k - 1)).all Z23 = true)) (fun i => r.length - (intOf i).toNat)
  exact ⟨1, rfl, L0 (L0f _), HLT0, L0 (by simp)⟩
  obtain ⟨k, rfl, HN1, HNL, HAL⟩ := hrel
  by_cases hk : k < r.length
  ·have hik : (k : Int) < (r.length : Int) := by omega
   obtain ⟨d, hd⟩ : ∃ d : UInt8, (⟨r.toArray⟩ : ByteArray)[k]'hk = d := ⟨_, rfl⟩
   have HD : Hid (r[k]? = some d) := L0 (by rw [L0g hk]; exact congrArg some hd)
   have hcases : (d.toNat : Int) < 48 \/ (48 <= (d.toNat : Int) /\ 57 < (d.toNat : Int)) \/ (48 <= (d.toNat : Int) /\ (d.toNat : Int) <= 57) := by omega
   rcases hcases with e1 | ⟨e1, e2⟩ | ⟨e1, e2⟩
   rotate_right
   ·have HAL2 := L0 (Y0t HN1.o HAL.o HD.o (by simp [Z23]; omega))
    go_wp2
    go_round
    exact ⟨k + 1, by go_num, L0 (L4e HN1.o), L0 hk, HAL2⟩
    simp [intOf]; omega
   all_goals
    have HWL : Hid (Z06 r = some k) := L0 (Z74 HRC.o HLE.o HDE.o HN1.o HNL.o HAL.o (.inr ⟨d, HD.o, by simp [Z23]; omega⟩))
    have hkl : (k : Int) <= (r.length : Int) := by omega
    go_wp2_with (at_builtin; refine Z0a (R := rStr) (x := r.take k) Z4d rfl (.tmp 85) (.tmp 89) rfl rfl HO.o [.string ((⟨r.toArray⟩ : ByteArray).extract 0 k)] rfl rfl (fun _ => False) (Z4e _ _ _ _ HRL.o) (fun _ h => h.elim) HBY.o HB.o.size ?_; intro v9 w9 hown9 hb9 _ _)
    go_roundw
    exact ⟨r.drop k, acc ++ [r.take k], by rw [Z1o, L0l (by simp)], L0 hown9, L0 ((Z1r acc HRC.o HSP.o HWL.o HN1.o).symm.trans HG.o), L0 (by have h1 := HL.o; have h2 : 1 <= k := HN1.o; have h3 : k <= r.length := HNL.o; rw [L0i, L0p, L1b]; omega), L0 (HB.o.trans hb9)⟩
    rw [Z1o, Z0q, Z0q, L1i, L1b]; have h2 : 1 <= k := HN1.o; have h3 : k <= r.length := HNL.o; omega
  have hij : ¬ (k : Int) < (r.length : Int) := by omega
  have HWL : Hid (Z06 r = some k) := L0 (Z74 HRC.o HLE.o HDE.o HN1.o HNL.o HAL.o (.inl (L4c HNL.o (L4 hk))))
  obtain rfl : k = r.length := L4c HNL.o (L4 hk)
  go_wp2_with (at_builtin; refine Z0a (R := rStr) (x := r.take r.length) Z4d rfl (.tmp 85) (.tmp 89) rfl rfl HO.o [.string ((⟨r.toArray⟩ : ByteArray).extract 0 r.length)] rfl rfl (fun _ => False) (Z4e _ _ _ _ HRL.o) (fun _ h => h.elim) HBY.o HB.o.size ?_; intro v9 w9 hown9 hb9 _ _)
  go_roundw
  exact ⟨[], acc ++ [r.take r.length], rfl, L0 hown9, L0 (by have h := (Z1r acc HRC.o HSP.o HWL.o HN1.o).symm.trans HG.o; rw [jC] at h; exact h), L0 (by have h1 := HL.o; have h2 := HN1.o; rw [L0i, L0p, L0u]; omega), L0 (HB.o.trans hb9)⟩
  show Y0d (.string ByteArray.empty) < _; rw [Z0q]; exact HLT0.o
 have e32 : ((c.toNat : Int) == 32) = false := by simp; omega
 have e10 : ((c.toNat : Int) == 10) = false := by simp; omega
 have e45 : ((c.toNat : Int) == 45) = false := by simp; omega
 have HSP : Hid (¬ (c.toNat = 32 \/ c.toNat = 10)) := L0 (by omega)
 have HEL := L0 (Y8j HRC.o (by simp [Z4u]; omega) (by simp [Z23]; omega))
 obtain ⟨p1, hp1⟩ : ∃ x, jA r [46, 46] = x := ⟨_, rfl⟩
 obtain ⟨p2, hp2⟩ : ∃ x, jA r [61, 62] = x := ⟨_, rfl⟩
 obtain ⟨ix, hix⟩ : ∃ x, jB [40, 41, 123, 125, 44, 59, 124, 42] c = x := ⟨_, rfl⟩
 rw [hp1, hp2, hix] at HEL
 have HP1 : Hid (∀ w, Calls Tryz.prog 138 #[.string ⟨r.toArray⟩, .string ⟨#[46, 46]⟩] w fun e w' => e = .returned (.bool p1) /\ w' = w) := L0 fun w => hp1 ▸ Z59 r [46, 46] w
 have HP2 : Hid (∀ w, Calls Tryz.prog 138 #[.string ⟨r.toArray⟩, .string ⟨#[61, 62]⟩] w fun e w' => e = .returned (.bool p2) /\ w' = w) := L0 fun w => hp2 ▸ Z59 r [61, 62] w
 have HIX : Hid (∀ w, Calls Tryz.prog 139 #[.string ⟨#[40, 41, 123, 125, 44, 59, 124, 42]⟩, .int .u8 (c.toNat : Int)] w fun e w' => e = .returned (.int .i64 ix) /\ w' = w) := L0 fun w => by
  have h := Y0m [40, 41, 123, 125, 44, 59, 124, 42] (c.toNat : Int) w
  rw [show ((c.toNat : Int)).toNat.toUInt8 = c by simp] at h
  rw [hix] at h
  exact h
 have H21 : Hid (p1 = true -> 2 <= r.length) := L0 fun h => Y7t (hp1.trans h)
 have H22 : Hid (p2 = true -> 2 <= r.length) := L0 fun h => Y7t (hp2.trans h)
 clear hp1 hp2 hix
 have hN2 : ((c.toNat : Int) < 97 /\ (c.toNat : Int) < 48) \/ ((c.toNat : Int) < 97 /\ (48 : Int) <= (c.toNat : Int) /\ (57 : Int) < (c.toNat : Int)) \/ ((97 : Int) <= (c.toNat : Int) /\ (122 : Int) < (c.toNat : Int) /\ (48 : Int) <= (c.toNat : Int) /\ (57 : Int) < (c.toNat : Int)) := by omega
 clear hN
 rcases hN2 with ⟨m1, m2⟩ | ⟨m1, m2, m3⟩ | ⟨m1, m2, m3, m4⟩
 all_goals
  cases p1
  ·cases p2
   ·by_cases hx : 0 <= ix
    ·have HWL : Hid (Z06 r = some 1) := L0 (by rw [HEL.o]; simp [hx])
     have HNL := HLT0
     go_wp2_with (first | (go_at_call 138; first | ((with_reducible refine (HP1.o wr).mono ?_); rintro e w1 ⟨rfl, hw⟩; obtain rfl := hw.symm) | ((with_reducible refine (HP2.o wr).mono ?_); rintro e w1 ⟨rfl, hw⟩; obtain rfl := hw.symm)) | (go_at_call 139; (with_reducible refine (HIX.o wr).mono ?_); rintro e w1 ⟨rfl, hw⟩; obtain rfl := hw.symm) | (at_builtin; refine Z0a (R := rStr) (x := r.take 1) Z4d rfl (.tmp 85) (.tmp 89) rfl rfl HO.o [.string ((⟨r.toArray⟩ : ByteArray).extract 0 1)] rfl rfl (fun _ => False) (Z4e _ _ _ _ HRL.o) (fun _ h => h.elim) HBY.o HB.o.size ?_; intro v9 w9 hown9 hb9 _ _))
     go_roundw
     exact ⟨r.drop 1, acc ++ [r.take 1], by rw [Z1o, L0l (by simp)], L0 hown9, L0 ((Z1r acc HRC.o HSP.o HWL.o (L0f 1)).symm.trans HG.o), L0 (by have h1 := HL.o; have h2 : 1 <= 1 := (L0f 1); have h3 : 1 <= r.length := HNL.o; rw [L0i, L0p, L1b]; omega), L0 (HB.o.trans hb9)⟩
     rw [Z1o, Z0q, Z0q, L1i, L1b]; have h2 : 1 <= 1 := (L0f 1); have h3 : 1 <= r.length := HNL.o; omega
    have HWL : Hid (Z06 r = none) := L0 (by rw [HEL.o]; simp [hx])
    have hx2 : ix < 0 := by omega
    have HZ := L0 ((Y51 acc HRC.o HSP.o HWL.o).symm.trans HG.o)
    clear hx
    go_wp2_with (first | (go_at_call 138; first | ((with_reducible refine (HP1.o wr).mono ?_); rintro e w1 ⟨rfl, hw⟩; obtain rfl := hw.symm) | ((with_reducible refine (HP2.o wr).mono ?_); rintro e w1 ⟨rfl, hw⟩; obtain rfl := hw.symm)) | (go_at_call 139; (with_reducible refine (HIX.o wr).mono ?_); rintro e w1 ⟨rfl, hw⟩; obtain rfl := hw.symm))
    go_ret2
    exact ⟨_, by rw [<- HZ.o]; rfl, by rw [<- HZ.o]; exact Own.nil _ _ _ _ _, HB.o⟩
   have HWL : Hid (Z06 r = some 2) := L0 (by rw [HEL.o]; rfl)
   have HNL : Hid (2 <= r.length) := L0 (H22.o (by simp))
   have h2l : (2 : Int) <= (r.length : Int) := by have := HNL.o; omega
   go_wp2_with (first | (go_at_call 138; first | ((with_reducible refine (HP1.o wr).mono ?_); rintro e w1 ⟨rfl, hw⟩; obtain rfl := hw.symm) | ((with_reducible refine (HP2.o wr).mono ?_); rintro e w1 ⟨rfl, hw⟩; obtain rfl := hw.symm)) | (at_builtin; refine Z0a (R := rStr) (x := r.take 2) Z4d rfl (.tmp 85) (.tmp 89) rfl rfl HO.o [.string ((⟨r.toArray⟩ : ByteArray).extract 0 2)] rfl rfl (fun _ => False) (Z4e _ _ _ _ HRL.o) (fun _ h => h.elim) HBY.o HB.o.size ?_; intro v9 w9 hown9 hb9 _ _))
   go_roundw
   exact ⟨r.drop 2, acc ++ [r.take 2], by rw [Z1o, L0l (by simp)], L0 hown9, L0 ((Z1r acc HRC.o HSP.o HWL.o (by decide)).symm.trans HG.o), L0 (by have h1 := HL.o; have h2 : 1 <= 2 := (by decide); have h3 : 2 <= r.length := HNL.o; rw [L0i, L0p, L1b]; omega), L0 (HB.o.trans hb9)⟩
   rw [Z1o, Z0q, Z0q, L1i, L1b]; have h2 : 1 <= 2 := (by decide); have h3 : 2 <= r.length := HNL.o; omega
  have HWL : Hid (Z06 r = some 2) := L0 (by rw [HEL.o]; rfl)
  have HNL : Hid (2 <= r.length) := L0 (H21.o (by simp))
  have h2l : (2 : Int) <= (r.length : Int) := by have := HNL.o; omega
  go_wp2_with (first | (go_at_call 138; first | ((with_reducible refine (HP1.o wr).mono ?_); rintro e w1 ⟨rfl, hw⟩; obtain rfl := hw.symm) | ((with_reducible refine (HP2.o wr).mono ?_); rintro e w1 ⟨rfl, hw⟩; obtain rfl := hw.symm)) | (at_builtin; refine Z0a (R := rStr) (x := r.take 2) Z4d rfl (.tmp 85) (.tmp 89) rfl rfl HO.o [.string ((⟨r.toArray⟩ : ByteArray).extract 0 2)] rfl rfl (fun _ => False) (Z4e _ _ _ _ HRL.o) (fun _ h => h.elim) HBY.o HB.o.size ?_; intro v9 w9 hown9 hb9 _ _))
  go_roundw
  exact ⟨r.drop 2, acc ++ [r.take 2], by rw [Z1o, L0l (by simp)], L0 hown9, L0 ((Z1r acc HRC.o HSP.o HWL.o (by decide)).symm.trans HG.o), L0 (by have h1 := HL.o; have h2 : 1 <= 2 := (by decide); have h3 : 2 <= r.length := HNL.o; rw [L0i, L0p, L1b]; omega), L0 (HB.o.trans hb9)⟩
  rw [Z1o, Z0q, Z0q, L1i, L1b]; have h2 : 1 <= 2 := (by decide); have h3 : 2 <= r.length := HNL.o; omega
