import Derived.Test.YtlopccnehgolnacGreatDoorShTx
import Derived.Test.YtlopccnehgolnacGreatDoorTabA
import Derived.Test.YtlopccnehgolnacGreatDoorGK0
import Derived.Deep.DeepMust
import Derived.Deep.DeepCutAuto
import Derived.Deep.CutBlock
import Derived.Lib.Hide
namespace Go.Proofs.YtlopccnehgolnacGreatDoor
open Go.RowKit Rb
open Go.Lib renaming hasPrefix -> jA, indexByte -> jB
open List renaming drop_length -> jC
open Nat renaming add_sub_cancel' -> jD
set_option maxRecDepth 100000
set_option maxHeartbeats 6400000
def Z24 (c : UInt8) : Bool := decide (97 <= c.toNat) && decide (c.toNat <= 122)
def Z2p (c : UInt8) : Bool := decide (48 <= c.toNat) && decide (c.toNat <= 57)
def Z0w (s : Txt) : Option Nat :=
 match s with
 | [] => none
 | c :: t =>
  if Z24 c then some (1 + (t.takeWhile Z24).length)
  else if c.toNat = 45 \/ Z2p c = true then some (1 + (t.takeWhile Z2p).length)
  else if jA s [46, 46] || jA s [61, 62] then some 2
  else if 0 <= jB [40, 41, 123, 125, 44, 59, 124, 42] c then some 1
  else none
def Z12 : Nat -> Txt -> List Txt -> Option (List Txt)
 | 0, _, acc => some acc
 | f + 1, s, acc =>
  match s with
  | [] => some acc
  | c :: t => if c.toNat = 32 \/ c.toNat = 10 then Z12 f t acc else match Z0w s with | some n => Z12 f (s.drop n) (acc ++ [s.take n]) | none => none
theorem Z1u (l : Txt) (i j : Nat) : (⟨l.toArray⟩ : ByteArray).extract i j = ⟨((l.drop i).take (j - i)).toArray⟩ := by
 apply ByteArray.ext
 simp [ByteArray.data_extract]
theorem Y5o : ∀ (f g : Nat) (s : Txt) (acc : List Txt), s.length <= f -> s.length <= g -> Z12 f s acc = Z12 g s acc := by
 intro f
 induction f with
 | zero =>
  intro g s acc h hg
  obtain rfl : s = [] := L1g (by omega)
  cases g <;> rfl
 | succ f ih =>
  intro g s acc h hg
  cases s with
  | nil => cases g <;> rfl
  | cons c t =>
   cases g with
   | zero => simp at hg
   | succ g =>
    simp only [L0r] at h hg
    simp only [Z12]
    split
    ·exact ih g t acc (by omega) (by omega)
    cases hw : Z0w (c :: t) with
    | none => rfl
    | some n =>
     have h1 : 1 <= n := by
      unfold Z0w at hw
      dsimp only at hw
      split at hw
      ·injection hw with hw; omega
      split at hw
      ·injection hw with hw; omega
      split at hw
      ·injection hw with hw; omega
      split at hw
      ·injection hw with hw; omega
      cases hw
     have h2 : ((c :: t).drop n).length <= t.length := by rw [L1b, L0r]; omega
     exact ih g _ _ (by omega) (by omega)
def Z0e (s : Txt) (acc : List Txt) : Option (List Txt) := Z12 s.length s acc
theorem Z45 {s : Txt} {c : UInt8} {t : Txt} (acc : List Txt) (hs : s = c :: t) (h : c.toNat = 32 \/ c.toNat = 10) : Z0e s acc = Z0e (s.drop 1) acc := by
 subst hs
 unfold Z0e
 simp only [L0r, Z12, L4s, L3h]
 rw [if_pos h]
theorem Z05 {s : Txt} {c : UInt8} {t : Txt} {n : Nat} (acc : List Txt) (hs : s = c :: t) (h : ¬ (c.toNat = 32 \/ c.toNat = 10)) (hn : Z0w s = some n) (h1 : 1 <= n) : Z0e s acc = Z0e (s.drop n) (acc ++ [s.take n]) := by
 subst hs
 unfold Z0e
 simp only [L0r, Z12]
 rw [if_neg h, hn]
 exact Y5o _ _ _ _ (by rw [L1b, L0r]; omega) (L0g _)
theorem Y7p {s : Txt} {c : UInt8} {t : Txt} (acc : List Txt) (hs : s = c :: t) (h : ¬ (c.toNat = 32 \/ c.toNat = 10)) (hn : Z0w s = none) : Z0e s acc = none := by
 subst hs
 unfold Z0e
 simp only [L0r, Z12]
 rw [if_neg h, hn]
theorem Y9o {p : UInt8 -> Bool} {t : Txt} {k : Nat} (h : (t.take k).all p = true) (hk : k <= t.length) (he : k = t.length \/ ∃ c, t[k]? = some c /\ p c = false) : (t.takeWhile p).length = k := by
 induction t generalizing k with
 | nil => simp at hk; subst hk; rfl
 | cons c t ih =>
  cases k with
  | zero =>
   rcases he with he | ⟨d, hd, hp⟩
   ·simp at he
   simp at hd
   subst hd
   simp [hp]
  | succ k =>
   simp only [L2u, L4k, L0t] at h
   simp only [L0r] at hk
   rw [List.takeWhile_cons, if_pos h.1, L0r, ih h.2 (by omega)]
   rcases he with he | ⟨d, hd, hp⟩
   ·simp only [L0r] at he; exact .inl (by omega)
   exact .inr ⟨d, by simpa using hd, hp⟩
def Y1f (v : Value) : Nat := match v with | .string b => b.size | _ => 0
theorem Z0v (s : Txt) : Y1f (sq s) = s.length := by simp [Y1f, ByteArray.size]
theorem Y6k {r : Txt} {c : UInt8} {t : Txt} {k : Nat} (hr : r = c :: t) (hl : Z24 c = true) (h1 : 1 <= k) (hk : k <= r.length) (ha : ((r.drop 1).take (k - 1)).all Z24 = true) (he : k = r.length \/ ∃ d, r[k]? = some d /\ Z24 d = false) : Z0w r = some k := by
 subst hr
 simp only [L4s, L3h, L0r] at ha hk he
 unfold Z0w
 dsimp only
 rw [if_pos hl, Y9o ha (by omega) ?_, jD h1]
 rcases he with he | ⟨d, hd, hp⟩
 ·exact .inl (by omega)
 refine .inr ⟨d, ?_, hp⟩
 cases k with
 | zero => omega
 | succ k => simpa using hd
theorem Z83 {r : Txt} {c : UInt8} {t : Txt} {k : Nat} (hr : r = c :: t) (hl : Z24 c = false) (hd : c.toNat = 45 \/ Z2p c = true) (h1 : 1 <= k) (hk : k <= r.length) (ha : ((r.drop 1).take (k - 1)).all Z2p = true) (he : k = r.length \/ ∃ d, r[k]? = some d /\ Z2p d = false) : Z0w r = some k := by
 subst hr
 simp only [L4s, L3h, L0r] at ha hk he
 unfold Z0w
 dsimp only
 rw [if_neg (by simp [hl]), if_pos hd, Y9o ha (by omega) ?_, jD h1]
 rcases he with he | ⟨d, hd, hp⟩
 ·exact .inl (by omega)
 refine .inr ⟨d, ?_, hp⟩
 cases k with
 | zero => omega
 | succ k => simpa using hd
theorem X0c {r : Txt} {c : UInt8} {t : Txt} (hr : r = c :: t) (hl : Z24 c = false) (hd : ¬ (c.toNat = 45 \/ Z2p c = true)) : Z0w r = if jA r [46, 46] || jA r [61, 62] then some 2 else if 0 <= jB [40, 41, 123, 125, 44, 59, 124, 42] c then some 1 else none := by
 subst hr
 unfold Z0w
 dsimp only
 rw [if_neg (by simp [hl]), if_neg hd]
theorem Y9g {r : Txt} {a b : UInt8} (h : jA r [a, b] = true) : 2 <= r.length := by
 unfold jA at h
 match r, h with
 | [], h => cases h
 | [x], h => simp [List.isPrefixOf] at h
 | x :: y :: l, _ => simp
theorem Y1v {p : UInt8 -> Bool} {r : Txt} {k : Nat} {d : UInt8} (h1 : 1 <= k) (ha : ((r.drop 1).take (k - 1)).all p = true) (hd : r[k]? = some d) (hp : p d = true) : ((r.drop 1).take (k + 1 - 1)).all p = true := by
 have hk : k + 1 - 1 = (k - 1) + 1 := by omega
 rw [hk, L1k, List.all_append, ha]
 have : (r.drop 1)[k - 1]? = some d := by rw [L1p]; rw [show 1 + (k - 1) = k by omega]; exact hd
 rw [this]
 simp [hp]
theorem Z4y : ElemOf Tryz.prog rStr 39 9 := .mk' Tryz.underlying39 (z := .string ⟨#[]⟩) (k := 1) (b := 16) (by kernel_rfl) rfl rfl rfl (by decide) (by decide)
theorem Z4z (w : World) (S : Nat -> Prop) (r : Txt) (n : Nat) (h : r.length <= 4000) : rStr.rel w S [.string ((⟨r.toArray⟩ : ByteArray).extract 0 n)] (r.take n) := by
 refine ⟨by rw [Z1u]; rfl, ?_⟩
 have : (r.take n).length <= r.length := List.length_take_le' _ _
 omega
theorem Y9y (s : Txt) (w : World) (hs : s.length <= 4000) :
  Calls Tryz.prog 72 #[sq s] w fun e w' => ∃ v, e = .returned (.tuple #[v, .bool (Z0e s []).isSome]) /\ Own rStr 9 w' w.heap.size (fun _ => False) v ((Z0e s []).getD []) /\ Bw w w' := by
 obtain ⟨fin, hfin⟩ : ∃ x, Z0e s [] = x := ⟨_, rfl⟩
 have HFIN := L0 hfin
 have HSL := L0 hs
 rw [hfin]
 clear hfin hs
 go_enter Tryz.func72, Tryz.ntmps72
 go_wp2
 go_loopw [0, 4] (fun sv lv wr => ∃ (r : Txt) (acc : List Txt), sv = sq r /\ Hid (Own rStr 9 wr w.heap.size (fun _ => False) lv acc) /\ Hid (Z0e r acc = fin) /\ Hid (acc.length + r.length <= 4000) /\ Hid (Bw w wr)) (fun sv _ _ => Y1f sv)
 exact ⟨s, [], rfl, L0 (Own.nil _ _ _ _ _), HFIN, L0 (by simpa using HSL.o), L0 (L0m _ _)⟩
 obtain ⟨r, acc, rfl, HO, HG, HL, HB⟩ := hrel
 obtain ⟨Av, lv, rfl⟩ := HO.o.value
 by_cases hr : r = []
 ·subst hr
  have HZ : Hid (some acc = fin) := L0 HG.o
  go_wp2
  go_ret2
  exact ⟨_, by rw [<- HZ.o]; rfl, by rw [<- HZ.o]; exact HO.o, HB.o⟩
 obtain ⟨c, t, hct⟩ : ∃ c t, r = c :: t := by
  cases r with
  | nil => exact absurd rfl hr
  | cons c t => exact ⟨c, t, rfl⟩
 have HRC := L0 hct
 have hne : r.isEmpty = false := by rw [hct]; rfl
 have hne2 : (r == []) = false := by rw [hct]; rfl
 have hlt0 : 0 < r.length := by rw [hct]; simp
 have hl0 : (0 : Int) < r.length := by omega
 have hl1 : (1 : Int) <= r.length := by omega
 have hc0 : (⟨r.toArray⟩ : ByteArray)[0]'hlt0 = c := by subst hct; rfl
 have HLT0 : Hid (1 <= r.length) := L0 hlt0
 have HBY : Hid ((acc.length + 1) * rStr.bytes <= 140737488355328) := L0 (by have := HL.o; simp only [rStr]; omega)
 have hrl : r.length <= 4000 := by have := HL.o; omega
 have HRL := L0 hrl
 clear hct hr
 have hall : c.toNat = 32 \/ c.toNat = 10 \/ (97 <= c.toNat /\ c.toNat <= 122) \/ (c.toNat = 45) \/ (48 <= c.toNat /\ c.toNat <= 57) \/ (c.toNat ≠ 32 /\ c.toNat ≠ 10 /\ c.toNat ≠ 45 /\ c.toNat < 48) \/ (57 < c.toNat /\ c.toNat < 97) \/ (122 < c.toNat) := by omega
 rcases hall with hc | hc | ⟨hc, hc'⟩ | hc | ⟨hc, hc'⟩ | hN
 ·have e32 : ((c.toNat : Int) == 32) = true := by simp; omega
  have HZ := L0 ((Z45 acc HRC.o (by omega)).symm.trans HG.o)
  clear hc
  go_wp2
  go_roundw
  exact ⟨r.drop 1, acc, by rw [Z1u, L0l (by simp)], HO, HZ, L0 (by have h1 := HL.o; rw [L1b]; omega), HB⟩
  rw [Z1u, Z0v, Z0v, L1i, L1b]; omega
 ·have e32 : ((c.toNat : Int) == 32) = false := by simp; omega
  have e10 : ((c.toNat : Int) == 10) = true := by simp; omega
  have HZ := L0 ((Z45 acc HRC.o (by omega)).symm.trans HG.o)
  clear hc
  go_wp2
  go_roundw
  exact ⟨r.drop 1, acc, by rw [Z1u, L0l (by simp)], HO, HZ, L0 (by have h1 := HL.o; rw [L1b]; omega), HB⟩
  rw [Z1u, Z0v, Z0v, L1i, L1b]; omega
 ·have e32 : ((c.toNat : Int) == 32) = false := by simp; omega
  have e10 : ((c.toNat : Int) == 10) = false := by simp; omega
  have g1 : (97 : Int) <= c.toNat := by omega
  have g2 : (c.toNat : Int) <= 122 := by omega
  have HSP : Hid (¬ (c.toNat = 32 \/ c.toNat = 10)) := L0 (by omega)
  have HLE : Hid (Z24 c = true) := L0 (by simp [Z24]; omega)
  clear hc hc'
  go_wp2
  go_loop [6] (fun i => ∃ k : Nat, i = .int .i64 k /\ Hid (1 <= k) /\ Hid (k <= r.length) /\ Hid (((r.drop 1).take (k - 1)).all Z24 = true)) (fun i => r.length - (intOf i).toNat)
  exact ⟨1, rfl, L0 (L0g _), HLT0, L0 (by simp)⟩
  obtain ⟨k, rfl, HN1, HNL, HAL⟩ := hrel
  by_cases hk : k < r.length
  ·have hik : (k : Int) < r.length := by omega
   obtain ⟨d, hd⟩ : ∃ d : UInt8, (⟨r.toArray⟩ : ByteArray)[k]'hk = d := ⟨_, rfl⟩
   have HD : Hid (r[k]? = some d) := L0 (by rw [L0f hk]; exact congrArg some hd)
   have hcases : (d.toNat : Int) < 97 \/ (97 <= (d.toNat : Int) /\ 122 < (d.toNat : Int)) \/ (97 <= (d.toNat : Int) /\ (d.toNat : Int) <= 122) := by omega
   rcases hcases with e1 | ⟨e1, e2⟩ | ⟨e1, e2⟩
   rotate_right
   ·have HAL2 := L0 (Y1v HN1.o HAL.o HD.o (by simp [Z24]; omega))
    go_wp2
    go_round
    exact ⟨k + 1, by go_num, L0 (L4m HN1.o), L0 hk, HAL2⟩
    simp [intOf]; omega
   all_goals
    have HWL : Hid (Z0w r = some k) := L0 (Y6k HRC.o HLE.o HN1.o HNL.o HAL.o (.inr ⟨d, HD.o, by simp [Z24]; omega⟩))
    have hkl : (k : Int) <= r.length := by omega
    go_wp2_with (at_builtin; refine Z0a (R := rStr) (x := r.take k) Z4y rfl (.tmp 85) (.tmp 89) rfl rfl HO.o [.string ((⟨r.toArray⟩ : ByteArray).extract 0 k)] rfl rfl (fun _ => False) (Z4z _ _ _ _ HRL.o) (fun _ h => h.elim) HBY.o HB.o.size ?_; intro v9 w9 hown9 hb9 _ _)
    go_roundw
    exact ⟨r.drop k, acc ++ [r.take k], by rw [Z1u, L0l (by simp)], L0 hown9, L0 ((Z05 acc HRC.o HSP.o HWL.o HN1.o).symm.trans HG.o), L0 (by have h1 := HL.o; have h2 : 1 <= k := HN1.o; have h3 : k <= r.length := HNL.o; rw [L0i, L0p, L1b]; omega), L0 (HB.o.trans hb9)⟩
    rw [Z1u, Z0v, Z0v, L1i, L1b]; have h2 : 1 <= k := HN1.o; have h3 : k <= r.length := HNL.o; omega
  have hij : ¬ (k : Int) < r.length := by omega
  have HWL : Hid (Z0w r = some k) := L0 (Y6k HRC.o HLE.o HN1.o HNL.o HAL.o (.inl (L4j HNL.o (L4g hk))))
  obtain rfl : k = r.length := L4j HNL.o (L4g hk)
  go_wp2_with (at_builtin; refine Z0a (R := rStr) (x := r.take r.length) Z4y rfl (.tmp 85) (.tmp 89) rfl rfl HO.o [.string ((⟨r.toArray⟩ : ByteArray).extract 0 r.length)] rfl rfl (fun _ => False) (Z4z _ _ _ _ HRL.o) (fun _ h => h.elim) HBY.o HB.o.size ?_; intro v9 w9 hown9 hb9 _ _)
  go_roundw
  exact ⟨[], acc ++ [r.take r.length], rfl, L0 hown9, L0 (by have h := (Z05 acc HRC.o HSP.o HWL.o HN1.o).symm.trans HG.o; rw [jC] at h; exact h), L0 (by have h1 := HL.o; have h2 := HN1.o; rw [L0i, L0p, L0v]; omega), L0 (HB.o.trans hb9)⟩
  show Y1f (.string ByteArray.empty) < _; rw [Z0v]; exact HLT0.o
 ·have e32 : ((c.toNat : Int) == 32) = false := by simp; omega
  have e10 : ((c.toNat : Int) == 10) = false := by simp; omega
  have g1 : ¬ (97 : Int) <= c.toNat := by omega
  have e45 : ((c.toNat : Int) == 45) = true := by simp; omega
  have HSP : Hid (¬ (c.toNat = 32 \/ c.toNat = 10)) := L0 (by omega)
  have HLE : Hid (Z24 c = false) := L0 (by simp [Z24]; omega)
  have HDE : Hid (c.toNat = 45 \/ Z2p c = true) := L0 (.inl hc)
  clear hc
  go_wp2
  go_loop [6] (fun i => ∃ k : Nat, i = .int .i64 k /\ Hid (1 <= k) /\ Hid (k <= r.length) /\ Hid (((r.drop 1).take (k - 1)).all Z2p = true)) (fun i => r.length - (intOf i).toNat)
  exact ⟨1, rfl, L0 (L0g _), HLT0, L0 (by simp)⟩
  obtain ⟨k, rfl, HN1, HNL, HAL⟩ := hrel
  by_cases hk : k < r.length
  ·have hik : (k : Int) < r.length := by omega
   obtain ⟨d, hd⟩ : ∃ d : UInt8, (⟨r.toArray⟩ : ByteArray)[k]'hk = d := ⟨_, rfl⟩
   have HD : Hid (r[k]? = some d) := L0 (by rw [L0f hk]; exact congrArg some hd)
   have hcases : (d.toNat : Int) < 48 \/ (48 <= (d.toNat : Int) /\ 57 < (d.toNat : Int)) \/ (48 <= (d.toNat : Int) /\ (d.toNat : Int) <= 57) := by omega
   rcases hcases with e1 | ⟨e1, e2⟩ | ⟨e1, e2⟩
   rotate_right
   ·have HAL2 := L0 (Y1v HN1.o HAL.o HD.o (by simp [Z2p]; omega))
    go_wp2
    go_round
    exact ⟨k + 1, by go_num, L0 (L4m HN1.o), L0 hk, HAL2⟩
    simp [intOf]; omega
   all_goals
    have HWL : Hid (Z0w r = some k) := L0 (Z83 HRC.o HLE.o HDE.o HN1.o HNL.o HAL.o (.inr ⟨d, HD.o, by simp [Z2p]; omega⟩))
    have hkl : (k : Int) <= r.length := by omega
    go_wp2_with (at_builtin; refine Z0a (R := rStr) (x := r.take k) Z4y rfl (.tmp 85) (.tmp 89) rfl rfl HO.o [.string ((⟨r.toArray⟩ : ByteArray).extract 0 k)] rfl rfl (fun _ => False) (Z4z _ _ _ _ HRL.o) (fun _ h => h.elim) HBY.o HB.o.size ?_; intro v9 w9 hown9 hb9 _ _)
    go_roundw
    exact ⟨r.drop k, acc ++ [r.take k], by rw [Z1u, L0l (by simp)], L0 hown9, L0 ((Z05 acc HRC.o HSP.o HWL.o HN1.o).symm.trans HG.o), L0 (by have h1 := HL.o; have h2 : 1 <= k := HN1.o; have h3 : k <= r.length := HNL.o; rw [L0i, L0p, L1b]; omega), L0 (HB.o.trans hb9)⟩
    rw [Z1u, Z0v, Z0v, L1i, L1b]; have h2 : 1 <= k := HN1.o; have h3 : k <= r.length := HNL.o; omega
  have hij : ¬ (k : Int) < r.length := by omega
  have HWL : Hid (Z0w r = some k) := L0 (Z83 HRC.o HLE.o HDE.o HN1.o HNL.o HAL.o (.inl (L4j HNL.o (L4g hk))))
  obtain rfl : k = r.length := L4j HNL.o (L4g hk)
  go_wp2_with (at_builtin; refine Z0a (R := rStr) (x := r.take r.length) Z4y rfl (.tmp 85) (.tmp 89) rfl rfl HO.o [.string ((⟨r.toArray⟩ : ByteArray).extract 0 r.length)] rfl rfl (fun _ => False) (Z4z _ _ _ _ HRL.o) (fun _ h => h.elim) HBY.o HB.o.size ?_; intro v9 w9 hown9 hb9 _ _)
  go_roundw
  exact ⟨[], acc ++ [r.take r.length], rfl, L0 hown9, L0 (by have h := (Z05 acc HRC.o HSP.o HWL.o HN1.o).symm.trans HG.o; rw [jC] at h; exact h), L0 (by have h1 := HL.o; have h2 := HN1.o; rw [L0i, L0p, L0v]; omega), L0 (HB.o.trans hb9)⟩
  show Y1f (.string ByteArray.empty) < _; rw [Z0v]; exact HLT0.o
 ·have e32 : ((c.toNat : Int) == 32) = false := by simp; omega
  have e10 : ((c.toNat : Int) == 10) = false := by simp; omega
  have g1 : ¬ (97 : Int) <= c.toNat := by omega
  have e45 : ((c.toNat : Int) == 45) = false := by simp; omega
  have g3 : (48 : Int) <= c.toNat := by omega
  have g4 : (c.toNat : Int) <= 57 := by omega
  have HSP : Hid (¬ (c.toNat = 32 \/ c.toNat = 10)) := L0 (by omega)
  have HLE : Hid (Z24 c = false) := L0 (by simp [Z24]; omega)
  have HDE : Hid (c.toNat = 45 \/ Z2p c = true) := L0 (.inr (by simp [Z2p]; omega))
  clear hc hc'
  go_wp2
  go_loop [6] (fun i => ∃ k : Nat, i = .int .i64 k /\ Hid (1 <= k) /\ Hid (k <= r.length) /\ Hid (((r.drop 1).take (k - 1)).all Z2p = true)) (fun i => r.length - (intOf i).toNat)
  exact ⟨1, rfl, L0 (L0g _), HLT0, L0 (by simp)⟩
  obtain ⟨k, rfl, HN1, HNL, HAL⟩ := hrel
  by_cases hk : k < r.length
  ·have hik : (k : Int) < r.length := by omega
   obtain ⟨d, hd⟩ : ∃ d : UInt8, (⟨r.toArray⟩ : ByteArray)[k]'hk = d := ⟨_, rfl⟩
   have HD : Hid (r[k]? = some d) := L0 (by rw [L0f hk]; exact congrArg some hd)
   have hcases : (d.toNat : Int) < 48 \/ (48 <= (d.toNat : Int) /\ 57 < (d.toNat : Int)) \/ (48 <= (d.toNat : Int) /\ (d.toNat : Int) <= 57) := by omega
   rcases hcases with e1 | ⟨e1, e2⟩ | ⟨e1, e2⟩
   rotate_right
   ·have HAL2 := L0 (Y1v HN1.o HAL.o HD.o (by simp [Z2p]; omega))
    go_wp2
    go_round
    exact ⟨k + 1, by go_num, L0 (L4m HN1.o), L0 hk, HAL2⟩
    simp [intOf]; omega
   all_goals
    have HWL : Hid (Z0w r = some k) := L0 (Z83 HRC.o HLE.o HDE.o HN1.o HNL.o HAL.o (.inr ⟨d, HD.o, by simp [Z2p]; omega⟩))
    have hkl : (k : Int) <= r.length := by omega
    go_wp2_with (at_builtin; refine Z0a (R := rStr) (x := r.take k) Z4y rfl (.tmp 85) (.tmp 89) rfl rfl HO.o [.string ((⟨r.toArray⟩ : ByteArray).extract 0 k)] rfl rfl (fun _ => False) (Z4z _ _ _ _ HRL.o) (fun _ h => h.elim) HBY.o HB.o.size ?_; intro v9 w9 hown9 hb9 _ _)
    go_roundw
    exact ⟨r.drop k, acc ++ [r.take k], by rw [Z1u, L0l (by simp)], L0 hown9, L0 ((Z05 acc HRC.o HSP.o HWL.o HN1.o).symm.trans HG.o), L0 (by have h1 := HL.o; have h2 : 1 <= k := HN1.o; have h3 : k <= r.length := HNL.o; rw [L0i, L0p, L1b]; omega), L0 (HB.o.trans hb9)⟩
    rw [Z1u, Z0v, Z0v, L1i, L1b]; have h2 : 1 <= k := HN1.o; have h3 : k <= r.length := HNL.o; omega
  have hij : ¬ (k : Int) < r.length := by omega
  have HWL : Hid (Z0w r = some k) := L0 (Z83 HRC.o HLE.o HDE.o HN1.o HNL.o HAL.o (.inl (L4j HNL.o (L4g hk))))
  obtain rfl : k = r.length := L4j HNL.o (L4g hk)
  go_wp2_with (at_builtin; refine Z0a (R := rStr) (x := r.take r.length) Z4y rfl (.tmp 85) (.tmp 89) rfl rfl HO.o [.string ((⟨r.toArray⟩ : ByteArray).extract 0 r.length)] rfl rfl (fun _ => False) (Z4z _ _ _ _ HRL.o) (fun _ h => h.elim) HBY.o HB.o.size ?_; intro v9 w9 hown9 hb9 _ _)
  go_roundw
  exact ⟨[], acc ++ [r.take r.length], rfl, L0 hown9, L0 (by have h := (Z05 acc HRC.o HSP.o HWL.o HN1.o).symm.trans HG.o; rw [jC] at h; exact h), L0 (by have h1 := HL.o; have h2 := HN1.o; rw [L0i, L0p, L0v]; omega), L0 (HB.o.trans hb9)⟩
  show Y1f (.string ByteArray.empty) < _; rw [Z0v]; exact HLT0.o
 have e32 : ((c.toNat : Int) == 32) = false := by simp; omega
 have e10 : ((c.toNat : Int) == 10) = false := by simp; omega
 have e45 : ((c.toNat : Int) == 45) = false := by simp; omega
 have HSP : Hid (¬ (c.toNat = 32 \/ c.toNat = 10)) := L0 (by omega)
 have HEL := L0 (X0c HRC.o (by simp [Z24]; omega) (by simp [Z2p]; omega))
 obtain ⟨p1, hp1⟩ : ∃ x, jA r [46, 46] = x := ⟨_, rfl⟩
 obtain ⟨p2, hp2⟩ : ∃ x, jA r [61, 62] = x := ⟨_, rfl⟩
 obtain ⟨ix, hix⟩ : ∃ x, jB [40, 41, 123, 125, 44, 59, 124, 42] c = x := ⟨_, rfl⟩
 rw [hp1, hp2, hix] at HEL
 have HP1 : Hid (∀ w, Calls Tryz.prog 102 #[sq r, .string ⟨#[46, 46]⟩] w fun e w' => e = .returned (.bool p1) /\ w' = w) := L0 fun w => hp1 ▸ Z6v r [46, 46] w
 have HP2 : Hid (∀ w, Calls Tryz.prog 102 #[sq r, .string ⟨#[61, 62]⟩] w fun e w' => e = .returned (.bool p2) /\ w' = w) := L0 fun w => hp2 ▸ Z6v r [61, 62] w
 have HIX : Hid (∀ w, Calls Tryz.prog 103 #[.string ⟨#[40, 41, 123, 125, 44, 59, 124, 42]⟩, .int .u8 (c.toNat : Int)] w fun e w' => e = .returned (.int .i64 ix) /\ w' = w) := L0 fun w => by
  have h := Y1o [40, 41, 123, 125, 44, 59, 124, 42] (c.toNat : Int) w
  rw [show ((c.toNat : Int)).toNat.toUInt8 = c by simp] at h
  rw [hix] at h
  exact h
 have H21 : Hid (p1 = true -> 2 <= r.length) := L0 fun h => Y9g (hp1.trans h)
 have H22 : Hid (p2 = true -> 2 <= r.length) := L0 fun h => Y9g (hp2.trans h)
 clear hp1 hp2 hix
 have hN2 : ((c.toNat : Int) < 97 /\ (c.toNat : Int) < 48) \/ ((c.toNat : Int) < 97 /\ (48 : Int) <= c.toNat /\ (57 : Int) < c.toNat) \/ ((97 : Int) <= c.toNat /\ (122 : Int) < c.toNat /\ (48 : Int) <= c.toNat /\ (57 : Int) < c.toNat) := by omega
 clear hN
 rcases hN2 with ⟨m1, m2⟩ | ⟨m1, m2, m3⟩ | ⟨m1, m2, m3, m4⟩
 all_goals
  cases p1
  ·cases p2
   ·by_cases hx : 0 <= ix
    ·have HWL : Hid (Z0w r = some 1) := L0 (by rw [HEL.o]; simp [hx])
     have HNL := HLT0
     go_wp2_with (first | (go_at_call 102; first | ((with_reducible refine (HP1.o wr).mono ?_); rintro e w1 ⟨rfl, hw⟩; obtain rfl := hw.symm) | ((with_reducible refine (HP2.o wr).mono ?_); rintro e w1 ⟨rfl, hw⟩; obtain rfl := hw.symm)) | (go_at_call 103; (with_reducible refine (HIX.o wr).mono ?_); rintro e w1 ⟨rfl, hw⟩; obtain rfl := hw.symm) | (at_builtin; refine Z0a (R := rStr) (x := r.take 1) Z4y rfl (.tmp 85) (.tmp 89) rfl rfl HO.o [.string ((⟨r.toArray⟩ : ByteArray).extract 0 1)] rfl rfl (fun _ => False) (Z4z _ _ _ _ HRL.o) (fun _ h => h.elim) HBY.o HB.o.size ?_; intro v9 w9 hown9 hb9 _ _))
     go_roundw
     exact ⟨r.drop 1, acc ++ [r.take 1], by rw [Z1u, L0l (by simp)], L0 hown9, L0 ((Z05 acc HRC.o HSP.o HWL.o (L0g 1)).symm.trans HG.o), L0 (by have h1 := HL.o; have h2 : 1 <= 1 := (L0g 1); have h3 : 1 <= r.length := HNL.o; rw [L0i, L0p, L1b]; omega), L0 (HB.o.trans hb9)⟩
     rw [Z1u, Z0v, Z0v, L1i, L1b]; have h2 : 1 <= 1 := (L0g 1); have h3 : 1 <= r.length := HNL.o; omega
    have HWL : Hid (Z0w r = none) := L0 (by rw [HEL.o]; simp [hx])
    have hx2 : ix < 0 := by omega
    have HZ := L0 ((Y7p acc HRC.o HSP.o HWL.o).symm.trans HG.o)
    clear hx
    go_wp2_with (first | (go_at_call 102; first | ((with_reducible refine (HP1.o wr).mono ?_); rintro e w1 ⟨rfl, hw⟩; obtain rfl := hw.symm) | ((with_reducible refine (HP2.o wr).mono ?_); rintro e w1 ⟨rfl, hw⟩; obtain rfl := hw.symm)) | (go_at_call 103; (with_reducible refine (HIX.o wr).mono ?_); rintro e w1 ⟨rfl, hw⟩; obtain rfl := hw.symm))
    go_ret2
    exact ⟨_, by rw [<- HZ.o]; rfl, by rw [<- HZ.o]; exact Own.nil _ _ _ _ _, HB.o⟩
   have HWL : Hid (Z0w r = some 2) := L0 (by rw [HEL.o]; rfl)
   have HNL : Hid (2 <= r.length) := L0 (H22.o (by simp))
   have h2l : (2 : Int) <= r.length := by have := HNL.o; omega
   go_wp2_with (first | (go_at_call 102; first | ((with_reducible refine (HP1.o wr).mono ?_); rintro e w1 ⟨rfl, hw⟩; obtain rfl := hw.symm) | ((with_reducible refine (HP2.o wr).mono ?_); rintro e w1 ⟨rfl, hw⟩; obtain rfl := hw.symm)) | (at_builtin; refine Z0a (R := rStr) (x := r.take 2) Z4y rfl (.tmp 85) (.tmp 89) rfl rfl HO.o [.string ((⟨r.toArray⟩ : ByteArray).extract 0 2)] rfl rfl (fun _ => False) (Z4z _ _ _ _ HRL.o) (fun _ h => h.elim) HBY.o HB.o.size ?_; intro v9 w9 hown9 hb9 _ _))
   go_roundw
   exact ⟨r.drop 2, acc ++ [r.take 2], by rw [Z1u, L0l (by simp)], L0 hown9, L0 ((Z05 acc HRC.o HSP.o HWL.o (by decide)).symm.trans HG.o), L0 (by have h1 := HL.o; have h2 : 1 <= 2 := (by decide); have h3 : 2 <= r.length := HNL.o; rw [L0i, L0p, L1b]; omega), L0 (HB.o.trans hb9)⟩
   rw [Z1u, Z0v, Z0v, L1i, L1b]; have h2 : 1 <= 2 := (by decide); have h3 : 2 <= r.length := HNL.o; omega
  have HWL : Hid (Z0w r = some 2) := L0 (by rw [HEL.o]; rfl)
  have HNL : Hid (2 <= r.length) := L0 (H21.o (by simp))
  have h2l : (2 : Int) <= r.length := by have := HNL.o; omega
  go_wp2_with (first | (go_at_call 102; first | ((with_reducible refine (HP1.o wr).mono ?_); rintro e w1 ⟨rfl, hw⟩; obtain rfl := hw.symm) | ((with_reducible refine (HP2.o wr).mono ?_); rintro e w1 ⟨rfl, hw⟩; obtain rfl := hw.symm)) | (at_builtin; refine Z0a (R := rStr) (x := r.take 2) Z4y rfl (.tmp 85) (.tmp 89) rfl rfl HO.o [.string ((⟨r.toArray⟩ : ByteArray).extract 0 2)] rfl rfl (fun _ => False) (Z4z _ _ _ _ HRL.o) (fun _ h => h.elim) HBY.o HB.o.size ?_; intro v9 w9 hown9 hb9 _ _))
  go_roundw
  exact ⟨r.drop 2, acc ++ [r.take 2], by rw [Z1u, L0l (by simp)], L0 hown9, L0 ((Z05 acc HRC.o HSP.o HWL.o (by decide)).symm.trans HG.o), L0 (by have h1 := HL.o; have h2 : 1 <= 2 := (by decide); have h3 : 2 <= r.length := HNL.o; rw [L0i, L0p, L1b]; omega), L0 (HB.o.trans hb9)⟩
  rw [Z1u, Z0v, Z0v, L1i, L1b]; have h2 : 1 <= 2 := (by decide); have h3 : 2 <= r.length := HNL.o; omega
