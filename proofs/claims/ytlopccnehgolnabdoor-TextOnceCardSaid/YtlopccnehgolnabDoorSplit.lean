
/- The contract of split: a text as words. -/
import Derived.Test.YtlopccnehgolnabDoorShTx
import Derived.Test.YtlopccnehgolnabDoorTabA
import Derived.Test.YtlopccnehgolnabDoorGrown
import Derived.Deep.DeepMust
import Derived.Deep.DeepCutAuto
import Derived.Deep.CutBlock
import Derived.Lib.Hide
namespace Go.Proofs.YtlopccnehgolnabDoor
open Go.RowKit Rb

def isLet (c : UInt8) : Bool := decide (97 ≤ c.toNat) && decide (c.toNat ≤ 122)
def isDig (c : UInt8) : Bool := decide (48 ≤ c.toNat) && decide (c.toNat ≤ 57)
/-- How long the word is that a text begins with (which begins with no space). -/
def wordLen (s : Txt) : Option Nat :=
  match s with
  | [] => none
  | c :: t =>
    if isLet c then some (1 + (t.takeWhile isLet).length)
    else if c.toNat = 45 ∨ isDig c = true then some (1 + (t.takeWhile isDig).length)
    else if Lib.hasPrefix s [46, 46] || Lib.hasPrefix s [61, 62] then some 2
    else if 0 ≤ Lib.indexByte [40, 41, 123, 125, 44, 59, 124, 42] c then some 1
    else none
def splitGo : Nat → Txt → List Txt → Option (List Txt)
  | 0, _, acc => some acc
  | f + 1, s, acc =>
    match s with
    | [] => some acc
    | c :: t => if c.toNat = 32 ∨ c.toNat = 10 then splitGo f t acc else match wordLen s with | some n => splitGo f (s.drop n) (acc ++ [s.take n]) | none => none

theorem ext_txt (l : Txt) (i j : Nat) : (⟨l.toArray⟩ : ByteArray).extract i j = ⟨((l.drop i).take (j - i)).toArray⟩ := by
  apply ByteArray.ext
  simp [ByteArray.data_extract]
theorem splitGo_two : ∀ (f g : Nat) (s : Txt) (acc : List Txt), s.length ≤ f → s.length ≤ g → splitGo f s acc = splitGo g s acc := by
  intro f
  induction f with
  | zero =>
    intro g s acc h hg
    obtain rfl : s = [] := List.eq_nil_of_length_eq_zero (by omega)
    cases g <;> rfl
  | succ f ih =>
    intro g s acc h hg
    cases s with
    | nil => cases g <;> rfl
    | cons c t =>
      cases g with
      | zero => simp at hg
      | succ g =>
        simp only [List.length_cons] at h hg
        simp only [splitGo]
        split
        · exact ih g t acc (by omega) (by omega)
        · cases hw : wordLen (c :: t) with
          | none => rfl
          | some n =>
            have h1 : 1 ≤ n := by
              unfold wordLen at hw
              dsimp only at hw
              split at hw
              · injection hw with hw; omega
              · split at hw
                · injection hw with hw; omega
                · split at hw
                  · injection hw with hw; omega
                  · split at hw
                    · injection hw with hw; omega
                    · cases hw
            have h2 : ((c :: t).drop n).length ≤ t.length := by rw [List.length_drop, List.length_cons]; omega
            exact ih g _ _ (by omega) (by omega)
def splitEnd (s : Txt) (acc : List Txt) : Option (List Txt) := splitGo s.length s acc
theorem split_space {s : Txt} {c : UInt8} {t : Txt} (acc : List Txt) (hs : s = c :: t) (h : c.toNat = 32 ∨ c.toNat = 10) : splitEnd s acc = splitEnd (s.drop 1) acc := by
  subst hs
  unfold splitEnd
  simp only [List.length_cons, splitGo, List.drop_succ_cons, List.drop_zero]
  rw [if_pos h]
theorem split_word {s : Txt} {c : UInt8} {t : Txt} {n : Nat} (acc : List Txt) (hs : s = c :: t) (h : ¬ (c.toNat = 32 ∨ c.toNat = 10)) (hn : wordLen s = some n) (h1 : 1 ≤ n) : splitEnd s acc = splitEnd (s.drop n) (acc ++ [s.take n]) := by
  subst hs
  unfold splitEnd
  simp only [List.length_cons, splitGo]
  rw [if_neg h, hn]
  exact splitGo_two _ _ _ _ (by rw [List.length_drop, List.length_cons]; omega) (Nat.le_refl _)
theorem split_none {s : Txt} {c : UInt8} {t : Txt} (acc : List Txt) (hs : s = c :: t) (h : ¬ (c.toNat = 32 ∨ c.toNat = 10)) (hn : wordLen s = none) : splitEnd s acc = none := by
  subst hs
  unfold splitEnd
  simp only [List.length_cons, splitGo]
  rw [if_neg h, hn]
/-- How far a run goes. -/
theorem run_len {p : UInt8 → Bool} {t : Txt} {k : Nat} (h : (t.take k).all p = true) (hk : k ≤ t.length) (he : k = t.length ∨ ∃ c, t[k]? = some c ∧ p c = false) : (t.takeWhile p).length = k := by
  induction t generalizing k with
  | nil => simp at hk; subst hk; rfl
  | cons c t ih =>
    cases k with
    | zero =>
      rcases he with he | ⟨d, hd, hp⟩
      · simp at he
      · simp at hd
        subst hd
        simp [hp]
    | succ k =>
      simp only [List.take_succ_cons, List.all_cons, Bool.and_eq_true] at h
      simp only [List.length_cons] at hk
      rw [List.takeWhile_cons, if_pos h.1, List.length_cons, ih h.2 (by omega)]
      rcases he with he | ⟨d, hd, hp⟩
      · simp only [List.length_cons] at he; exact .inl (by omega)
      · exact .inr ⟨d, by simpa using hd, hp⟩
def txtLen (v : Value) : Nat := match v with | .string b => b.size | _ => 0
theorem txtLen_eq (s : Txt) : txtLen (.string ⟨s.toArray⟩) = s.length := by simp [txtLen, ByteArray.size]

theorem word_let {r : Txt} {c : UInt8} {t : Txt} {k : Nat} (hr : r = c :: t) (hl : isLet c = true) (h1 : 1 ≤ k) (hk : k ≤ r.length) (ha : ((r.drop 1).take (k - 1)).all isLet = true) (he : k = r.length ∨ ∃ d, r[k]? = some d ∧ isLet d = false) : wordLen r = some k := by
  subst hr
  simp only [List.drop_succ_cons, List.drop_zero, List.length_cons] at ha hk he
  unfold wordLen
  dsimp only
  rw [if_pos hl, run_len ha (by omega) ?_, Nat.add_sub_cancel' h1]
  rcases he with he | ⟨d, hd, hp⟩
  · exact .inl (by omega)
  · refine .inr ⟨d, ?_, hp⟩
    cases k with
    | zero => omega
    | succ k => simpa using hd
theorem word_dig {r : Txt} {c : UInt8} {t : Txt} {k : Nat} (hr : r = c :: t) (hl : isLet c = false) (hd : c.toNat = 45 ∨ isDig c = true) (h1 : 1 ≤ k) (hk : k ≤ r.length) (ha : ((r.drop 1).take (k - 1)).all isDig = true) (he : k = r.length ∨ ∃ d, r[k]? = some d ∧ isDig d = false) : wordLen r = some k := by
  subst hr
  simp only [List.drop_succ_cons, List.drop_zero, List.length_cons] at ha hk he
  unfold wordLen
  dsimp only
  rw [if_neg (by simp [hl]), if_pos hd, run_len ha (by omega) ?_, Nat.add_sub_cancel' h1]
  rcases he with he | ⟨d, hd, hp⟩
  · exact .inl (by omega)
  · refine .inr ⟨d, ?_, hp⟩
    cases k with
    | zero => omega
    | succ k => simpa using hd
theorem word_else {r : Txt} {c : UInt8} {t : Txt} (hr : r = c :: t) (hl : isLet c = false) (hd : ¬ (c.toNat = 45 ∨ isDig c = true)) : wordLen r = if Lib.hasPrefix r [46, 46] || Lib.hasPrefix r [61, 62] then some 2 else if 0 ≤ Lib.indexByte [40, 41, 123, 125, 44, 59, 124, 42] c then some 1 else none := by
  subst hr
  unfold wordLen
  dsimp only
  rw [if_neg (by simp [hl]), if_neg hd]
theorem pre_two {r : Txt} {a b : UInt8} (h : Lib.hasPrefix r [a, b] = true) : 2 ≤ r.length := by
  unfold Lib.hasPrefix at h
  match r, h with
  | [], h => cases h
  | [x], h => simp [List.isPrefixOf] at h
  | x :: y :: l, _ => simp
theorem all_snoc {p : UInt8 → Bool} {r : Txt} {k : Nat} {d : UInt8} (h1 : 1 ≤ k) (ha : ((r.drop 1).take (k - 1)).all p = true) (hd : r[k]? = some d) (hp : p d = true) : ((r.drop 1).take (k + 1 - 1)).all p = true := by
  have hk : k + 1 - 1 = (k - 1) + 1 := by omega
  rw [hk, List.take_add_one, List.all_append, ha]
  have : (r.drop 1)[k - 1]? = some d := by rw [List.getElem?_drop]; rw [show 1 + (k - 1) = k by omega]; exact hd
  rw [this]
  simp [hp]

theorem el_StrS : ElemOf Tryd.prog rStr 22 9 := .mk' Tryd.underlying22 (z := .string ⟨#[]⟩) (k := 1) (b := 16) (by kernel_rfl) rfl rfl rfl (by decide) (by decide)
theorem ext_rel (w : World) (S : Nat → Prop) (r : Txt) (n : Nat) (h : r.length ≤ 4000) : rStr.rel w S [.string ((⟨r.toArray⟩ : ByteArray).extract 0 n)] (r.take n) := by
  refine ⟨by rw [ext_txt]; rfl, ?_⟩
  have : (r.take n).length ≤ r.length := List.length_take_le' _ _
  omega

set_option maxRecDepth 100000 in
set_option maxHeartbeats 6400000 in
theorem split_any (s : Txt) (w : World) (hs : s.length ≤ 4000) :
    Calls Tryd.prog 22 #[.string ⟨s.toArray⟩] w fun e w' => ∃ v, e = .returned (.tuple #[v, .bool (splitEnd s []).isSome]) ∧ Own rStr 9 w' w.heap.size (fun _ => False) v ((splitEnd s []).getD []) ∧ Below w.heap.size w w' := by
  obtain ⟨fin, hfin⟩ : ∃ x, splitEnd s [] = x := ⟨_, rfl⟩
  have HFIN := Lib.hid hfin
  have HSL := Lib.hid hs
  rw [hfin]
  clear hfin hs
  go_enter Tryd.func22, Tryd.ntmps22
  go_wp2
  go_loopw [0, 4] (fun sv lv wr => ∃ (r : Txt) (acc : List Txt), sv = .string ⟨r.toArray⟩ ∧ Hid (Own rStr 9 wr w.heap.size (fun _ => False) lv acc) ∧ Hid (splitEnd r acc = fin) ∧ Hid (acc.length + r.length ≤ 4000) ∧ Hid (Below w.heap.size w wr)) (fun sv _ _ => txtLen sv)
  case atStart => exact ⟨s, [], rfl, Lib.hid (Own.nil _ _ _ _ _), HFIN, Lib.hid (by simpa using HSL.out), Lib.hid (Below.refl _ _)⟩
  case round =>
    obtain ⟨r, acc, rfl, HO, HG, HL, HB⟩ := hrel
    obtain ⟨Av, lv, rfl⟩ := HO.out.value
    by_cases hr : r = []
    · subst hr
      have HZ : Hid (some acc = fin) := Lib.hid HG.out
      go_wp2
      go_ret2
      exact ⟨_, by rw [← HZ.out]; rfl, by rw [← HZ.out]; exact HO.out, HB.out⟩
    · obtain ⟨c, t, hct⟩ : ∃ c t, r = c :: t := by
        cases r with
        | nil => exact absurd rfl hr
        | cons c t => exact ⟨c, t, rfl⟩
      have HRC := Lib.hid hct
      have hne : r.isEmpty = false := by rw [hct]; rfl
      have hne2 : (r == []) = false := by rw [hct]; rfl
      have hlt0 : 0 < r.length := by rw [hct]; simp
      have hl0 : (0 : Int) < (r.length : Int) := by omega
      have hl1 : (1 : Int) ≤ (r.length : Int) := by omega
      have hc0 : (⟨r.toArray⟩ : ByteArray)[0]'hlt0 = c := by subst hct; rfl
      have HLT0 : Hid (1 ≤ r.length) := Lib.hid hlt0
      have HBY : Hid ((acc.length + 1) * rStr.bytes ≤ 140737488355328) := Lib.hid (by have := HL.out; simp only [rStr]; omega)
      have hrl : r.length ≤ 4000 := by have := HL.out; omega
      have HRL := Lib.hid hrl
      clear hct hr
      have hall : c.toNat = 32 ∨ c.toNat = 10 ∨ (97 ≤ c.toNat ∧ c.toNat ≤ 122) ∨ (c.toNat = 45) ∨ (48 ≤ c.toNat ∧ c.toNat ≤ 57) ∨ (c.toNat ≠ 32 ∧ c.toNat ≠ 10 ∧ c.toNat ≠ 45 ∧ c.toNat < 48) ∨ (57 < c.toNat ∧ c.toNat < 97) ∨ (122 < c.toNat) := by omega
      rcases hall with hc | hc | ⟨hc, hc'⟩ | hc | ⟨hc, hc'⟩ | hN
      · have e32 : ((c.toNat : Int) == 32) = true := by simp; omega
        have HZ := Lib.hid ((split_space acc HRC.out (by omega)).symm.trans HG.out)
        clear hc
        go_wp2
        go_roundw
        case rel => exact ⟨r.drop 1, acc, by rw [ext_txt, List.take_of_length_le (by simp)], HO, HZ, Lib.hid (by have h1 := HL.out; rw [List.length_drop]; omega), HB⟩
        case measure => rw [ext_txt, txtLen_eq, txtLen_eq, List.length_take, List.length_drop]; omega
      · have e32 : ((c.toNat : Int) == 32) = false := by simp; omega
        have e10 : ((c.toNat : Int) == 10) = true := by simp; omega
        have HZ := Lib.hid ((split_space acc HRC.out (by omega)).symm.trans HG.out)
        clear hc
        go_wp2
        go_roundw
        case rel => exact ⟨r.drop 1, acc, by rw [ext_txt, List.take_of_length_le (by simp)], HO, HZ, Lib.hid (by have h1 := HL.out; rw [List.length_drop]; omega), HB⟩
        case measure => rw [ext_txt, txtLen_eq, txtLen_eq, List.length_take, List.length_drop]; omega
      · have e32 : ((c.toNat : Int) == 32) = false := by simp; omega
        have e10 : ((c.toNat : Int) == 10) = false := by simp; omega
        have g1 : (97 : Int) ≤ (c.toNat : Int) := by omega
        have g2 : (c.toNat : Int) ≤ 122 := by omega
        have HSP : Hid (¬ (c.toNat = 32 ∨ c.toNat = 10)) := Lib.hid (by omega)
        have HLE : Hid (isLet c = true) := Lib.hid (by simp [isLet]; omega)
        clear hc hc'
        go_wp2
        go_loop [6] (fun i => ∃ k : Nat, i = .int .i64 k ∧ Hid (1 ≤ k) ∧ Hid (k ≤ r.length) ∧ Hid (((r.drop 1).take (k - 1)).all isLet = true)) (fun i => r.length - (intOf i).toNat)
        case atStart => exact ⟨1, rfl, Lib.hid (Nat.le_refl _), HLT0, Lib.hid (by simp)⟩
        case round =>
          obtain ⟨k, rfl, HN1, HNL, HAL⟩ := hrel
          by_cases hk : k < r.length
          · have hik : (k : Int) < (r.length : Int) := by omega
            obtain ⟨d, hd⟩ : ∃ d : UInt8, (⟨r.toArray⟩ : ByteArray)[k]'hk = d := ⟨_, rfl⟩
            have HD : Hid (r[k]? = some d) := Lib.hid (by rw [List.getElem?_eq_getElem hk]; exact congrArg some hd)
            have hcases : (d.toNat : Int) < 97 ∨ (97 ≤ (d.toNat : Int) ∧ 122 < (d.toNat : Int)) ∨ (97 ≤ (d.toNat : Int) ∧ (d.toNat : Int) ≤ 122) := by omega
            rcases hcases with e1 | ⟨e1, e2⟩ | ⟨e1, e2⟩
            · have HWL : Hid (wordLen r = some k) := Lib.hid (word_let HRC.out HLE.out HN1.out HNL.out HAL.out (.inr ⟨d, HD.out, by simp [isLet]; omega⟩))
              have hkl : (k : Int) ≤ (r.length : Int) := by omega
              go_wp2_with (first | (at_builtin; go_must (refine wpList_append_new (R := rStr) (x := r.take k) el_StrS rfl (.tmp 85) (.tmp 89) rfl rfl HO.out [.string ((⟨r.toArray⟩ : ByteArray).extract 0 k)] rfl rfl (fun _ => False) (ext_rel _ _ _ _ HRL.out) (fun _ h => h.elim) HBY.out HB.out.size ?_); intro v9 w9 hown9 hb9 _ _))
              go_roundw
              case rel => exact ⟨r.drop k, acc ++ [r.take k], by rw [ext_txt, List.take_of_length_le (by simp)], Lib.hid hown9, Lib.hid ((split_word acc HRC.out HSP.out HWL.out HN1.out).symm.trans HG.out), Lib.hid (by have h1 := HL.out; have h2 : 1 ≤ k := HN1.out; have h3 : k ≤ r.length := HNL.out; rw [List.length_append, List.length_singleton, List.length_drop]; omega), Lib.hid (HB.out.trans hb9)⟩
              case measure => rw [ext_txt, txtLen_eq, txtLen_eq, List.length_take, List.length_drop]; have h2 : 1 ≤ k := HN1.out; have h3 : k ≤ r.length := HNL.out; omega
            · have HWL : Hid (wordLen r = some k) := Lib.hid (word_let HRC.out HLE.out HN1.out HNL.out HAL.out (.inr ⟨d, HD.out, by simp [isLet]; omega⟩))
              have hkl : (k : Int) ≤ (r.length : Int) := by omega
              go_wp2_with (first | (at_builtin; go_must (refine wpList_append_new (R := rStr) (x := r.take k) el_StrS rfl (.tmp 85) (.tmp 89) rfl rfl HO.out [.string ((⟨r.toArray⟩ : ByteArray).extract 0 k)] rfl rfl (fun _ => False) (ext_rel _ _ _ _ HRL.out) (fun _ h => h.elim) HBY.out HB.out.size ?_); intro v9 w9 hown9 hb9 _ _))
              go_roundw
              case rel => exact ⟨r.drop k, acc ++ [r.take k], by rw [ext_txt, List.take_of_length_le (by simp)], Lib.hid hown9, Lib.hid ((split_word acc HRC.out HSP.out HWL.out HN1.out).symm.trans HG.out), Lib.hid (by have h1 := HL.out; have h2 : 1 ≤ k := HN1.out; have h3 : k ≤ r.length := HNL.out; rw [List.length_append, List.length_singleton, List.length_drop]; omega), Lib.hid (HB.out.trans hb9)⟩
              case measure => rw [ext_txt, txtLen_eq, txtLen_eq, List.length_take, List.length_drop]; have h2 : 1 ≤ k := HN1.out; have h3 : k ≤ r.length := HNL.out; omega
            · have HAL2 := Lib.hid (all_snoc HN1.out HAL.out HD.out (by simp [isLet]; omega))
              go_wp2
              go_round
              case rel => exact ⟨k + 1, by go_num, Lib.hid (Nat.le_succ_of_le HN1.out), Lib.hid hk, HAL2⟩
              case measure => simp [intOf]; omega
          · have hij : ¬ (k : Int) < (r.length : Int) := by omega
            have HWL : Hid (wordLen r = some k) := Lib.hid (word_let HRC.out HLE.out HN1.out HNL.out HAL.out (.inl (Nat.le_antisymm HNL.out (Nat.le_of_not_lt hk))))
            obtain rfl : k = r.length := Nat.le_antisymm HNL.out (Nat.le_of_not_lt hk)
            go_wp2_with (first | (at_builtin; go_must (refine wpList_append_new (R := rStr) (x := r.take r.length) el_StrS rfl (.tmp 85) (.tmp 89) rfl rfl HO.out [.string ((⟨r.toArray⟩ : ByteArray).extract 0 r.length)] rfl rfl (fun _ => False) (ext_rel _ _ _ _ HRL.out) (fun _ h => h.elim) HBY.out HB.out.size ?_); intro v9 w9 hown9 hb9 _ _))
            go_roundw
            case rel => exact ⟨[], acc ++ [r.take r.length], rfl, Lib.hid hown9, Lib.hid (by have h := (split_word acc HRC.out HSP.out HWL.out HN1.out).symm.trans HG.out; rw [List.drop_length] at h; exact h), Lib.hid (by have h1 := HL.out; have h2 := HN1.out; rw [List.length_append, List.length_singleton, List.length_nil]; omega), Lib.hid (HB.out.trans hb9)⟩
            case measure => show txtLen (.string ByteArray.empty) < _; rw [txtLen_eq]; exact HLT0.out
      · have e32 : ((c.toNat : Int) == 32) = false := by simp; omega
        have e10 : ((c.toNat : Int) == 10) = false := by simp; omega
        have g1 : ¬ (97 : Int) ≤ (c.toNat : Int) := by omega
        have e45 : ((c.toNat : Int) == 45) = true := by simp; omega
        have HSP : Hid (¬ (c.toNat = 32 ∨ c.toNat = 10)) := Lib.hid (by omega)
        have HLE : Hid (isLet c = false) := Lib.hid (by simp [isLet]; omega)
        have HDE : Hid (c.toNat = 45 ∨ isDig c = true) := Lib.hid (.inl hc)
        clear hc
        go_wp2
        go_loop [6] (fun i => ∃ k : Nat, i = .int .i64 k ∧ Hid (1 ≤ k) ∧ Hid (k ≤ r.length) ∧ Hid (((r.drop 1).take (k - 1)).all isDig = true)) (fun i => r.length - (intOf i).toNat)
        case atStart => exact ⟨1, rfl, Lib.hid (Nat.le_refl _), HLT0, Lib.hid (by simp)⟩
        case round =>
          obtain ⟨k, rfl, HN1, HNL, HAL⟩ := hrel
          by_cases hk : k < r.length
          · have hik : (k : Int) < (r.length : Int) := by omega
            obtain ⟨d, hd⟩ : ∃ d : UInt8, (⟨r.toArray⟩ : ByteArray)[k]'hk = d := ⟨_, rfl⟩
            have HD : Hid (r[k]? = some d) := Lib.hid (by rw [List.getElem?_eq_getElem hk]; exact congrArg some hd)
            have hcases : (d.toNat : Int) < 48 ∨ (48 ≤ (d.toNat : Int) ∧ 57 < (d.toNat : Int)) ∨ (48 ≤ (d.toNat : Int) ∧ (d.toNat : Int) ≤ 57) := by omega
            rcases hcases with e1 | ⟨e1, e2⟩ | ⟨e1, e2⟩
            · have HWL : Hid (wordLen r = some k) := Lib.hid (word_dig HRC.out HLE.out HDE.out HN1.out HNL.out HAL.out (.inr ⟨d, HD.out, by simp [isDig]; omega⟩))
              have hkl : (k : Int) ≤ (r.length : Int) := by omega
              go_wp2_with (first | (at_builtin; go_must (refine wpList_append_new (R := rStr) (x := r.take k) el_StrS rfl (.tmp 85) (.tmp 89) rfl rfl HO.out [.string ((⟨r.toArray⟩ : ByteArray).extract 0 k)] rfl rfl (fun _ => False) (ext_rel _ _ _ _ HRL.out) (fun _ h => h.elim) HBY.out HB.out.size ?_); intro v9 w9 hown9 hb9 _ _))
              go_roundw
              case rel => exact ⟨r.drop k, acc ++ [r.take k], by rw [ext_txt, List.take_of_length_le (by simp)], Lib.hid hown9, Lib.hid ((split_word acc HRC.out HSP.out HWL.out HN1.out).symm.trans HG.out), Lib.hid (by have h1 := HL.out; have h2 : 1 ≤ k := HN1.out; have h3 : k ≤ r.length := HNL.out; rw [List.length_append, List.length_singleton, List.length_drop]; omega), Lib.hid (HB.out.trans hb9)⟩
              case measure => rw [ext_txt, txtLen_eq, txtLen_eq, List.length_take, List.length_drop]; have h2 : 1 ≤ k := HN1.out; have h3 : k ≤ r.length := HNL.out; omega
            · have HWL : Hid (wordLen r = some k) := Lib.hid (word_dig HRC.out HLE.out HDE.out HN1.out HNL.out HAL.out (.inr ⟨d, HD.out, by simp [isDig]; omega⟩))
              have hkl : (k : Int) ≤ (r.length : Int) := by omega
              go_wp2_with (first | (at_builtin; go_must (refine wpList_append_new (R := rStr) (x := r.take k) el_StrS rfl (.tmp 85) (.tmp 89) rfl rfl HO.out [.string ((⟨r.toArray⟩ : ByteArray).extract 0 k)] rfl rfl (fun _ => False) (ext_rel _ _ _ _ HRL.out) (fun _ h => h.elim) HBY.out HB.out.size ?_); intro v9 w9 hown9 hb9 _ _))
              go_roundw
              case rel => exact ⟨r.drop k, acc ++ [r.take k], by rw [ext_txt, List.take_of_length_le (by simp)], Lib.hid hown9, Lib.hid ((split_word acc HRC.out HSP.out HWL.out HN1.out).symm.trans HG.out), Lib.hid (by have h1 := HL.out; have h2 : 1 ≤ k := HN1.out; have h3 : k ≤ r.length := HNL.out; rw [List.length_append, List.length_singleton, List.length_drop]; omega), Lib.hid (HB.out.trans hb9)⟩
              case measure => rw [ext_txt, txtLen_eq, txtLen_eq, List.length_take, List.length_drop]; have h2 : 1 ≤ k := HN1.out; have h3 : k ≤ r.length := HNL.out; omega
            · have HAL2 := Lib.hid (all_snoc HN1.out HAL.out HD.out (by simp [isDig]; omega))
              go_wp2
              go_round
              case rel => exact ⟨k + 1, by go_num, Lib.hid (Nat.le_succ_of_le HN1.out), Lib.hid hk, HAL2⟩
              case measure => simp [intOf]; omega
          · have hij : ¬ (k : Int) < (r.length : Int) := by omega
            have HWL : Hid (wordLen r = some k) := Lib.hid (word_dig HRC.out HLE.out HDE.out HN1.out HNL.out HAL.out (.inl (Nat.le_antisymm HNL.out (Nat.le_of_not_lt hk))))
            obtain rfl : k = r.length := Nat.le_antisymm HNL.out (Nat.le_of_not_lt hk)
            go_wp2_with (first | (at_builtin; go_must (refine wpList_append_new (R := rStr) (x := r.take r.length) el_StrS rfl (.tmp 85) (.tmp 89) rfl rfl HO.out [.string ((⟨r.toArray⟩ : ByteArray).extract 0 r.length)] rfl rfl (fun _ => False) (ext_rel _ _ _ _ HRL.out) (fun _ h => h.elim) HBY.out HB.out.size ?_); intro v9 w9 hown9 hb9 _ _))
            go_roundw
            case rel => exact ⟨[], acc ++ [r.take r.length], rfl, Lib.hid hown9, Lib.hid (by have h := (split_word acc HRC.out HSP.out HWL.out HN1.out).symm.trans HG.out; rw [List.drop_length] at h; exact h), Lib.hid (by have h1 := HL.out; have h2 := HN1.out; rw [List.length_append, List.length_singleton, List.length_nil]; omega), Lib.hid (HB.out.trans hb9)⟩
            case measure => show txtLen (.string ByteArray.empty) < _; rw [txtLen_eq]; exact HLT0.out
      · have e32 : ((c.toNat : Int) == 32) = false := by simp; omega
        have e10 : ((c.toNat : Int) == 10) = false := by simp; omega
        have g1 : ¬ (97 : Int) ≤ (c.toNat : Int) := by omega
        have e45 : ((c.toNat : Int) == 45) = false := by simp; omega
        have g3 : (48 : Int) ≤ (c.toNat : Int) := by omega
        have g4 : (c.toNat : Int) ≤ 57 := by omega
        have HSP : Hid (¬ (c.toNat = 32 ∨ c.toNat = 10)) := Lib.hid (by omega)
        have HLE : Hid (isLet c = false) := Lib.hid (by simp [isLet]; omega)
        have HDE : Hid (c.toNat = 45 ∨ isDig c = true) := Lib.hid (.inr (by simp [isDig]; omega))
        clear hc hc'
        go_wp2
        go_loop [6] (fun i => ∃ k : Nat, i = .int .i64 k ∧ Hid (1 ≤ k) ∧ Hid (k ≤ r.length) ∧ Hid (((r.drop 1).take (k - 1)).all isDig = true)) (fun i => r.length - (intOf i).toNat)
        case atStart => exact ⟨1, rfl, Lib.hid (Nat.le_refl _), HLT0, Lib.hid (by simp)⟩
        case round =>
          obtain ⟨k, rfl, HN1, HNL, HAL⟩ := hrel
          by_cases hk : k < r.length
          · have hik : (k : Int) < (r.length : Int) := by omega
            obtain ⟨d, hd⟩ : ∃ d : UInt8, (⟨r.toArray⟩ : ByteArray)[k]'hk = d := ⟨_, rfl⟩
            have HD : Hid (r[k]? = some d) := Lib.hid (by rw [List.getElem?_eq_getElem hk]; exact congrArg some hd)
            have hcases : (d.toNat : Int) < 48 ∨ (48 ≤ (d.toNat : Int) ∧ 57 < (d.toNat : Int)) ∨ (48 ≤ (d.toNat : Int) ∧ (d.toNat : Int) ≤ 57) := by omega
            rcases hcases with e1 | ⟨e1, e2⟩ | ⟨e1, e2⟩
            · have HWL : Hid (wordLen r = some k) := Lib.hid (word_dig HRC.out HLE.out HDE.out HN1.out HNL.out HAL.out (.inr ⟨d, HD.out, by simp [isDig]; omega⟩))
              have hkl : (k : Int) ≤ (r.length : Int) := by omega
              go_wp2_with (first | (at_builtin; go_must (refine wpList_append_new (R := rStr) (x := r.take k) el_StrS rfl (.tmp 85) (.tmp 89) rfl rfl HO.out [.string ((⟨r.toArray⟩ : ByteArray).extract 0 k)] rfl rfl (fun _ => False) (ext_rel _ _ _ _ HRL.out) (fun _ h => h.elim) HBY.out HB.out.size ?_); intro v9 w9 hown9 hb9 _ _))
              go_roundw
              case rel => exact ⟨r.drop k, acc ++ [r.take k], by rw [ext_txt, List.take_of_length_le (by simp)], Lib.hid hown9, Lib.hid ((split_word acc HRC.out HSP.out HWL.out HN1.out).symm.trans HG.out), Lib.hid (by have h1 := HL.out; have h2 : 1 ≤ k := HN1.out; have h3 : k ≤ r.length := HNL.out; rw [List.length_append, List.length_singleton, List.length_drop]; omega), Lib.hid (HB.out.trans hb9)⟩
              case measure => rw [ext_txt, txtLen_eq, txtLen_eq, List.length_take, List.length_drop]; have h2 : 1 ≤ k := HN1.out; have h3 : k ≤ r.length := HNL.out; omega
            · have HWL : Hid (wordLen r = some k) := Lib.hid (word_dig HRC.out HLE.out HDE.out HN1.out HNL.out HAL.out (.inr ⟨d, HD.out, by simp [isDig]; omega⟩))
              have hkl : (k : Int) ≤ (r.length : Int) := by omega
              go_wp2_with (first | (at_builtin; go_must (refine wpList_append_new (R := rStr) (x := r.take k) el_StrS rfl (.tmp 85) (.tmp 89) rfl rfl HO.out [.string ((⟨r.toArray⟩ : ByteArray).extract 0 k)] rfl rfl (fun _ => False) (ext_rel _ _ _ _ HRL.out) (fun _ h => h.elim) HBY.out HB.out.size ?_); intro v9 w9 hown9 hb9 _ _))
              go_roundw
              case rel => exact ⟨r.drop k, acc ++ [r.take k], by rw [ext_txt, List.take_of_length_le (by simp)], Lib.hid hown9, Lib.hid ((split_word acc HRC.out HSP.out HWL.out HN1.out).symm.trans HG.out), Lib.hid (by have h1 := HL.out; have h2 : 1 ≤ k := HN1.out; have h3 : k ≤ r.length := HNL.out; rw [List.length_append, List.length_singleton, List.length_drop]; omega), Lib.hid (HB.out.trans hb9)⟩
              case measure => rw [ext_txt, txtLen_eq, txtLen_eq, List.length_take, List.length_drop]; have h2 : 1 ≤ k := HN1.out; have h3 : k ≤ r.length := HNL.out; omega
            · have HAL2 := Lib.hid (all_snoc HN1.out HAL.out HD.out (by simp [isDig]; omega))
              go_wp2
              go_round
              case rel => exact ⟨k + 1, by go_num, Lib.hid (Nat.le_succ_of_le HN1.out), Lib.hid hk, HAL2⟩
              case measure => simp [intOf]; omega
          · have hij : ¬ (k : Int) < (r.length : Int) := by omega
            have HWL : Hid (wordLen r = some k) := Lib.hid (word_dig HRC.out HLE.out HDE.out HN1.out HNL.out HAL.out (.inl (Nat.le_antisymm HNL.out (Nat.le_of_not_lt hk))))
            obtain rfl : k = r.length := Nat.le_antisymm HNL.out (Nat.le_of_not_lt hk)
            go_wp2_with (first | (at_builtin; go_must (refine wpList_append_new (R := rStr) (x := r.take r.length) el_StrS rfl (.tmp 85) (.tmp 89) rfl rfl HO.out [.string ((⟨r.toArray⟩ : ByteArray).extract 0 r.length)] rfl rfl (fun _ => False) (ext_rel _ _ _ _ HRL.out) (fun _ h => h.elim) HBY.out HB.out.size ?_); intro v9 w9 hown9 hb9 _ _))
            go_roundw
            case rel => exact ⟨[], acc ++ [r.take r.length], rfl, Lib.hid hown9, Lib.hid (by have h := (split_word acc HRC.out HSP.out HWL.out HN1.out).symm.trans HG.out; rw [List.drop_length] at h; exact h), Lib.hid (by have h1 := HL.out; have h2 := HN1.out; rw [List.length_append, List.length_singleton, List.length_nil]; omega), Lib.hid (HB.out.trans hb9)⟩
            case measure => show txtLen (.string ByteArray.empty) < _; rw [txtLen_eq]; exact HLT0.out
      · have e32 : ((c.toNat : Int) == 32) = false := by simp; omega
        have e10 : ((c.toNat : Int) == 10) = false := by simp; omega
        have e45 : ((c.toNat : Int) == 45) = false := by simp; omega
        have HSP : Hid (¬ (c.toNat = 32 ∨ c.toNat = 10)) := Lib.hid (by omega)
        have HEL := Lib.hid (word_else HRC.out (by simp [isLet]; omega) (by simp [isDig]; omega))
        obtain ⟨p1, hp1⟩ : ∃ x, Lib.hasPrefix r [46, 46] = x := ⟨_, rfl⟩
        obtain ⟨p2, hp2⟩ : ∃ x, Lib.hasPrefix r [61, 62] = x := ⟨_, rfl⟩
        obtain ⟨ix, hix⟩ : ∃ x, Lib.indexByte [40, 41, 123, 125, 44, 59, 124, 42] c = x := ⟨_, rfl⟩
        rw [hp1, hp2, hix] at HEL
        have HP1 : Hid (∀ w, Calls Tryd.prog 53 #[.string ⟨r.toArray⟩, .string ⟨#[46, 46]⟩] w fun e w' => e = .returned (.bool p1) ∧ w' = w) := Lib.hid fun w => hp1 ▸ HasPrefix_any r [46, 46] w
        have HP2 : Hid (∀ w, Calls Tryd.prog 53 #[.string ⟨r.toArray⟩, .string ⟨#[61, 62]⟩] w fun e w' => e = .returned (.bool p2) ∧ w' = w) := Lib.hid fun w => hp2 ▸ HasPrefix_any r [61, 62] w
        have HIX : Hid (∀ w, Calls Tryd.prog 54 #[.string ⟨#[40, 41, 123, 125, 44, 59, 124, 42]⟩, .int .u8 (c.toNat : Int)] w fun e w' => e = .returned (.int .i64 ix) ∧ w' = w) := Lib.hid fun w => by
          have h := IndexByte_any [40, 41, 123, 125, 44, 59, 124, 42] (c.toNat : Int) w
          rw [show ((c.toNat : Int)).toNat.toUInt8 = c by simp] at h
          rw [hix] at h
          exact h
        have H21 : Hid (p1 = true → 2 ≤ r.length) := Lib.hid fun h => pre_two (hp1.trans h)
        have H22 : Hid (p2 = true → 2 ≤ r.length) := Lib.hid fun h => pre_two (hp2.trans h)
        clear hp1 hp2 hix
        have hN2 : ((c.toNat : Int) < 97 ∧ (c.toNat : Int) < 48) ∨ ((c.toNat : Int) < 97 ∧ (48 : Int) ≤ (c.toNat : Int) ∧ (57 : Int) < (c.toNat : Int)) ∨ ((97 : Int) ≤ (c.toNat : Int) ∧ (122 : Int) < (c.toNat : Int) ∧ (48 : Int) ≤ (c.toNat : Int) ∧ (57 : Int) < (c.toNat : Int)) := by omega
        clear hN
        rcases hN2 with ⟨m1, m2⟩ | ⟨m1, m2, m3⟩ | ⟨m1, m2, m3, m4⟩
        all_goals
          cases p1
          · cases p2
            · by_cases hx : 0 ≤ ix
              · have HWL : Hid (wordLen r = some 1) := Lib.hid (by rw [HEL.out]; simp [hx])
                have HNL := HLT0
                go_wp2_with (first | (go_at_call 53; first | ((with_reducible refine (HP1.out wr).mono ?_); rintro e w1 ⟨rfl, hw⟩; obtain rfl := hw.symm) | ((with_reducible refine (HP2.out wr).mono ?_); rintro e w1 ⟨rfl, hw⟩; obtain rfl := hw.symm)) | (go_at_call 54; go_must ((with_reducible refine (HIX.out wr).mono ?_); rintro e w1 ⟨rfl, hw⟩; obtain rfl := hw.symm)) | (at_builtin; go_must (refine wpList_append_new (R := rStr) (x := r.take 1) el_StrS rfl (.tmp 85) (.tmp 89) rfl rfl HO.out [.string ((⟨r.toArray⟩ : ByteArray).extract 0 1)] rfl rfl (fun _ => False) (ext_rel _ _ _ _ HRL.out) (fun _ h => h.elim) HBY.out HB.out.size ?_); intro v9 w9 hown9 hb9 _ _))
                go_roundw
                case rel => exact ⟨r.drop 1, acc ++ [r.take 1], by rw [ext_txt, List.take_of_length_le (by simp)], Lib.hid hown9, Lib.hid ((split_word acc HRC.out HSP.out HWL.out (Nat.le_refl 1)).symm.trans HG.out), Lib.hid (by have h1 := HL.out; have h2 : 1 ≤ 1 := (Nat.le_refl 1); have h3 : 1 ≤ r.length := HNL.out; rw [List.length_append, List.length_singleton, List.length_drop]; omega), Lib.hid (HB.out.trans hb9)⟩
                case measure => rw [ext_txt, txtLen_eq, txtLen_eq, List.length_take, List.length_drop]; have h2 : 1 ≤ 1 := (Nat.le_refl 1); have h3 : 1 ≤ r.length := HNL.out; omega
              · have HWL : Hid (wordLen r = none) := Lib.hid (by rw [HEL.out]; simp [hx])
                have hx2 : ix < 0 := by omega
                have HZ := Lib.hid ((split_none acc HRC.out HSP.out HWL.out).symm.trans HG.out)
                clear hx
                go_wp2_with (first | (go_at_call 53; first | ((with_reducible refine (HP1.out wr).mono ?_); rintro e w1 ⟨rfl, hw⟩; obtain rfl := hw.symm) | ((with_reducible refine (HP2.out wr).mono ?_); rintro e w1 ⟨rfl, hw⟩; obtain rfl := hw.symm)) | (go_at_call 54; go_must ((with_reducible refine (HIX.out wr).mono ?_); rintro e w1 ⟨rfl, hw⟩; obtain rfl := hw.symm)))
                go_ret2
                exact ⟨_, by rw [← HZ.out]; rfl, by rw [← HZ.out]; exact Own.nil _ _ _ _ _, HB.out⟩
            · have HWL : Hid (wordLen r = some 2) := Lib.hid (by rw [HEL.out]; rfl)
              have HNL : Hid (2 ≤ r.length) := Lib.hid (H22.out (by simp))
              have h2l : (2 : Int) ≤ (r.length : Int) := by have := HNL.out; omega
              go_wp2_with (first | (go_at_call 53; first | ((with_reducible refine (HP1.out wr).mono ?_); rintro e w1 ⟨rfl, hw⟩; obtain rfl := hw.symm) | ((with_reducible refine (HP2.out wr).mono ?_); rintro e w1 ⟨rfl, hw⟩; obtain rfl := hw.symm)) | (at_builtin; go_must (refine wpList_append_new (R := rStr) (x := r.take 2) el_StrS rfl (.tmp 85) (.tmp 89) rfl rfl HO.out [.string ((⟨r.toArray⟩ : ByteArray).extract 0 2)] rfl rfl (fun _ => False) (ext_rel _ _ _ _ HRL.out) (fun _ h => h.elim) HBY.out HB.out.size ?_); intro v9 w9 hown9 hb9 _ _))
              go_roundw
              case rel => exact ⟨r.drop 2, acc ++ [r.take 2], by rw [ext_txt, List.take_of_length_le (by simp)], Lib.hid hown9, Lib.hid ((split_word acc HRC.out HSP.out HWL.out (by decide)).symm.trans HG.out), Lib.hid (by have h1 := HL.out; have h2 : 1 ≤ 2 := (by decide); have h3 : 2 ≤ r.length := HNL.out; rw [List.length_append, List.length_singleton, List.length_drop]; omega), Lib.hid (HB.out.trans hb9)⟩
              case measure => rw [ext_txt, txtLen_eq, txtLen_eq, List.length_take, List.length_drop]; have h2 : 1 ≤ 2 := (by decide); have h3 : 2 ≤ r.length := HNL.out; omega
          · have HWL : Hid (wordLen r = some 2) := Lib.hid (by rw [HEL.out]; rfl)
            have HNL : Hid (2 ≤ r.length) := Lib.hid (H21.out (by simp))
            have h2l : (2 : Int) ≤ (r.length : Int) := by have := HNL.out; omega
            go_wp2_with (first | (go_at_call 53; first | ((with_reducible refine (HP1.out wr).mono ?_); rintro e w1 ⟨rfl, hw⟩; obtain rfl := hw.symm) | ((with_reducible refine (HP2.out wr).mono ?_); rintro e w1 ⟨rfl, hw⟩; obtain rfl := hw.symm)) | (at_builtin; go_must (refine wpList_append_new (R := rStr) (x := r.take 2) el_StrS rfl (.tmp 85) (.tmp 89) rfl rfl HO.out [.string ((⟨r.toArray⟩ : ByteArray).extract 0 2)] rfl rfl (fun _ => False) (ext_rel _ _ _ _ HRL.out) (fun _ h => h.elim) HBY.out HB.out.size ?_); intro v9 w9 hown9 hb9 _ _))
            go_roundw
            case rel => exact ⟨r.drop 2, acc ++ [r.take 2], by rw [ext_txt, List.take_of_length_le (by simp)], Lib.hid hown9, Lib.hid ((split_word acc HRC.out HSP.out HWL.out (by decide)).symm.trans HG.out), Lib.hid (by have h1 := HL.out; have h2 : 1 ≤ 2 := (by decide); have h3 : 2 ≤ r.length := HNL.out; rw [List.length_append, List.length_singleton, List.length_drop]; omega), Lib.hid (HB.out.trans hb9)⟩
            case measure => rw [ext_txt, txtLen_eq, txtLen_eq, List.length_take, List.length_drop]; have h2 : 1 ≤ 2 := (by decide); have h3 : 2 ≤ r.length := HNL.out; omega

end Go.Proofs.YtlopccnehgolnabDoor
