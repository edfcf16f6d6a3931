
/- Plain law: how the printed text falls into words, and what a number's word says. -/
import Derived.Test.YtlopccnehgolnabDoorTxtM
import Derived.Test.YtlopccnehgolnabDoorParse
namespace Go.Proofs.YtlopccnehgolnabDoor
open Go.RowKit Rb

theorem decFrom_add (d : UInt8) (k : Nat) (hd : Lib.digitVal d = some k) : ∀ (l : Txt) (acc n : Nat), Lib.decFrom acc l = some n → Lib.decFrom acc (l ++ [d]) = some (n * 10 + k)
  | [], acc, n, h => by
    simp only [Lib.decFrom, Option.some.injEq] at h
    subst h
    simp [Lib.decFrom, hd]
  | b :: l, acc, n, h => by
    simp only [Lib.decFrom, List.cons_append] at h ⊢
    cases hb : Lib.digitVal b with
    | none => rw [hb] at h; cases h
    | some e => rw [hb] at h; exact decFrom_add d k hd l _ n h
theorem digit_ofNat {k : Nat} (h : k < 10) : Lib.digitVal (UInt8.ofNat (48 + k)) = some k := by
  have : (UInt8.ofNat (48 + k)).toNat = 48 + k := by simp; omega
  unfold Lib.digitVal
  rw [this, if_pos (by omega)]
  simp
theorem isDig_ofNat {k : Nat} (h : k < 10) : isDig (UInt8.ofNat (48 + k)) = true := by
  have : (UInt8.ofNat (48 + k)).toNat = 48 + k := by simp; omega
  unfold isDig
  rw [this]
  simp
  omega
theorem decDigits_law (u : Nat) : Lib.decFrom 0 (Lib.decDigits u) = some u ∧ (Lib.decDigits u).all isDig = true ∧ Lib.decDigits u ≠ [] := by
  induction u using Nat.strongRecOn with
  | ind u ih =>
    rw [Lib.decDigits]
    by_cases h : u < 10
    · rw [dif_pos h]
      refine ⟨?_, by rw [List.all_cons, isDig_ofNat h]; rfl, by simp⟩
      have := decFrom_add _ u (digit_ofNat h) [] 0 0 rfl
      simpa using this
    · rw [dif_neg h]
      obtain ⟨h1, h2, _⟩ := ih (u / 10) (by omega)
      refine ⟨?_, ?_, by simp⟩
      · rw [decFrom_add _ (u % 10) (digit_ofNat (by omega)) _ 0 _ h1]
        congr 1
        omega
      · rw [List.all_append, h2, List.all_cons, isDig_ofNat (k := u % 10) (by omega)]
        rfl
/-- A number's word. -/
theorem itoa_word (v : Int) : ∃ c t, Lib.itoa v = c :: t ∧ (c.toNat = 45 ∨ isDig c = true) ∧ t.all isDig = true := by
  by_cases hneg : v < 0
  · obtain ⟨u, rfl⟩ : ∃ u : Nat, v = -(u : Int) := ⟨v.natAbs, by omega⟩
    rw [Lib.itoa_neg u (by omega)]
    exact ⟨_, _, rfl, .inl rfl, (decDigits_law u).2.1⟩
  · obtain ⟨u, rfl⟩ : ∃ u : Nat, v = u := ⟨v.toNat, by omega⟩
    rw [Lib.itoa_nonneg]
    obtain ⟨_, h2, h3⟩ := decDigits_law u
    cases hd : Lib.decDigits u with
    | nil => exact absurd hd h3
    | cons c t =>
      rw [hd] at h2
      simp only [List.all_cons, Bool.and_eq_true] at h2
      exact ⟨c, t, rfl, .inr h2.1, h2.2⟩
theorem atoi_itoa (v : Int) : Lib.atoi (Lib.itoa v) = some v := by
  by_cases hneg : v < 0
  · obtain ⟨u, rfl⟩ : ∃ u : Nat, v = -(u : Int) := ⟨v.natAbs, by omega⟩
    rw [Lib.itoa_neg u (by omega)]
    obtain ⟨h1, _, h3⟩ := decDigits_law u
    simp [Lib.atoi, Lib.decNat, h1, h3]
  · obtain ⟨u, rfl⟩ : ∃ u : Nat, v = u := ⟨v.toNat, by omega⟩
    rw [Lib.itoa_nonneg]
    obtain ⟨h1, h2, h3⟩ := decDigits_law u
    cases hd : Lib.decDigits u with
    | nil => exact absurd hd h3
    | cons c t =>
      rw [hd] at h1 h2
      simp only [List.all_cons, Bool.and_eq_true] at h2
      have hc := h2.1
      unfold isDig at hc
      simp only [Bool.and_eq_true, decide_eq_true_iff] at hc
      have n1 : (c == 45) = false := by
        rw [beq_eq_false_iff_ne]
        rintro rfl
        have : (45 : UInt8).toNat = 45 := rfl
        omega
      have n2 : (c == 43) = false := by
        rw [beq_eq_false_iff_ne]
        rintro rfl
        have : (43 : UInt8).toNat = 43 := rfl
        omega
      simp [Lib.atoi, Lib.decNat, n1, n2, h1]
theorem numOf_itoa {v : Int} (h : isNum v = true) : numOf (Lib.itoa v) = some v := by
  have h8 := itoa_len8 v h
  unfold numOf
  rw [Lib.atoiAll_short _ (by omega), atoi_itoa]
  exact if_pos ⟨rfl, (isNum_iff v).1 h⟩

/-- The next byte ends a word: it is no letter and no digit. -/
def Stop (t : Txt) : Prop := ∀ c r, t = c :: r → isLet c = false ∧ isDig c = false
theorem Stop.nil : Stop [] := fun _ _ h => by cases h
theorem Stop.cons {c : UInt8} (t : Txt) (h : isLet c = false ∧ isDig c = false) : Stop (c :: t) := fun _ _ e => by injection e with e1 e2; subst e1; exact h
theorem run_stop {p : UInt8 → Bool} : ∀ {w t : Txt}, w.all p = true → (∀ c r, t = c :: r → p c = false) → ((w ++ t).takeWhile p).length = w.length
  | [], t, _, h => by
    cases t with
    | nil => rfl
    | cons c r => simp [h c r rfl]
  | x :: w, t, hw, h => by
    simp only [List.all_cons, Bool.and_eq_true] at hw
    rw [List.cons_append, List.takeWhile_cons, if_pos hw.1, List.length_cons, run_stop hw.2 h, List.length_cons]
theorem split_tok {c : UInt8} {w t : Txt} (acc : List Txt) (h : ¬ (c.toNat = 32 ∨ c.toNat = 10)) (hn : wordLen (c :: (w ++ t)) = some (1 + w.length)) : splitEnd (c :: w ++ t) acc = splitEnd t (acc ++ [c :: w]) := by
  rw [List.cons_append, split_word acc rfl h hn (by omega)]
  have e1 : (c :: (w ++ t)).drop (1 + w.length) = t := by rw [Nat.add_comm]; simp
  have e2 : (c :: (w ++ t)).take (1 + w.length) = c :: w := by rw [Nat.add_comm]; simp
  rw [e1, e2]
theorem split_name {s t : Txt} (acc : List Txt) (h : s.all isLet = true) (h0 : s ≠ []) (ht : Stop t) : splitEnd (s ++ t) acc = splitEnd t (acc ++ [s]) := by
  cases s with
  | nil => exact absurd rfl h0
  | cons c w =>
    simp only [List.all_cons, Bool.and_eq_true] at h
    have hc := h.1
    unfold isLet at hc
    simp only [Bool.and_eq_true, decide_eq_true_iff] at hc
    refine split_tok acc (by omega) ?_
    unfold wordLen
    dsimp only
    rw [if_pos h.1, run_stop h.2 fun c r e => (ht c r e).1]
theorem split_num {t : Txt} (acc : List Txt) (v : Int) (ht : Stop t) : splitEnd (Lib.itoa v ++ t) acc = splitEnd t (acc ++ [Lib.itoa v]) := by
  obtain ⟨c, w, e, hc, hw⟩ := itoa_word v
  rw [e]
  have hc' : c.toNat = 45 ∨ (48 ≤ c.toNat ∧ c.toNat ≤ 57) := by
    rcases hc with hc | hc
    · exact .inl hc
    · unfold isDig at hc
      simp only [Bool.and_eq_true, decide_eq_true_iff] at hc
      exact .inr hc
  refine split_tok acc (by omega) ?_
  unfold wordLen
  dsimp only
  rw [if_neg ?_, if_pos hc, run_stop hw fun c r e => (ht c r e).2]
  unfold isLet
  simp
  omega
theorem split_sp (t : Txt) (acc : List Txt) : splitEnd (32 :: t) acc = splitEnd t acc := split_space acc rfl (.inl rfl)
theorem split_nl (t : Txt) (acc : List Txt) : splitEnd (10 :: t) acc = splitEnd t acc := split_space acc rfl (.inr rfl)
theorem split_sym {c : UInt8} (hc : c ∈ ([40, 41, 123, 125, 44, 59, 124, 42] : Txt)) (t : Txt) (acc : List Txt) : splitEnd (c :: t) acc = splitEnd t (acc ++ [[c]]) := by
  have key : ¬ (c.toNat = 32 ∨ c.toNat = 10) ∧ wordLen (c :: t) = some 1 := by
    simp only [List.mem_cons, List.not_mem_nil, or_false] at hc
    rcases hc with rfl | rfl | rfl | rfl | rfl | rfl | rfl | rfl <;> exact ⟨by decide, by simp [wordLen, isLet, isDig, Lib.hasPrefix, Lib.indexByte]⟩
  rw [split_word acc rfl key.1 key.2 (Nat.le_refl _)]
  rfl
theorem split_dots (t : Txt) (acc : List Txt) : splitEnd (46 :: 46 :: t) acc = splitEnd t (acc ++ [[46, 46]]) := by
  rw [split_word (n := 2) acc rfl (by decide) (by simp [wordLen, isLet, isDig, Lib.hasPrefix]) (by omega)]
  rfl
theorem split_arrow (t : Txt) (acc : List Txt) : splitEnd (61 :: 62 :: t) acc = splitEnd t (acc ++ [[61, 62]]) := by
  rw [split_word (n := 2) acc rfl (by decide) (by simp [wordLen, isLet, isDig, Lib.hasPrefix]) (by omega)]
  rfl

end Go.Proofs.YtlopccnehgolnabDoor
