
/- Names by the reference's word: nothing is left of a text when the small letters are trimmed off. Plain, no program. -/
import Derived.Test.YtlopccnehgolnabGreatDoorGrC
import Derived.Lib.SlTrimSet
import Derived.WalkKit
namespace Go.Proofs.YtlopccnehgolnabGreatDoor

def abc : List UInt8 := [97, 98, 99, 100, 101, 102, 103, 104, 105, 106, 107, 108, 109, 110, 111, 112, 113, 114, 115, 116, 117, 118, 119, 120, 121, 122]

theorem dropWhile_nil {p : UInt8 → Bool} : ∀ l : List UInt8, l.dropWhile p = [] ↔ ∀ x ∈ l, p x = true
  | [] => by simp
  | a :: l => by
    rw [List.dropWhile_cons]
    cases h : p a
    · simp [h]
    · simp [h, dropWhile_nil l]
theorem trimS_nil (l cs : List UInt8) : Lib.trimS l cs = [] ↔ ∀ c ∈ l, cs.contains c = true := by
  unfold Lib.trimS Lib.trimLeftS Lib.trimRightS
  rw [dropWhile_nil]
  constructor
  · intro h
    cases hr : l.reverse.dropWhile (cs.contains ·) with
    | nil =>
      rw [dropWhile_nil] at hr
      exact fun c hc => hr c (List.mem_reverse.2 hc)
    | cons x t =>
      have h1 : cs.contains x = true := h x (by rw [hr]; simp)
      have h2 := List.head?_dropWhile_not (cs.contains ·) l.reverse
      rw [hr] at h2
      simp only [List.head?_cons] at h2
      rw [h1] at h2
      cases h2
  · intro h c hc
    have : c ∈ l.reverse.dropWhile (cs.contains ·) := by simpa using hc
    exact h c (by have := (List.dropWhile_sublist (cs.contains ·)).mem this; simpa using this)

theorem abc_low (c : UInt8) : abc.contains c = (decide (97 ≤ c.toNat) && decide (c.toNat ≤ 122)) := by
  have h : ∀ n : Fin 256, abc.contains (UInt8.ofNat n.1) = (decide (97 ≤ (UInt8.ofNat n.1).toNat) && decide ((UInt8.ofNat n.1).toNat ≤ 122)) := of_decide_eq_true (by kernel_rfl)
  have h1 := h ⟨c.toNat, c.toNat_lt⟩
  simpa using h1

/-- What the trimmed text says. -/
theorem trim_named {s : Txt} (h0 : s ≠ []) (h9 : s.length < 9) : decide (Lib.trimS s abc = []) = named s := by
  rw [Bool.eq_iff_iff, decide_eq_true_iff, trimS_nil]
  unfold named
  have hl : 1 ≤ s.length := by cases s with | nil => exact absurd rfl h0 | cons => simp
  simp only [List.all_eq_true, Bool.and_eq_true, decide_eq_true_eq]
  constructor
  · intro h
    exact ⟨fun c hc => by have := h c hc; rw [abc_low] at this; simpa using this, hl, by omega⟩
  · intro h c hc
    rw [abc_low]
    simpa using h.1 c hc
theorem named_nil : named [] = false := rfl
theorem named_long {s : Txt} (h : 9 ≤ s.length) : named s = false := by
  unfold named
  rw [show decide (s.length ≤ 8) = false by simp; omega]
  simp

end Go.Proofs.YtlopccnehgolnabGreatDoor
