
/- The contract of the reference's IsName. -/
import Derived.Test.YtlopccnehgolnabGreatDoorNameMath
import Derived.Test.YtlopccnehgolnabGreatDoorTabA
import Derived.Test.YtlopccnehgolnabGreatDoorTrim
import Derived.Lib.Hide
import Derived.Deep.DeepMust
namespace Go.Proofs.YtlopccnehgolnabGreatDoor
open Go.RowKit

theorem Trim_any (s : Txt) (w : World) (hs : s.length ≤ 140737488355328) :
    Calls Tryz.prog 153 #[.string ⟨s.toArray⟩, .string ⟨#[97, 98, 99, 100, 101, 102, 103, 104, 105, 106, 107, 108, 109, 110, 111, 112, 113, 114, 115, 116, 117, 118, 119, 120, 121, 122]⟩] w fun e w' => e = .returned (.string ⟨(Lib.trimS s abc).toArray⟩) ∧ Below w.heap.size w w' := by
  have h := Go.Proofs.Any.strings_Trim_laid Tryz.lays160 (by kernel_rfl) ⟨s.toArray⟩ ⟨#[97, 98, 99, 100, 101, 102, 103, 104, 105, 106, 107, 108, 109, 110, 111, 112, 113, 114, 115, 116, 117, 118, 119, 120, 121, 122]⟩ w (by simp [ByteArray.size]; omega) (by decide) (Go.Proofs.ascii_of_all (by decide))
  exact h

theorem IsName_any (s : Txt) (w : World) (hs : s.length ≤ 140737488355328) :
    Calls Tryz.prog 115 #[.string ⟨s.toArray⟩] w fun e w' => e = .returned (.bool (named s)) ∧ Below w.heap.size w w' := by
  by_cases h0 : s = []
  · subst h0
    go_enter Tryz.func115, Tryz.ntmps115
    go_wp2
    go_ret
    exact ⟨rfl, Below.refl _ _⟩
  have hem : s.isEmpty = false := by cases s with | nil => exact absurd rfl h0 | cons => rfl
  have he : (⟨s.toArray⟩ : ByteArray) ≠ ⟨#[]⟩ := fun h => h0 (by have := (txt_eq s []).1 h; exact this)
  have hl0 : 0 < s.length := by cases s with | nil => exact absurd rfl h0 | cons => simp
  by_cases h9 : s.length < 9
  · have HN := Lib.hid (trim_named h0 h9)
    have hi9 : (s.length : Int) < 9 := by omega
    cases ht : Lib.trimS s abc with
    | nil =>
      have HT := Trim_any s w hs
      rw [ht] at HT HN
      have HT := Lib.hid HT
      have HF : Hid (named s = true) := Lib.hid (HN.out.symm.trans (by simp))
      clear h9 ht
      go_enter Tryz.func115, Tryz.ntmps115
      go_wp2_with (first | (go_at_call 153; go_must ((with_reducible refine HT.out.mono ?_); rintro e w' ⟨rfl, hb⟩)))
      go_ret
      exact ⟨ret_bool HF.out.symm, hb⟩
    | cons x l =>
      have HT := Trim_any s w hs
      rw [ht] at HT HN
      have HT := Lib.hid HT
      have hx : (⟨(x :: l).toArray⟩ : ByteArray) ≠ ⟨#[]⟩ := fun h => by have := (txt_eq (x :: l) []).1 h; cases this
      have HF : Hid (named s = false) := Lib.hid (HN.out.symm.trans (by simp))
      clear h9 ht
      go_enter Tryz.func115, Tryz.ntmps115
      go_wp2_with (first | (go_at_call 153; go_must ((with_reducible refine HT.out.mono ?_); rintro e w' ⟨rfl, hb⟩)))
      go_ret
      exact ⟨ret_bool HF.out.symm, hb⟩
  · have hi9 : ¬ (s.length : Int) < 9 := by omega
    have HF : Hid (named s = false) := Lib.hid (named_long (by omega))
    clear h9
    go_enter Tryz.func115, Tryz.ntmps115
    go_wp2
    go_ret
    exact ⟨ret_bool HF.out.symm, Below.refl _ _⟩

end Go.Proofs.YtlopccnehgolnabGreatDoor
