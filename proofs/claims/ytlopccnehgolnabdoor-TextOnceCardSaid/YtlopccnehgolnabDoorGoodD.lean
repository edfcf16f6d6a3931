
/- The contract of GoodDomain. -/
import Derived.Test.YtlopccnehgolnabDoorBook
namespace Go.Proofs.YtlopccnehgolnabDoor
open Go.RowKit Rb

def goodD (d : Dm) : Bool := named d.name && (decide (-1000000 ≤ d.lo) && (decide (d.lo ≤ d.hi) && decide (d.hi ≤ 1000000)))

set_option maxRecDepth 100000 in
theorem GoodDomain_any (d : Dm) (w : World) (hs : d.name.length ≤ 140737488355328) :
    Calls Tryd.prog 27 #[.agg #[.string ⟨d.name.toArray⟩, .int .i64 d.lo, .int .i64 d.hi]] w fun e w' => e = .returned (.bool (goodD d)) ∧ Below w.heap.size w w' := by
  have hv : goodD d = (named d.name && (decide (-1000000 ≤ d.lo) && (decide (d.lo ≤ d.hi) && decide (d.hi ≤ 1000000)))) := rfl
  obtain ⟨nm, hnm⟩ : ∃ x, named d.name = x := ⟨_, rfl⟩
  have qn := Lib.hid hnm
  rw [hnm] at hv
  have HV := Lib.hid hv
  clear hv hnm
  have hcs : nm = false ∨ (nm = true ∧ ¬ -1000000 ≤ d.lo) ∨ (nm = true ∧ -1000000 ≤ d.lo ∧ ¬ d.lo ≤ d.hi) ∨ (nm = true ∧ -1000000 ≤ d.lo ∧ d.lo ≤ d.hi ∧ ¬ d.hi ≤ 1000000) ∨ (nm = true ∧ -1000000 ≤ d.lo ∧ d.lo ≤ d.hi ∧ d.hi ≤ 1000000) := by
    cases nm
    · exact .inl rfl
    · by_cases h1 : -1000000 ≤ d.lo <;> by_cases h2 : d.lo ≤ d.hi <;> by_cases h3 : d.hi ≤ 1000000 <;> simp [h1, h2, h3]
  rcases hcs with rfl | ⟨rfl, h1⟩ | ⟨rfl, h1, h2⟩ | ⟨rfl, h1, h2, h3⟩ | ⟨rfl, h1, h2, h3⟩
  all_goals
    have HF := HV.out
    simp [*] at HF
    have HG := Lib.hid HF
    clear HF HV
    go_enter Tryd.func27, Tryd.ntmps27
    go_wp2_with (first | (go_at_call 45; go_must ((with_reducible refine (Named_b qn.out _ hs).mono ?_); rintro e w4 ⟨rfl, rfl⟩)))
    go_ret
    exact ⟨by first | (rw [HG.out]; rfl) | (rw [HG.out]; exact ret_bool (by simp [h3])), (Below.refl _ _).alloc (Nat.le_refl _) _⟩

end Go.Proofs.YtlopccnehgolnabDoor
