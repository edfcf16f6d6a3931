
/- BoxSplits returns true, for every two boxes and every input. No condition. -/
import Derived.Test.YtlopccnehgolnabDoorBoxF
namespace Go.Proofs.YtlopccnehgolnabDoor
open Go.RowKit Rb

theorem BGood_b {S : Nat → Prop} {v : Value} {b : Bx} {n : Int} {r : Bool} (w : World) (hl : rBx.rel w S [v] b) (h : goodBx b n = r) :
    Calls Tryd.prog 34 #[v, .int .i64 n] w fun e w' => e = .returned (.bool r) ∧ Below w.heap.size w w' := h ▸ BGood_any n w hl
theorem lessB_good {a b : Bx} (ha : goodBx a (a.length : Int) = true) (hb : goodBx b (a.length : Int) = true) : ∀ x ∈ lessB a b, Sets x ∧ x.length = a.length := by
  intro x hx
  obtain ⟨h1, _, h3⟩ := goodBx_iff.1 ha
  obtain ⟨h4, h5, _⟩ := goodBx_iff.1 hb
  unfold lessB at hx
  rw [ha, hb] at hx
  have := lessGo_sets (pre := []) (fun y hy => by simp at hy) h1 x (by simpa using hx)
  exact ⟨this.1, by have := this.2 (by omega); simpa using this⟩
theorem inBx_no {x : Bx} {ns : List Int} (h : x.length ≠ ns.length) : inBx x ns = false := hasBx_no h
theorem lessB_count {a b : Bx} (ha : goodBx a (a.length : Int) = true) (hb : goodBx b (a.length : Int) = true) (ns : List Int) : cntIn (lessB a b) ns = if inBx a ns && !inBx b ns then 1 else 0 := by
  obtain ⟨h1, _, h3⟩ := goodBx_iff.1 ha
  obtain ⟨h4, h5, _⟩ := goodBx_iff.1 hb
  by_cases hl : a.length = ns.length
  · have := lessGo_count (pre := []) (ms := []) (ns := ns) h1 h4 (by omega) hl rfl
    unfold lessB
    rw [ha, hb]
    simpa [inBx] using this
  · have hz : cntIn (lessB a b) ns = 0 := by
      unfold cntIn
      rw [List.length_eq_zero_iff, List.filter_eq_nil_iff]
      intro x hx
      rw [inBx_no (by rw [(lessB_good ha hb x hx).2]; exact hl)]
      simp
    rw [hz, inBx_no hl]; rfl
theorem lessB_sum {a b : Bx} (ha : goodBx a (a.length : Int) = true) (hb : goodBx b (a.length : Int) = true) : sumSz (lessB a b) + (if someBx (bothBx a b) then sizeBx (optBx (bothBx a b)) else 0) = sizeBx a := by
  obtain ⟨h1, _, h3⟩ := goodBx_iff.1 ha
  obtain ⟨h4, h5, _⟩ := goodBx_iff.1 hb
  have hs := lessGo_size (a := a) (b := b) (pre := []) h1 (by omega)
  have hz := zipBoth_size a b
  have hg := lessB_good ha hb
  rw [sumSz_of fun x hx => ⟨(hg x hx).1, by have := (hg x hx).2; omega⟩, sizeBx_of h1 (by omega)]
  have hlb : lessB a b = lessGo [] a b := by unfold lessB; rw [ha, hb]; rfl
  have hbb : bothBx a b = zipBoth a b := by unfold bothBx; rw [ha, hb]; rfl
  rw [hlb, hbb]
  simp only [prodS, Int.one_mul] at hs
  rw [← hs, ← hz.1]
  cases hc : zipBoth a b with
  | none => simp [someBx]
  | some x =>
    have := hz.2 x hc
    simp only [someBx, optBx, if_true]
    rw [sizeBx_of this.1 (by have := this.2 (by omega); omega)]

end Go.Proofs.YtlopccnehgolnabDoor
