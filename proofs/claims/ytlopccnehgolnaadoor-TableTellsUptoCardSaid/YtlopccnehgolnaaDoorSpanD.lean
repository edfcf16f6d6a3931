
/- Contract of Norm, over the contract of the sort. -/
import Derived.Test.YtlopccnehgolnaaDoorSpanC
import Derived.Deep.DeepMust
namespace Go.Proofs.YtlopccnehgolnaaDoor
open Go.RowKit Rb

theorem el_Rg : ElemOf Tryd.prog rRg 38 43 := .mk' Tryd.underlying38 (z := .agg #[.int .i64 0, .int .i64 0]) (k := 2) (b := 16) (by kernel_rfl) rfl rfl rfl (by decide) (by decide)

theorem clip_snoc (l : List Rg) (r : Rg) : clip (l ++ [r]) = clip l ++ (if max r.1 (-MX) ≤ min r.2 MX then [(max r.1 (-MX), min r.2 MX)] else []) := by
  simp only [clip, List.map_append, List.filter_append, List.map_cons, List.map_nil]
  congr 1
  by_cases h : max r.1 (-MX) ≤ min r.2 MX <;> simp [h]
theorem clip_len (l : List Rg) : (clip l).length ≤ l.length := by
  unfold clip
  exact Nat.le_trans (List.length_filter_le _ _) (by simp)


theorem merge_snoc (l : List Rg) (r : Rg) : merge (l ++ [r]) = mstep (merge l) r := by simp [merge, List.foldl_append]
theorem merge_len (l : List Rg) : (merge l).length ≤ l.length := by
  have h : ∀ (l : List Rg) (out : List Rg), (l.foldl mstep out).length ≤ out.length + l.length := by
    intro l
    induction l with
    | nil => intro out; simp
    | cons r t ih =>
      intro out
      have h1 := ih (mstep out r)
      have h2 : (mstep out r).length ≤ out.length + 1 := by
        unfold mstep
        split
        · rename_i x hx
          have : out ≠ [] := fun e => by simp [e] at hx
          have := List.length_pos_iff.2 this
          split <;> simp <;> omega
        · simp
      simp only [List.foldl_cons, List.length_cons]
      omega
  have := h l []
  simpa [merge] using this

end Go.Proofs.YtlopccnehgolnaaDoor
