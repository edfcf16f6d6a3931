
/- Contract of the reference's edges. -/
import Derived.Test.YtlopccnehgolnabEdges
namespace Go.Proofs.Ytlopccnehgolnab
open Go.RowKit Rb

/-- The captured list, as the calls of 'add' leave it; block q is none of its own. -/
def EdgInv (w : World) (p : Nat) (l : List Int) (wr : World) : Prop :=
  (∃ v, wr.heap[p]? = some (.cells #[v] 28 (0, 0)) ∧ Own rInt 3 wr (p + 1) (fun _ => False) v l) ∧ Below p w wr ∧ IsE l ∧ p < wr.heap.size
theorem EdgInv.alloc {w : World} {p : Nat} {l : List Int} {wr : World} (h : EdgInv w p l wr) (o : Obj) : EdgInv w p l (wr.alloc o) := by
  obtain ⟨⟨v, h1, h2⟩, h3, h4, h5⟩ := h
  exact ⟨⟨v, (Below.heap_alloc wr o p h5).trans h1, h2.alloc o⟩, h3.alloc (Nat.le_of_lt h5) o, h4, by simp; omega⟩

theorem Elems.rgs {w : World} {S : Nat → Prop} {A : Option Addr} {ss : List (List Rg)} (h : Elems rRgs w S A ss) {i : Nat} (hi : i < ss.length) : ∃ b off A1 s c1, A = some ⟨b, off, none⟩ ∧ S b ∧ b < w.heap.size ∧ ss[i]? = some s ∧
    w.cell? ⟨b, off + i, none⟩ = some (.slice A1 s.length c1) ∧ s.length ≤ 8796093022208 ∧ Elems rRg w S A1 s := by
  obtain ⟨b, off, es, hA, hS, hb, hr, hc⟩ := h i ss[i] (List.getElem?_eq_getElem hi)
  obtain ⟨A1, c1, rfl, _, _, h3, h4⟩ := hr
  have hc0 := hc 0 _ rfl
  refine ⟨b, off, A1, ss[i], c1, hA, hS, hb, List.getElem?_eq_getElem hi, ?_, ?_, h4⟩
  · simpa [rRgs, rSl] using hc0
  · have : ss[i].length * 16 ≤ 140737488355328 := h3
    omega

theorem foldl_take_succ {α β : Type} {f : β → α → β} {b : β} {l : List α} {k : Nat} {x : α} (h : l[k]? = some x) : (l.take (k + 1)).foldl f b = f ((l.take k).foldl f b) x := by
  rw [take_getElem? h, List.foldl_append]; rfl

end Go.Proofs.Ytlopccnehgolnab
