
/- Contracts of the reference's edges. -/
import Derived.Test.YtlopccnehgolnabSpanD
import Derived.Test.YtlopccnehgolnabRefMath
import Derived.Deep.RegionHeld3
import Derived.Deep.RegionLaw
import Derived.BigRegion
namespace Go.Proofs.Ytlopccnehgolnab
open Go.RowKit Rb

def rInts : Rd (List Int) := rSl rInt
theorem el_Int : ElemOf Try.prog rInt 28 3 := .mk' Try.underlying28 (z := .int .i64 0) (k := 1) (b := 8) (by kernel_rfl) rfl rfl rfl (by decide) (by decide)

theorem Elems.int {w : World} {S : Nat → Prop} {A : Option Addr} {l : List Int} (h : Elems rInt w S A l) {i : Nat} (hi : i < l.length) : ∃ b off n, A = some ⟨b, off, none⟩ ∧ S b ∧ b < w.heap.size ∧ l[i]? = some n ∧ InI n ∧
    w.cell? ⟨b, off + i, none⟩ = some (.int .i64 n) := by
  obtain ⟨b, off, es, hA, hS, hb, ⟨rfl, h1⟩, hc⟩ := h i l[i] (List.getElem?_eq_getElem hi)
  refine ⟨b, off, l[i], hA, hS, hb, List.getElem?_eq_getElem hi, h1, ?_⟩
  have := hc 0 _ rfl
  simpa [rInt] using this

theorem setCell_one {w : World} {p : Nat} {t : TypeId} {v : Value} (h : w.heap[p]? = some (.cells #[v] t (0, 0))) (u : Value) : (w.setCell ⟨p, 0, none⟩ u).heap[p]? = some (.cells #[u] t (0, 0)) := by
  simp [World.setCell, Array.getElem?_modify, h]
theorem Own.setFlat {α : Type} {R : Rd α} {e : TypeId} {w : World} {base : Nat} {S0 : Nat → Prop} {v : Value} {xs : List α} (h : Own R e w base S0 v xs) (hF : Flat R) {a : Addr} (ha : a.block < base) (u : Value) :
    Own R e (w.setCell a u) base (fun _ => False) v xs := by
  obtain ⟨S, ⟨cells, h1, h2, h3, h4⟩, h5⟩ := h
  exact ⟨fun _ => False, ⟨cells, ownsRow_setCell_below h1 ha u, fun _ _ h => h, h3, fun i x hx => hF _ _ _ _ _ _ (h4 i x hx)⟩, fun _ h => h.elim⟩

theorem Own.cap {α : Type} {R : Rd α} {e : TypeId} {w : World} {base : Nat} {S0 : Nat → Prop} {v : Value} {xs : List α} (h : Own R e w base S0 v xs) {A : Option Addr} {n c : Nat} (hv : v = .slice A n c) : xs.length ≤ c ∧ c ≤ maxLen := by
  obtain ⟨S, ⟨cells, h1, _⟩, _⟩ := h
  rcases h1.2 with ⟨hn, h0⟩ | ⟨g, cap, cur, hv', hb, hh, hnc, hcm, _⟩
  · rw [hn] at hv; injection hv with _ _ hc; subst hc
    exact ⟨by omega, by decide⟩
  · rw [hv'] at hv; injection hv with _ _ hc; subst hc
    exact ⟨hnc, hcm⟩
theorem Elems.dropInt {w : World} {S : Nat → Prop} {b off : Nat} {xs : List Int} (h : Elems rInt w S (some ⟨b, off, none⟩) xs) (k : Nat) : Elems rInt w S (some ⟨b, off + k, none⟩) (xs.drop k) := by
  have h1 := h.drop k
  have hadd : (⟨b, off, none⟩ : Addr).add (k * rInt.k) = ⟨b, off + k, none⟩ := by
    rw [show rInt.k = 1 from rfl, Nat.mul_one]
    unfold Addr.add; split <;> simp_all
  rw [Option.map_some, hadd] at h1
  exact h1
theorem Elems.of_len0 {α : Type} {R : Rd α} {w : World} {S : Nat → Prop} {A : Option Addr} {xs : List α} (h : xs.length = 0) : Elems R w S A xs := by
  intro i x hx
  rw [List.eq_nil_of_length_eq_zero h] at hx
  simp at hx

/-- What 'add' leaves in the captured list. -/
theorem flat_Int : Flat rInt := fun _ _ _ _ _ _ h => h
def AddPost (w : World) (p : Nat) (v : Value) (l' : List Int) (e : Ending) (w' : World) : Prop :=
  e = .returned (.tuple #[]) ∧ ∃ v', w'.heap[p]? = some (.cells #[v'] 28 (0, 0)) ∧ Own rInt 3 w' (p + 1) (fun _ => False) v' l' ∧ Below p w w' ∧
    (∀ j, j < w.heap.size → j ≠ p → v.ownBlock ≠ some j → w'.heap[j]? = w.heap[j]?) ∧ (v'.ownBlock = v.ownBlock ∨ ∃ g, v'.ownBlock = some g ∧ w.heap.size ≤ g)
theorem ownBlock_slice (A : Option Addr) (n c : Nat) : (Value.slice A n c).ownBlock = A.map (·.block) := by cases A <;> rfl

end Go.Proofs.Ytlopccnehgolnab
