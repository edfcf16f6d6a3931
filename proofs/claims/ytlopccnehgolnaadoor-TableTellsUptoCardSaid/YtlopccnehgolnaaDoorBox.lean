
/- Boxes as data: lists of sets of ranges; what chapter 2 says of them. -/
import Derived.Test.YtlopccnehgolnaaDoorTabA
import Derived.Test.YtlopccnehgolnaaDoorPairMath
import Derived.Deep.DeepMust
namespace Go.Proofs.YtlopccnehgolnaaDoor
open Go.RowKit Rb

abbrev Bx := List (List Rg)
def rBx : Rd Bx := rSl (rSl rRg)

def goodSet (s : List Rg) : Bool := decide (0 < s.length) && isSet s
def goodBx (b : Bx) (n : Int) : Bool := b.all goodSet && (decide ((b.length : Int) = n) && (decide (0 ≤ n) && decide (n ≤ 3)))
def inBx : Bx → List Int → Bool
  | [], [] => true
  | s :: b, n :: ns => hasL s n && inBx b ns
  | _, _ => false
theorem inBx_len : ∀ {b : Bx} {ns : List Int}, inBx b ns = true → b.length = ns.length
  | [], [], _ => rfl
  | _ :: _, _ :: _, h => by
    simp only [inBx, Bool.and_eq_true] at h
    simp [inBx_len h.2]
  | [], _ :: _, h => by simp [inBx] at h
  | _ :: _, [], h => by simp [inBx] at h
theorem inBx_at {b : Bx} {ns : List Int} {k : Nat} {s : List Rg} {n : Int} (hc : b[k]? = some s) (hn : ns[k]? = some n) : inBx (b.drop k) (ns.drop k) = (hasL s n && inBx (b.drop (k + 1)) (ns.drop (k + 1))) := by
  rw [drop_cons hc, drop_cons hn]; rfl

theorem goodBx_iff {b : Bx} {n : Int} : goodBx b n = true ↔ (∀ s ∈ b, 0 < s.length ∧ GoodS s) ∧ (b.length : Int) = n ∧ n ≤ 3 := by
  unfold goodBx goodSet
  simp only [Bool.and_eq_true, List.all_eq_true, decide_eq_true_iff, isSet_iff]
  constructor
  · rintro ⟨h1, h2, h3, h4⟩; exact ⟨h1, h2, h4⟩
  · rintro ⟨h1, h2, h4⟩; exact ⟨h1, h2, by omega, h4⟩

section
variable {α : Type} {R : Rd α} {w : World} {S : Nat → Prop} {A : Option Addr}
theorem Elems.sl {l : List (List α)} (h : Elems (rSl R) w S A l) {i : Nat} (hi : i < l.length) : ∃ b off v x, A = some ⟨b, off, none⟩ ∧ S b ∧ b < w.heap.size ∧ l[i]? = some x ∧ (rSl R).rel w S [v] x ∧ w.cell? ⟨b, off + i, none⟩ = some v := by
  obtain ⟨b, off, es, hA, hS, hb, hr, hc⟩ := h i l[i] (List.getElem?_eq_getElem hi)
  obtain ⟨A1, c1, rfl, hr2⟩ := hr
  exact ⟨b, off, _, l[i], hA, hS, hb, List.getElem?_eq_getElem hi, ⟨A1, c1, rfl, hr2⟩, by have := hc 0 _ rfl; simpa [rSl] using this⟩
theorem rSl.lenle {α : Type} {R : Rd α} {v : Value} {l : List α} (h : (rSl R).rel w S [v] l) (hb : 8 ≤ R.bytes) : l.length ≤ 17592186044416 := by
  obtain ⟨_, _, _, _, _, h3, _⟩ := h
  have := Nat.mul_le_mul_left l.length hb
  omega
end

theorem Good_b {S : Nat → Prop} {v : Value} {l : List Rg} {b : Bool} (w : World) (hl : (rSl rRg).rel w S [v] l) (h : isSet l = b) :
    Calls Tryd.prog 22 #[v] w fun e w' => e = .returned (.bool b) ∧ Below w.heap.size w w' := h ▸ Good_any w hl

theorem IsSet_b {S : Nat → Prop} {v : Value} {l : List Rg} {b : Bool} (w : World) (hl : (rSl rRg).rel w S [v] l) (h : isSet l = b) :
    Calls Tryd.prog 24 #[v] w fun e w' => e = .returned (.bool b) ∧ Below w.heap.size w w' := h ▸ IsSet_any w hl

end Go.Proofs.YtlopccnehgolnaaDoor
