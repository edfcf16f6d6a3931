/- Contracts of the reference's NormOf and SizeOf. Contracts of the reference's BothOf and LessOf. -/
import Derived.Test.YtlopccnehgolnabGreatDoorGrL
import Derived.Test.YtlopccnehgolnabGreatDoorSort
import Derived.Test.YtlopccnehgolnabGreatDoorGrB
namespace Go.Proofs.YtlopccnehgolnabGreatDoor
open Go.RowKit Rb

theorem Elems.single {w : World} {S : Nat → Prop} {v : Value} {l : List Rg} (hl : rRgs.rel w S [v] l) (t : TypeId) : Elems rRgs (w.alloc (.cells #[v] t)) (fun _ => True) (some ⟨w.heap.size, 0, none⟩) [l] := by
  intro i x hx
  match i, hx with
  | 0, hx =>
    obtain rfl : l = x := by simpa using hx
    refine ⟨w.heap.size, 0, [v], rfl, trivial, by simp, rRgs.mono (Rd.alloc hl _) fun _ _ _ => trivial, fun j u hu => ?_⟩
    match j, hu with
    | 0, hu =>
      obtain rfl : v = u := by simpa using hu
      simp [rRgs, rSl]

/-- How many numbers a list of ranges has, if no two meet. -/
def sizeN (l : List Rg) : Int := l.foldl (fun n r => n + (r.2 - r.1 + 1)) 0
theorem sizeN_foldl (l : List Rg) (a : Int) : l.foldl (fun n r => n + (r.2 - r.1 + 1)) a = a + sizeN l := by
  unfold sizeN
  induction l generalizing a with
  | nil => simp
  | cons r t ih => simp only [List.foldl_cons]; rw [ih, ih (0 + _)]; omega
theorem sizeN_cons (r : Rg) (l : List Rg) : sizeN (r :: l) = (r.2 - r.1 + 1) + sizeN l := by
  show (r :: l).foldl _ 0 = _
  rw [List.foldl_cons, sizeN_foldl]; omega
theorem sizeN_bd : ∀ {l : List Rg} {a : Int}, GoodFrom a l → 0 ≤ sizeN l ∧ (a ≤ MX → sizeN l ≤ MX - a)
  | [], a, _ => by simp [sizeN]
  | r :: t, a, h => by
    obtain ⟨h1, h2, h3, h4, h5⟩ := h
    have h6 := sizeN_bd h5
    have h7 := h6.2 h2
    rw [sizeN_cons]
    omega
theorem GoodFrom.take : ∀ {l : List Rg} {a : Int} (k : Nat), GoodFrom a l → GoodFrom a (l.take k)
  | [], _, k, _ => by rw [List.take_nil]; trivial
  | r :: t, _, 0, _ => trivial
  | r :: t, _, k + 1, h => ⟨h.1, h.2.1, h.2.2.1, h.2.2.2.1, GoodFrom.take k h.2.2.2.2⟩
theorem sizeN_take {l : List Rg} (h : GoodS l) (k : Nat) : 0 ≤ sizeN (l.take k) ∧ sizeN (l.take k) ≤ 2000002 := by
  have h1 := sizeN_bd (GoodFrom.take k h)
  have h2 := h1.2 (by unfold MX; omega)
  unfold MX at h2
  exact ⟨h1.1, by omega⟩
theorem sizeN_snoc {l : List Rg} {k : Nat} {r : Rg} (h : l[k]? = some r) : sizeN (l.take (k + 1)) = sizeN (l.take k) + (r.2 - r.1 + 1) := by
  unfold sizeN; rw [foldl_take_succ h]
theorem GoodS_len {l : List Rg} (h : GoodS l) : l.length ≤ 2000002 := by
  have key : ∀ {l : List Rg} {a : Int}, GoodFrom a l → a ≤ MX → (l.length : Int) ≤ MX - a := by
    intro l
    induction l with
    | nil => intro a _ _; simp; omega
    | cons r t ih =>
      intro a h ha
      obtain ⟨h1, h2, h3, h4, h5⟩ := h
      have := ih h5 h2
      simp only [List.length_cons]
      omega
  have := key h (by unfold MX; omega)
  unfold MX at this
  omega


end Go.Proofs.YtlopccnehgolnabGreatDoor

namespace Go.Proofs.YtlopccnehgolnabGreatDoor
open Go.RowKit Rb


theorem Elems.pair {w : World} {S T : Nat → Prop} {v u : Value} {l m : List Rg} (hl : rRgs.rel w S [v] l) (hm : rRgs.rel w T [u] m) (t : TypeId) : Elems rRgs (w.alloc (.cells #[v, u] t)) (fun _ => True) (some ⟨w.heap.size, 0, none⟩) [l, m] := by
  intro i x hx
  match i, hx with
  | 0, hx =>
    obtain rfl : l = x := by simpa using hx
    refine ⟨w.heap.size, 0, [v], rfl, trivial, by simp, rRgs.mono (Rd.alloc hl _) fun _ _ _ => trivial, fun j y hu => ?_⟩
    match j, hu with
    | 0, hu =>
      obtain rfl : v = y := by simpa using hu
      simp [rRgs, rSl]
  | 1, hx =>
    obtain rfl : m = x := by simpa using hx
    refine ⟨w.heap.size, 0, [u], rfl, trivial, by simp, rRgs.mono (Rd.alloc hm _) fun _ _ _ => trivial, fun j y hu => ?_⟩
    match j, hu with
    | 0, hu =>
      obtain rfl : u = y := by simpa using hu
      simp [rRgs, rSl]


end Go.Proofs.YtlopccnehgolnabGreatDoor
