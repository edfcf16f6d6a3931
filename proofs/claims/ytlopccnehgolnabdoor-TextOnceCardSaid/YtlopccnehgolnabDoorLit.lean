
/- Literals, and raw cells. -/
import Derived.Test.YtlopccnehgolnabDoorTab
namespace Go.Proofs.YtlopccnehgolnabDoor
open Go.RowKit Rb

/-- A literal list, just laid. -/
theorem Rd.lit {α : Type} {R : Rd α} {w : World} {S : Nat → Prop} {xs : List α} {cells : List Value} {n m : Nat} (t : TypeId) (hn : w.heap.size = n) (hm : xs.length = m) (_hk : 0 < R.k) (hl : cells.length = m * R.k) (hb : m * R.bytes ≤ 140737488355328) (hx : m ≤ maxLen)
    (h : ∀ i x, xs[i]? = some x → R.rel w S ((cells.drop (i * R.k)).take R.k) x) : (rSl R).rel (w.alloc (.cells cells.toArray t)) (fun _ => True) [.slice (some ⟨n, 0, none⟩) m m] xs := by
  subst hn; subst hm
  refine ⟨_, _, rfl, Nat.le_refl _, hx, hb, fun i x hi => ⟨w.heap.size, 0, (cells.drop (i * R.k)).take R.k, rfl, trivial, by simp, R.mono (Rd.alloc (h i x hi) _) fun _ _ _ => trivial, fun j u hu => ?_⟩⟩
  rw [List.getElem?_take] at hu
  split at hu
  · rw [List.getElem?_drop] at hu
    rw [World.cell?_alloc_new]
    simpa using hu
  · cases hu
theorem Rd.lit1 {α : Type} {R : Rd α} {w : World} {S : Nat → Prop} {x : α} {cells : List Value} {n : Nat} (t : TypeId) (hn : w.heap.size = n) (hk : 0 < R.k) (hb : R.bytes ≤ 140737488355328)
    (h : R.rel w S cells x) : (rSl R).rel (w.alloc (.cells cells.toArray t)) (fun _ => True) [.slice (some ⟨n, 0, none⟩) 1 1] [x] := by
  have hl := R.len h
  refine Rd.lit (S := S) t hn rfl hk (by rw [hl]; omega) (by omega) (by decide) fun i y hy => ?_
  match i, hy with
  | 0, hy =>
    obtain rfl : x = y := by simpa using hy
    rw [Nat.zero_mul, List.drop_zero, List.take_of_length_le (by omega)]
    exact h
theorem Rd.lit2 {α : Type} {R : Rd α} {w : World} {S : Nat → Prop} {x y : α} {c1 c2 : List Value} {n : Nat} (t : TypeId) (hn : w.heap.size = n) (hk : 0 < R.k) (hb : 2 * R.bytes ≤ 140737488355328)
    (h : R.rel w S c1 x) (h' : R.rel w S c2 y) : (rSl R).rel (w.alloc (.cells (c1 ++ c2).toArray t)) (fun _ => True) [.slice (some ⟨n, 0, none⟩) 2 2] [x, y] := by
  have hl := R.len h
  have hl' := R.len h'
  refine Rd.lit (S := S) t hn rfl hk (by rw [List.length_append, hl, hl']; omega) hb (by decide) fun i z hz => ?_
  match i, hz with
  | 0, hz =>
    obtain rfl : x = z := by simpa using hz
    rw [Nat.zero_mul, List.drop_zero, List.take_append_of_le_length (by omega), List.take_of_length_le (by omega)]
    exact h
  | 1, hz =>
    obtain rfl : y = z := by simpa using hz
    rw [Nat.one_mul, ← hl, List.drop_left, List.take_of_length_le (by omega)]
    exact h'

/-- Cells as they stand, k of them. -/
def rRaw (k bytes : Nat) : Rd (List Value) where
  k := k
  bytes := bytes
  rel _ _ cs x := cs = x ∧ x.length = k ∧ ∀ u ∈ x, u.oneCell' = true
  len h := by rw [h.1]; exact h.2.1
  keep h _ := h
  mono h _ := h
  one h u hu := by rw [h.1] at hu; exact h.2.2 u hu
theorem flat_Raw (k b : Nat) : Flat (rRaw k b) := fun _ _ _ _ _ _ h => h

section
variable {α : Type} {R : Rd α} {w : World} {S : Nat → Prop} {A : Option Addr}
/-- The elements of a list, cell by cell. -/
theorem Elems.raw {l : List α} (h : Elems R w S A l) : ∃ raws : List (List Value), raws.length = l.length ∧ Elems (rRaw R.k R.bytes) w S A raws ∧ ∀ (i : Nat) p x, raws[i]? = some p → l[i]? = some x → R.rel w S p x := by
  have key : ∀ n, n ≤ l.length → ∃ raws : List (List Value), raws.length = n ∧ Elems (rRaw R.k R.bytes) w S A raws ∧ ∀ (i : Nat) p x, raws[i]? = some p → l[i]? = some x → R.rel w S p x := by
    intro n
    induction n with
    | zero => exact fun _ => ⟨[], rfl, fun i x hx => by simp at hx, fun i p x hp => by simp at hp⟩
    | succ n ih =>
      intro hn
      obtain ⟨raws, h1, h2, h3⟩ := ih (by omega)
      obtain ⟨b, off, es, hA, hS, hb, hr, hc⟩ := h n l[n] (List.getElem?_eq_getElem (by omega))
      refine ⟨raws ++ [es], by simp [h1], fun i x hx => ?_, fun i p x hp hx => ?_⟩
      · rcases Nat.lt_or_ge i raws.length with hi | hi
        · rw [List.getElem?_append_left hi] at hx
          exact h2 i x hx
        · have : i = n := by
            have := (List.getElem?_eq_some_iff.1 hx).1
            simp at this; omega
          subst this
          rw [← h1] at hx
          obtain rfl : es = x := by simpa using hx
          exact ⟨b, off, es, hA, hS, hb, ⟨rfl, R.len hr, R.one hr⟩, hc⟩
      · rcases Nat.lt_or_ge i raws.length with hi | hi
        · rw [List.getElem?_append_left hi] at hp
          exact h3 i p x hp hx
        · have : i = n := by
            have := (List.getElem?_eq_some_iff.1 hp).1
            simp at this; omega
          subst this
          rw [← h1] at hp
          obtain rfl : es = p := by simpa using hp
          rw [List.getElem?_eq_getElem (by omega)] at hx
          obtain rfl := Option.some.inj hx
          exact hr
  exact key l.length (Nat.le_refl _)
/-- And back. -/
theorem Elems.unraw {l : List α} {raws : List (List Value)} {T : Nat → Prop} (h : Elems (rRaw R.k R.bytes) w T A raws) (hl : raws.length = l.length) (hr : ∀ (i : Nat) p x, raws[i]? = some p → l[i]? = some x → R.rel w S p x) : Elems R w (fun b => S b ∨ T b) A l := by
  intro i x hx
  have hi : i < raws.length := by rw [hl]; exact (List.getElem?_eq_some_iff.1 hx).1
  obtain ⟨b, off, es, hA, hT, hb, ⟨rfl, _, _⟩, hc⟩ := h i raws[i] (List.getElem?_eq_getElem hi)
  exact ⟨b, off, raws[i], hA, .inr hT, hb, R.mono (hr i _ x (List.getElem?_eq_getElem hi) hx) (fun b hb _ => .inl hb), hc⟩
end
theorem grownC {w w' : World} {row : Option Nat} (hg : w.grownBy w' row) {q : Nat} (hq : q < w.heap.size) (hne : row ≠ some q) (o : Nat) :
    w'.cell? ⟨q, o, none⟩ = w.cell? ⟨q, o, none⟩ ∧ w'.frozen? ⟨q, o, none⟩ = w.frozen? ⟨q, o, none⟩ :=
  ⟨World.cell?_of_block (w := w) (hg.block q hq fun e => hne e.symm), World.frozen?_of_block (w := w) (hg.block q hq fun e => hne e.symm)⟩
theorem grownS (w : World) (p : Addr) (u : Value) : w.grownBy (w.setCell p u) (some p.block) :=
  ⟨rfl, rfl, rfl, by simp [World.setCell], fun k _ hne => Below.heap_setCell _ _ _ _ (fun e => hne (by rw [e]))⟩
theorem Own.keptF {α : Type} {R : Rd α} {e : TypeId} {w w' : World} {base : Nat} {S0 : Nat → Prop} {v : Value} {xs : List α} {row : Option Nat} (h : Own R e w base S0 v xs) (hF : Flat R) (hg : w.grownBy w' row) (hne : v.ownBlock = none ∨ v.ownBlock ≠ row) :
    Own R e w' base (fun _ => False) v xs := by
  obtain ⟨S, ⟨cells, h1, _, h3, h4⟩, _⟩ := h
  exact ⟨fun _ => False, ⟨cells, h1.kept hg hne, fun _ _ h => h, h3, fun i x hx => hF _ _ _ _ _ _ (h4 i x hx)⟩, fun _ h => h.elim⟩
/-- Both cells of a raw element of two written. -/
theorem Own.raw2 {e : TypeId} {w : World} {base g cap n : Nat} {v : Value} {raws : List (List Value)} {b : Nat} {S0 : Nat → Prop} (h : Own (rRaw 2 b) e w base S0 v raws) (hv : v = .slice (some ⟨g, 0, none⟩) n cap) {i : Nat} {x y u0 u1 : Value} (hx : raws[i]? = some [x, y]) (h0 : u0.oneCell' = true) (h1 : u1.oneCell' = true) :
    Own (rRaw 2 b) e ((w.setCell ⟨g, i * 2, none⟩ u0).setCell ⟨g, i * 2 + 1, none⟩ u1) base S0 v (raws.set i [u0, u1]) := by
  obtain ⟨hi, hx'⟩ := List.getElem?_eq_some_iff.1 hx
  obtain ⟨A, c, hv2⟩ := h.value
  rw [hv] at hv2
  injection hv2 with _ hn _
  subst hn
  have k1 := h.set (x' := [u0, y]) (u := u0) (j := 0) hv hi (by decide : 0 < 2) (fun es S hr => by
    rw [hx'] at hr
    obtain ⟨rfl, _, hc⟩ := hr
    exact ⟨rfl, rfl, fun u hu => by
      simp at hu
      rcases hu with rfl | rfl
      · exact h0
      · exact hc _ (by simp)⟩)
  have hl : (raws.set i [u0, y]).length = raws.length := by simp
  have k2 := k1.set (x' := [u0, u1]) (u := u1) (j := 1) (i := i) (by rw [hl]; exact hv) (by rw [hl]; exact hi) (by decide : 1 < 2) (fun es S hr => by
    rw [List.getElem_set_self] at hr
    obtain ⟨rfl, _, hc⟩ := hr
    exact ⟨rfl, rfl, fun u hu => by
      simp at hu
      rcases hu with rfl | rfl
      · exact hc _ (by simp)
      · exact h1⟩)
  rw [List.set_set] at k2
  exact k2
theorem set2_at {α : Type} {l : List α} {j i : Nat} {x y z : α} (hj : j + 1 < l.length) (h : ((l.set j x).set (j + 1) y)[i]? = some z) : (i = j + 1 ∧ z = y) ∨ (i = j ∧ z = x) ∨ (i ≠ j ∧ i ≠ j + 1 ∧ l[i]? = some z) := by
  rcases Nat.lt_trichotomy i j with hi | rfl | hi
  · rw [List.getElem?_set_ne (by omega), List.getElem?_set_ne (by omega)] at h
    exact .inr (.inr ⟨by omega, by omega, h⟩)
  · rw [List.getElem?_set_ne (by omega), List.getElem?_set_self (by omega)] at h
    exact .inr (.inl ⟨rfl, (Option.some.inj h).symm⟩)
  · by_cases h2 : i = j + 1
    · subst h2
      rw [List.getElem?_set_self (by simp; omega)] at h
      exact .inl ⟨rfl, (Option.some.inj h).symm⟩
    · rw [List.getElem?_set_ne (by omega), List.getElem?_set_ne (by omega)] at h
      exact .inr (.inr ⟨by omega, h2, h⟩)
end Go.Proofs.YtlopccnehgolnabDoor
