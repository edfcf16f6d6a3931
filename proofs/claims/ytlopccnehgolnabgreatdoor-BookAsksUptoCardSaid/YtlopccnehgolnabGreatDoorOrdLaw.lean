
/- The plain law of Order: all tables, each behind those that it hangs on. -/
import Derived.Test.YtlopccnehgolnabGreatDoorGrI
namespace Go.Proofs.YtlopccnehgolnabGreatDoor
open Go.RowKit Rb

structure OrdI (b : Bk) (out : List Txt) : Prop where
  nodup : out.Nodup
  each : ∀ (i : Nat) (n : Txt), out[i]? = some n → ∃ t ∈ b.tabs, t.name = n ∧ ∀ s ∈ t.ins, (findT b.tabs s).isSome = true → s ∈ out.take i

theorem OrdI.nil (b : Bk) : OrdI b [] := ⟨List.nodup_nil, fun i n h => by simp at h⟩
theorem OrdI.step {b : Bk} {out : List Txt} {t : Tb} (I : OrdI b out) (h : nextT b out = some t) : OrdI b (out ++ [t.name]) := by
  have hm := List.mem_of_find?_eq_some h
  have hp := List.find?_some h
  simp only [Bool.and_eq_true, Bool.not_eq_true', List.contains_eq_mem, decide_eq_false_iff_not] at hp
  obtain ⟨h1, h2⟩ := hp
  refine ⟨?_, fun i n hi => ?_⟩
  · rw [List.nodup_append]
    refine ⟨I.nodup, by simp, fun a ha b' hb' => ?_⟩
    rw [List.mem_singleton] at hb'
    rintro rfl
    exact h1 (hb' ▸ ha)
  · rcases Nat.lt_or_ge i out.length with hlt | hge
    · rw [List.getElem?_append_left hlt] at hi
      obtain ⟨t', ht', hn, hs⟩ := I.each i n hi
      refine ⟨t', ht', hn, fun s hs' hsm => ?_⟩
      rw [List.take_append_of_le_length (by omega)]
      exact hs s hs' hsm
    · have hil : i < (out ++ [t.name]).length := (List.getElem?_eq_some_iff.1 hi).1
      rw [List.length_append] at hil
      simp only [List.length_cons, List.length_nil] at hil
      have hie : i = out.length := by omega
      subst hie
      simp at hi
      refine ⟨t, hm, hi, fun s hs hsm => ?_⟩
      rw [List.take_append_of_le_length (Nat.le_refl _), List.take_length]
      unfold freeB at h2
      rw [Bool.not_eq_true', List.any_eq_false] at h2
      have := h2 s hs
      unfold hangs at this
      rw [hsm] at this
      simpa using this
theorem orderGo_I {b : Bk} : ∀ (n : Nat) {out l : List Txt}, OrdI b out → orderGo b n out = some l → OrdI b l ∧ l.length = out.length + n
  | 0, out, l, I, h => by
    simp only [orderGo, Option.some.injEq] at h
    subst h
    exact ⟨I, rfl⟩
  | n + 1, out, l, I, h => by
    rw [orderGo] at h
    cases hn : nextT b out with
    | none => rw [hn] at h; cases h
    | some t =>
      rw [hn] at h
      have := orderGo_I n (I.step hn) h
      refine ⟨this.1, ?_⟩
      rw [this.2, List.length_append]
      simp only [List.length_cons, List.length_nil]
      omega

theorem pigeon : ∀ {l m : List Txt}, l.Nodup → (∀ x ∈ l, x ∈ m) → m.length ≤ l.length → ∀ y ∈ m, y ∈ l
  | [], m, _, _, h, y, hy => by
    rw [List.length_nil] at h
    rw [List.eq_nil_of_length_eq_zero (show m.length = 0 by omega)] at hy
    exact hy
  | x :: l, m, hn, hs, h, y, hy => by
    rw [List.nodup_cons] at hn
    have hxm := hs x (by simp)
    by_cases hyx : y = x
    · simp [hyx]
    · have := pigeon (l := l) (m := m.erase x) hn.2 (fun z hz => (List.mem_erase_of_ne (show z ≠ x from fun e => hn.1 (by rw [← e]; exact hz))).2 (hs z (by simp [hz])))
        (by rw [List.length_erase_of_mem hxm]; simp only [List.length_cons] at h; omega) y ((List.mem_erase_of_ne hyx).2 hy)
      simp [this]

/-- Each table stands in its place in the order, behind all that it hangs on. -/
theorem order_law {b : Bk} {l : List Txt} (hd : ∀ t ∈ b.tabs, ∀ u ∈ b.tabs, t.name = u.name → t = u) (h : orderB b = some l) :
    l.Nodup ∧ l.length = b.tabs.length ∧ ∀ t ∈ b.tabs, ∃ i : Nat, l[i]? = some t.name ∧ ∀ s ∈ t.ins, (findT b.tabs s).isSome = true → ∃ j : Nat, j < i ∧ l[j]? = some s := by
  obtain ⟨I, hl⟩ := orderGo_I b.tabs.length (OrdI.nil b) h
  rw [List.length_nil, Nat.zero_add] at hl
  refine ⟨I.nodup, hl, fun t ht => ?_⟩
  have hin : t.name ∈ l := by
    refine pigeon (m := b.tabs.map (·.name)) I.nodup (fun x hx => ?_) (by rw [List.length_map, hl]; exact Nat.le_refl _) _ (List.mem_map.2 ⟨t, ht, rfl⟩)
    obtain ⟨i, hi, rfl⟩ := List.getElem_of_mem hx
    obtain ⟨t', ht', hn, _⟩ := I.each i _ (List.getElem?_eq_getElem hi)
    exact List.mem_map.2 ⟨t', ht', hn⟩
  obtain ⟨i, hi, he⟩ := List.getElem_of_mem hin
  have hi? : l[i]? = some t.name := by rw [List.getElem?_eq_getElem hi, he]
  obtain ⟨t', ht', hn, hs⟩ := I.each i _ hi?
  obtain rfl := hd t' ht' t ht hn
  refine ⟨i, hi?, fun s hs' hsm => ?_⟩
  have := hs s hs' hsm
  rw [List.mem_take_iff_getElem] at this
  obtain ⟨j, hj, rfl⟩ := this
  exact ⟨j, by omega, List.getElem?_eq_getElem (by omega)⟩

theorem names_inj {l : List Tb} (h : (l.map (·.name)).Nodup) : ∀ t ∈ l, ∀ u ∈ l, t.name = u.name → t = u := by
  induction l with
  | nil => intro t ht; cases ht
  | cons a l ih =>
    rw [List.map_cons, List.nodup_cons] at h
    intro t ht u hu e
    rcases List.mem_cons.1 ht with h1 | h1 <;> rcases List.mem_cons.1 hu with h2 | h2
    · rw [h1, h2]
    · rw [h1] at e
      exact absurd (List.mem_map.2 ⟨u, h2, e.symm⟩) h.1
    · rw [h2] at e
      exact absurd (List.mem_map.2 ⟨t, h1, e⟩) h.1
    · exact ih h.2 t h1 u h2 e
theorem nodup_at {l : List Txt} (h : l.Nodup) {i j : Nat} {s : Txt} (hi : l[i]? = some s) (hj : l[j]? = some s) : i = j := by
  rcases Nat.lt_trichotomy i j with hij | hij | hij
  · obtain ⟨h1, h2⟩ := List.getElem?_eq_some_iff.1 hi
    obtain ⟨h3, h4⟩ := List.getElem?_eq_some_iff.1 hj
    exact absurd (h2.trans h4.symm) (List.pairwise_iff_getElem.1 h i j h1 h3 hij)
  · exact hij
  · obtain ⟨h1, h2⟩ := List.getElem?_eq_some_iff.1 hi
    obtain ⟨h3, h4⟩ := List.getElem?_eq_some_iff.1 hj
    exact absurd (h4.trans h2.symm) (List.pairwise_iff_getElem.1 h j i h3 h1 hij)

end Go.Proofs.YtlopccnehgolnabGreatDoor
