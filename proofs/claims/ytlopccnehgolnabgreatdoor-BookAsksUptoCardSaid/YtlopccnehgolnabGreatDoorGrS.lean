/- When the tables can be ordered: when none hangs on itself. Plain, no program. The contract of the reference's OrderOf: the order of the tables, or that there is none. -/
import Derived.Test.YtlopccnehgolnabGreatDoorOrdLaw
import Derived.Test.YtlopccnehgolnabGreatDoorGrH
namespace Go.Proofs.YtlopccnehgolnabGreatDoor
open Go.RowKit Rb

theorem nodup_le : ∀ {l m : List Txt}, l.Nodup → (∀ x ∈ l, x ∈ m) → l.length ≤ m.length
  | [], _, _, _ => Nat.zero_le _
  | x :: l, m, hn, hs => by
    rw [List.nodup_cons] at hn
    have hxm := hs x (by simp)
    have := nodup_le (l := l) (m := m.erase x) hn.2 (fun z hz => (List.mem_erase_of_ne (show z ≠ x from fun e => hn.1 (by rw [← e]; exact hz))).2 (hs z (by simp [hz])))
    rw [List.length_erase_of_mem hxm] at this
    have h0 := List.length_pos_of_mem hxm
    simp only [List.length_cons]
    omega

theorem findT_of {b : Bk} (hd : ∀ t ∈ b.tabs, ∀ u ∈ b.tabs, t.name = u.name → t = u) {t : Tb} (ht : t ∈ b.tabs) : findT b.tabs t.name = some t := by
  unfold findT
  cases h : b.tabs.find? (fun u => u.name == t.name) with
  | none =>
    rw [List.find?_eq_none] at h
    exact absurd (show (t.name == t.name) = true from beq_self_eq_true t.name) (h t ht)
  | some u =>
    have h1 := List.find?_some h
    have h2 := List.mem_of_find?_eq_some h
    rw [hd u h2 t ht (by simpa using h1)]
theorem findT_mem {l : List Tb} {s : Txt} {t : Tb} (h : findT l s = some t) : t ∈ l ∧ t.name = s := ⟨List.mem_of_find?_eq_some h, by simpa using List.find?_some h⟩
theorem nodup_inj {b : Bk} (hn : (b.tabs.map (·.name)).Nodup) : ∀ t ∈ b.tabs, ∀ u ∈ b.tabs, t.name = u.name → t = u := by
  generalize b.tabs = l at hn
  induction l with
  | nil => intro t ht; cases ht
  | cons x l ih =>
    rw [List.map_cons, List.nodup_cons] at hn
    intro t ht u hu e
    rcases List.mem_cons.1 ht with h1 | h1
    · rcases List.mem_cons.1 hu with h2 | h2
      · rw [h1, h2]
      · exact (hn.1 (List.mem_map.2 ⟨u, h2, by rw [← e, h1]⟩)).elim
    · rcases List.mem_cons.1 hu with h2 | h2
      · exact (hn.1 (List.mem_map.2 ⟨t, h1, by rw [e, h2]⟩)).elim
      · exact ih hn.2 t h1 u h2 e

def Dep (b : Bk) (a s : Txt) : Prop := s ∈ (tbOf (findT b.tabs a)).ins ∧ (findT b.tabs s).isSome = true
theorem hangs_dep {b : Bk} {a on : Txt} (n : Nat) (h : Dep b a on) : hangsN b n a on = true := by
  cases n <;> unfold hangsN <;> rw [List.any_eq_true] <;> exact ⟨on, h.1, by simp [h.2]⟩
theorem hangs_step {b : Bk} {a s on : Txt} {n : Nat} (h : Dep b a s) (h2 : hangsN b n s on = true) : hangsN b (n + 1) a on = true := by
  unfold hangsN
  rw [List.any_eq_true]
  exact ⟨s, h.1, by simp [h.2, h2]⟩

/-- In an order nothing hangs on itself. -/
theorem hangs_less {b : Bk} {l : List Txt} (hn : l.Nodup) (hl : ∀ t ∈ b.tabs, ∃ i : Nat, l[i]? = some t.name ∧ ∀ s ∈ t.ins, (findT b.tabs s).isSome = true → ∃ j : Nat, j < i ∧ l[j]? = some s) :
    ∀ (n : Nat) (a on : Txt) (i : Nat), hangsN b n a on = true → l[i]? = some a → ∃ j, j < i ∧ l[j]? = some on := by
  have key : ∀ (a s : Txt) (i : Nat), s ∈ (tbOf (findT b.tabs a)).ins → (findT b.tabs s).isSome = true → l[i]? = some a → ∃ j, j < i ∧ l[j]? = some s := by
    intro a s i h1 h2 hi
    cases ha : findT b.tabs a with
    | none => rw [ha] at h1; cases h1
    | some t =>
      rw [ha] at h1
      obtain ⟨ht, hta⟩ := findT_mem ha
      obtain ⟨i', hi', hs⟩ := hl t ht
      obtain ⟨j, hj, hjs⟩ := hs s h1 h2
      rw [hta] at hi'
      have : i' = i := by
        obtain ⟨h3, h4⟩ := List.getElem?_eq_some_iff.1 hi
        obtain ⟨h5, h6⟩ := List.getElem?_eq_some_iff.1 hi'
        exact (List.getElem_inj hn).1 (h6.trans h4.symm)
      exact ⟨j, by omega, hjs⟩
  intro n
  induction n with
  | zero =>
    intro a on i h hi
    unfold hangsN at h
    rw [List.any_eq_true] at h
    obtain ⟨s, hs, h⟩ := h
    rw [Bool.and_eq_true] at h
    obtain rfl : s = on := by simpa using h.2
    exact key a s i hs h.1 hi
  | succ n ih =>
    intro a on i h hi
    unfold hangsN at h
    rw [List.any_eq_true] at h
    obtain ⟨s, hs, h⟩ := h
    rw [Bool.and_eq_true, Bool.or_eq_true] at h
    obtain ⟨h1, h2⟩ := h
    obtain ⟨j, hj, hjs⟩ := key a s i hs h1 hi
    rcases h2 with h2 | h2
    · obtain rfl : s = on := by simpa using h2
      exact ⟨j, hj, hjs⟩
    · obtain ⟨j', hj', h3⟩ := ih s on j h2 hjs
      exact ⟨j', by omega, h3⟩

theorem orderGo_none {b : Bk} : ∀ (n : Nat) {out : List Txt}, OrdI b out → orderGo b n out = none → ∃ out', OrdI b out' ∧ out'.length < out.length + n ∧ nextT b out' = none
  | 0, out, I, h => by simp [orderGo] at h
  | n + 1, out, I, h => by
    rw [orderGo] at h
    cases hn : nextT b out with
    | none => exact ⟨out, I, by omega, hn⟩
    | some t =>
      rw [hn] at h
      obtain ⟨out', h1, h2, h3⟩ := orderGo_none n (I.step hn) h
      rw [List.length_append] at h2
      simp only [List.length_cons, List.length_nil] at h2
      exact ⟨out', h1, by omega, h3⟩

/-- Where no table can be next, one hangs on itself. -/
theorem ring_of {b : Bk} {out : List Txt} (hn : (b.tabs.map (·.name)).Nodup) (h4 : b.tabs.length ≤ 4) (hlt : out.length < b.tabs.length) (h : nextT b out = none) : ∃ t ∈ b.tabs, hangsN b 4 t.name t.name = true := by
  have hd := nodup_inj hn
  unfold nextT at h
  rw [List.find?_eq_none] at h
  have hstep : ∀ x : Txt, x ∈ b.tabs.map (·.name) ∧ x ∉ out → ∃ y : Txt, Dep b x y ∧ y ∈ b.tabs.map (·.name) ∧ y ∉ out := by
    rintro x ⟨hx, hxo⟩
    obtain ⟨t, ht, rfl⟩ := List.mem_map.1 hx
    have h1 := h t ht
    rw [Bool.and_eq_true, not_and] at h1
    have h2 := h1 (by simpa using hxo)
    unfold freeB at h2
    rw [Bool.not_eq_true, Bool.not_eq_false', List.any_eq_true] at h2
    obtain ⟨s, hs, h3⟩ := h2
    unfold Go.Proofs.YtlopccnehgolnabGreatDoor.hangs at h3
    rw [Bool.and_eq_true] at h3
    refine ⟨s, ⟨?_, h3.1⟩, ?_, by simpa using h3.2⟩
    · rw [findT_of hd ht]; exact hs
    · obtain ⟨u, hu⟩ := Option.isSome_iff_exists.1 h3.1
      obtain ⟨h5, h6⟩ := findT_mem hu
      exact List.mem_map.2 ⟨u, h5, h6⟩
  obtain ⟨x0, hx0⟩ : ∃ x, x ∈ b.tabs.map (·.name) ∧ x ∉ out := by
    rcases Classical.em (∃ x, x ∈ b.tabs.map (·.name) ∧ x ∉ out) with h | h
    · exact h
    · exfalso
      have := nodup_le hn (m := out) fun x hx => by
        rcases Classical.em (x ∈ out) with h1 | h1
        · exact h1
        · exact absurd ⟨x, hx, h1⟩ h
      rw [List.length_map] at this
      omega
  obtain ⟨x1, d1, hx1⟩ := hstep x0 hx0
  obtain ⟨x2, d2, hx2⟩ := hstep x1 hx1
  obtain ⟨x3, d3, hx3⟩ := hstep x2 hx2
  obtain ⟨x4, d4, hx4⟩ := hstep x3 hx3
  have fin : ∀ x, x ∈ b.tabs.map (·.name) → hangsN b 4 x x = true → ∃ t ∈ b.tabs, hangsN b 4 t.name t.name = true := by
    intro x hx hh
    obtain ⟨t, ht, rfl⟩ := List.mem_map.1 hx
    exact ⟨t, ht, hh⟩
  by_cases e12 : x1 = x2
  · subst e12; exact fin _ hx1.1 (hangs_dep 4 d2)
  by_cases e23 : x2 = x3
  · subst e23; exact fin _ hx2.1 (hangs_dep 4 d3)
  by_cases e34 : x3 = x4
  · subst e34; exact fin _ hx3.1 (hangs_dep 4 d4)
  by_cases e13 : x1 = x3
  · subst e13; exact fin _ hx1.1 (hangs_step d2 (hangs_dep 3 d3))
  by_cases e24 : x2 = x4
  · subst e24; exact fin _ hx2.1 (hangs_step d3 (hangs_dep 3 d4))
  by_cases e14 : x1 = x4
  · subst e14; exact fin _ hx1.1 (hangs_step d2 (hangs_step d3 (hangs_dep 2 d4)))
  have hnd : [x1, x2, x3, x4].Nodup := by simp [e12, e23, e34, e13, e24, e14]
  have hin := pigeon (m := b.tabs.map (·.name)) hnd (fun x hx => by
    simp only [List.mem_cons, List.not_mem_nil, or_false] at hx
    rcases hx with rfl | rfl | rfl | rfl
    · exact hx1.1
    · exact hx2.1
    · exact hx3.1
    · exact hx4.1) (by rw [List.length_map]; exact h4) x0 hx0.1
  simp only [List.mem_cons, List.not_mem_nil, or_false] at hin
  rcases hin with e | e | e | e
  · exact fin _ hx0.1 (hangs_dep 4 (e ▸ d1))
  · subst e; exact fin _ hx0.1 (hangs_step d1 (hangs_dep 3 d2))
  · subst e; exact fin _ hx0.1 (hangs_step d1 (hangs_step d2 (hangs_dep 2 d3)))
  · subst e; exact fin _ hx0.1 (hangs_step d1 (hangs_step d2 (hangs_step d3 (hangs_dep 1 d4))))

theorem order_hangs {b : Bk} (hn : (b.tabs.map (·.name)).Nodup) (h4 : b.tabs.length ≤ 4) : (orderB b).isSome = !(b.tabs.any fun t => hangsN b 4 t.name t.name) := by
  have hd := nodup_inj hn
  cases ho : orderB b with
  | some l =>
    obtain ⟨h1, h2, h3⟩ := order_law hd ho
    have : (b.tabs.any fun t => hangsN b 4 t.name t.name) = false := by
      rw [List.any_eq_false]
      intro t ht hh
      obtain ⟨i, hi, _⟩ := h3 t ht
      obtain ⟨j, hj, hjs⟩ := hangs_less h1 h3 4 t.name t.name i hh hi
      obtain ⟨a1, a2⟩ := List.getElem?_eq_some_iff.1 hi
      obtain ⟨a3, a4⟩ := List.getElem?_eq_some_iff.1 hjs
      have := (List.getElem_inj h1).1 (a4.trans a2.symm)
      omega
    rw [this]; rfl
  | none =>
    obtain ⟨out, I, hlt, hnx⟩ := orderGo_none b.tabs.length (OrdI.nil b) ho
    obtain ⟨t, ht, hh⟩ := ring_of hn h4 (by simpa using hlt) hnx
    have : (b.tabs.any fun t => hangsN b 4 t.name t.name) = true := List.any_eq_true.2 ⟨t, ht, hh⟩
    rw [this]; rfl

end Go.Proofs.YtlopccnehgolnabGreatDoor

namespace Go.Proofs.YtlopccnehgolnabGreatDoor
open Go.RowKit Rb

/-- What stands first in the order, as a text. -/
def bestN (o : Option Tb) : Txt := match o with | some t => t.name | none => []
theorem find_take {α : Type} {p : α → Bool} {l : List α} {k : Nat} {x : α} (h : l[k]? = some x) : (l.take (k + 1)).find? p = ((l.take k).find? p).or (if p x then some x else none) := by
  rw [List.take_add_one, h, Option.toList_some, List.find?_append, List.find?_cons]
  cases p x <;> rfl
theorem all_takeO {α : Type} {p : α → Bool} {l : List α} {k : Nat} {x : α} (h : l[k]? = some x) : (l.take (k + 1)).all p = ((l.take k).all p && p x) := by
  rw [List.take_add_one, h, Option.toList_some, List.all_append]
  simp
theorem freeB_all (b : Bk) (t : Tb) (out : List Txt) : freeB b t out = t.ins.all fun s => !(findT b.tabs s).isSome || out.contains s := by
  unfold freeB Go.Proofs.YtlopccnehgolnabGreatDoor.hangs
  induction t.ins with
  | nil => rfl
  | cons x l ih =>
    rw [List.any_cons, List.all_cons, Bool.not_or, ih]
    congr 1
    cases (findT b.tabs x).isSome <;> simp

theorem flat_StrO : Flat rStr := fun _ _ _ _ _ _ h => h
theorem seen_snoc {out : List Txt} {s : Txt} {f : Txt → Option Value} (hf : ∀ x, f x = if out.contains x then some (.bool true) else none) (x : Txt) : putM f s (.bool true) x = if (out ++ [s]).contains x then some (.bool true) else none := by
  unfold putM
  rw [hf]
  by_cases hx : x = s
  · simp [hx]
  · have : (out ++ [s]).contains x = out.contains x := by rw [Bool.eq_iff_iff]; simp [hx]
    rw [if_neg hx, this]

set_option maxRecDepth 100000 in
set_option maxHeartbeats 3200000 in
theorem OrderOf_any {S : Nat → Prop} {cs : List Value} {b : Bk} (w : World) (hl : rBk.rel w S cs b) (hn : (b.tabs.map (·.name)).Nodup) (h4 : b.tabs.length ≤ 4) (hne : ∀ t ∈ b.tabs, t.name ≠ []) :
    Calls Tryz.prog 35 #[.agg cs.toArray] w fun e w' => ∃ z S', e = .returned (.tuple #[z, .bool (orderB b).isSome]) ∧ (rSl rStr).rel w' S' [z] ((orderB b).getD []) ∧ Below w.heap.size w w' := by
  have hl0 := hl
  obtain ⟨v, u, rfl, hd, ht⟩ := hl
  obtain ⟨A, c, rfl, _⟩ := rSl.elems hd
  obtain ⟨B, d, rfl, _, _, hbt, hF⟩ := rSl.elems ht
  obtain ⟨W0, e0, HB0, HK, c0, c1, hs0⟩ : ∃ W0, w.alloc (.cells #[.slice A b.doms.length c, .slice B b.tabs.length d] 33) = W0 ∧ Hid (Below w.heap.size w W0) ∧ Hid (rBk.rel W0 S [.slice A b.doms.length c, .slice B b.tabs.length d] b) ∧ W0.cell? ⟨w.heap.size, 0, none⟩ = some (.slice A b.doms.length c) ∧ W0.cell? ⟨w.heap.size, 1, none⟩ = some (.slice B b.tabs.length d) ∧ w.heap.size < W0.heap.size :=
    ⟨_, rfl, Lib.hid ((Below.refl _ _).alloc (Nat.le_refl _) _), Lib.hid (Rd.alloc hl0 _), World.cell?_alloc_new _ _ _ _, World.cell?_alloc_new _ _ _ _, by simp⟩
  have HF := Lib.hid hF
  have HS0 := Lib.hid hs0
  have HC0 := Lib.hid c0
  have HC1 := Lib.hid c1
  have HOH := Lib.hid (order_hangs hn h4)
  have HNE := Lib.hid hne
  obtain ⟨p, hp⟩ : ∃ p : Tb → Bool, p = fun t => hangsN b 4 t.name t.name := ⟨_, rfl⟩
  have HP := Lib.hid hp
  rw [← hp] at HOH
  clear hl0 hd ht hF hs0 hn hne hp hbt
  go_enter Tryz.func35, Tryz.ntmps35
  go_wp2
  clear e0
  go_loopw [19] (fun i wr => ∃ k : Nat, k ≤ b.tabs.length ∧ i = .int .i64 k ∧ Hid (b.tabs.any p = (b.tabs.drop k).any p) ∧ Hid (Below W0.heap.size W0 wr)) (fun i _ => b.tabs.length - (intOf i).toNat)
  case atStart => exact ⟨0, Nat.zero_le _, rfl, Lib.hid rfl, Lib.hid (Below.refl _ _)⟩
  case round =>
    clear c0 c1
    obtain ⟨k, hk, rfl, HI, HB⟩ := hrel
    have HBR : Hid (Below w.heap.size w wr) := Lib.hid (HB0.out.trans (HB.out.mono HB0.out.size))
    have d0 := (HB.out.cell (p := ⟨w.heap.size, 0, none⟩) HS0.out).trans HC0.out
    have d1 := (HB.out.cell (p := ⟨w.heap.size, 1, none⟩) HS0.out).trans HC1.out
    by_cases hlt : k < b.tabs.length
    · obtain ⟨bB, off, t, A1, c1', A2, c2', rfl, hbB, hx, hr, g0, g1, g2, g3, g4⟩ := HF.out.tb hlt
      rw [← HBR.out.cell (p := ⟨bB, _, none⟩) hbB] at g0 g1 g2 g3 g4
      have hik : (k : Int) < (b.tabs.length : Int) := by omega
      have hxl : t.name.length ≤ 140737488355328 := by obtain ⟨_, _, _, h, _⟩ := hr; exact h
      obtain ⟨W3, e3, HB3, j0, q0, q1⟩ : ∃ W3, wr.alloc (.cells #[.string ⟨t.name.toArray⟩, .int .i64 t.pol, .bool t.comp, .slice A1 t.ins.length c1', .slice A2 t.rules.length c2'] 42) = W3 ∧ Hid (Below W0.heap.size W0 W3) ∧ W3.cell? ⟨wr.heap.size, 0, none⟩ = some (.string ⟨t.name.toArray⟩) ∧ W3.cell? ⟨w.heap.size, 0, none⟩ = some (.slice A b.doms.length c) ∧ W3.cell? ⟨w.heap.size, 1, none⟩ = some (.slice (some ⟨bB, off, none⟩) b.tabs.length d) :=
        ⟨_, rfl, Lib.hid (HB.out.alloc HB.out.size _), World.cell?_alloc_new _ _ _ _, ((HB.out.alloc HB.out.size _).cell (p := ⟨w.heap.size, 0, none⟩) HS0.out).trans HC0.out, ((HB.out.alloc HB.out.size _).cell (p := ⟨w.heap.size, 1, none⟩) HS0.out).trans HC1.out⟩
      have HCA : Hid (Calls Tryz.prog 77 #[.agg #[.slice A b.doms.length c, .slice (some ⟨bB, off, none⟩) b.tabs.length d], .string ⟨t.name.toArray⟩, .string ⟨t.name.toArray⟩, .int .i64 4] W3 fun e w' => e = .returned (.bool (hangsN b 4 t.name t.name)) ∧ Below W3.heap.size W3 w') := Lib.hid (hangs_any 4 t.name t.name W3 (by decide) (Rd.below HK.out HB3.out) hxl hxl)
      have HAT := Lib.hid (any_at (p := p) hx)
      cases hh : hangsN b 4 t.name t.name
      · rw [hh] at HCA
        have HN : Hid (b.tabs.any p = (b.tabs.drop (k + 1)).any p) := Lib.hid (by rw [HI.out, HAT.out, show p t = false by rw [HP.out]; exact hh]; rfl)
        clear hh hx hr
        go_wp2_with (first | (go_at_call 77; go_must ((with_reducible refine HCA.out.mono ?_); rintro e w4 ⟨rfl, hb4⟩)))
        go_roundw
        case rel => exact ⟨k + 1, by omega, by go_num, HN, Lib.hid (HB3.out.trans (hb4.mono HB3.out.size))⟩
        case measure => simp [intOf]; omega
      · rw [hh] at HCA
        have HN : Hid (orderB b = none) := Lib.hid (by
          have h : b.tabs.any p = true := by rw [HI.out, HAT.out, show p t = true by rw [HP.out]; exact hh]; rfl
          have h2 := HOH.out
          rw [h] at h2
          cases ho : orderB b with
          | none => rfl
          | some l => rw [ho] at h2; cases h2)
        clear hh hx hr
        go_wp2_with (first | (go_at_call 77; go_must ((with_reducible refine HCA.out.mono ?_); rintro e w4 ⟨rfl, hb4⟩)))
        go_ret2
        exact ⟨_, fun _ => True, by rw [HN.out]; rfl, by rw [HN.out]; exact ⟨none, 0, rfl, Nat.le_refl _, by decide, by simp, fun i x hx => by simp at hx⟩, HB0.out.trans ((HB3.out.trans (hb4.mono HB3.out.size)).mono HB0.out.size)⟩
    · obtain ⟨l, hol⟩ : ∃ l, orderB b = some l := by
        have h : b.tabs.any p = false := by rw [HI.out, List.drop_eq_nil_of_le (show b.tabs.length ≤ k by omega)]; rfl
        have h2 := HOH.out
        rw [h] at h2
        exact Option.isSome_iff_exists.1 h2
      have HO := Lib.hid hol
      clear hol HI
      obtain ⟨WN, eN, HBN, HN0, n0, n1⟩ : ∃ WN, wr.alloc (.map #[] 0) = WN ∧ Hid (Below W0.heap.size W0 WN) ∧ Hid (SMap Tryz.prog 9 WN wr.heap.size 0 fun _ => none) ∧ WN.cell? ⟨w.heap.size, 0, none⟩ = some (.slice A b.doms.length c) ∧ WN.cell? ⟨w.heap.size, 1, none⟩ = some (.slice B b.tabs.length d) :=
        ⟨_, rfl, Lib.hid (HB.out.alloc HB.out.size _), Lib.hid (SMap.made _ _ _), ((HB.out.alloc HB.out.size _).cell (p := ⟨w.heap.size, 0, none⟩) HS0.out).trans HC0.out, ((HB.out.alloc HB.out.size _).cell (p := ⟨w.heap.size, 1, none⟩) HS0.out).trans HC1.out⟩
      have hmm := @run_makeMap Tryz.prog
      go_wp2
      clear hmm eN n0 n1 d0 d1
      generalize hmb : wr.heap.size = mb at *
      have Hmb : Hid (W0.heap.size ≤ mb) := Lib.hid (by rw [← hmb]; exact HB.out.size)
      have HWN : Hid (mb + 1 ≤ WN.heap.size) := Lib.hid HN0.out.lt
      clear hmb HB HBR hk
      go_loopw [6] (fun o wq => ∃ (out : List Txt) (n m : Nat) (f : Txt → Option Value), Hid (Own rStr 9 wq (mb + 1) (fun _ => False) o out) ∧ Hid (out.length + n = b.tabs.length) ∧ Hid (orderGo b n out = some l) ∧ Hid (SMap Tryz.prog 9 wq mb m f) ∧ Hid (m ≤ out.length) ∧ Hid (∀ s, f s = if out.contains s then some (.bool true) else none) ∧ Hid (Below W0.heap.size W0 wq)) (fun o _ => b.tabs.length - lenV o)
      case atStart => exact ⟨[], b.tabs.length, 0, _, Lib.hid (Own.nil _ _ _ _ _), Lib.hid (by simp), HO, HN0, Lib.hid (Nat.le_refl _), Lib.hid (fun s => by simp), HBN⟩
      case round =>
        clear HN0 HBN HWN
        obtain ⟨out, n, m, f, HOW, HN, HG, HM, Hm, Hf, HBq⟩ := hrel
        obtain ⟨wq, hwq⟩ : ∃ x, x = wr := ⟨_, rfl⟩
        subst hwq
        obtain ⟨Ao, co, rfl⟩ := HOW.out.value
        have HBQW : Hid (Below w.heap.size w wq) := Lib.hid (HB0.out.trans (HBq.out.mono HB0.out.size))
        have d1 := (HBq.out.cell (p := ⟨w.heap.size, 1, none⟩) HS0.out).trans HC1.out
        by_cases hlt : out.length < b.tabs.length
        case neg =>
          have hge : ¬ (out.length : Int) < (b.tabs.length : Int) := by omega
          have HL : Hid (l = out) := Lib.hid (by
            have h1 := HN.out
            have h2 := HG.out
            obtain rfl : n = 0 := by omega
            exact (Option.some.inj h2).symm)
          go_wp2
          go_ret2
          exact ⟨_, by rw [HO.out]; rfl, ⟨_, by rw [HO.out, HL.out]; exact HOW.out.rel (by decide)⟩, HBQW.out⟩
        have hil : (out.length : Int) < (b.tabs.length : Int) := by omega
        obtain ⟨n', hn'⟩ : ∃ m, n = m + 1 := ⟨n - 1, by have := HN.out; omega⟩
        subst hn'
        obtain ⟨tn, htn⟩ : ∃ t, nextT b out = some t := by
          have h := HG.out
          rw [orderGo] at h
          cases hx : nextT b out with
          | none => rw [hx] at h; cases h
          | some t => exact ⟨t, rfl⟩
        have HG2 : Hid (orderGo b n' (out ++ [tn.name]) = some l) := Lib.hid (by have h := HG.out; rw [orderGo, htn] at h; exact h)
        obtain ⟨P, hP⟩ : ∃ P : Tb → Bool, P = fun t => !out.contains t.name && freeB b t out := ⟨_, rfl⟩
        have HPP := Lib.hid hP
        have HNX : Hid (b.tabs.find? P = some tn) := Lib.hid (by rw [hP]; exact htn)
        clear htn hP
        go_wp2
        go_loopw [8, 40] (fun o i wi => ∃ k : Nat, k ≤ b.tabs.length ∧ i = .int .i64 k ∧ o = .string ⟨(bestN ((b.tabs.take k).find? P)).toArray⟩ ∧ Hid (Below wq.heap.size wq wi)) (fun _ i _ => b.tabs.length - (intOf i).toNat)
        case atStart => exact ⟨0, Nat.zero_le _, rfl, rfl, Lib.hid (Below.refl _ _)⟩
        case round =>
          clear d1
          obtain ⟨k, hk, rfl, rfl, HB⟩ := hrel
          have HBW : Hid (Below W0.heap.size W0 wr) := Lib.hid (HBq.out.trans (HB.out.mono HBq.out.size))
          have HBR : Hid (Below w.heap.size w wr) := Lib.hid (HB0.out.trans (HBW.out.mono HB0.out.size))
          have HMr := Lib.hid (HM.out.below HB.out)
          by_cases hltk : k < b.tabs.length
          · obtain ⟨bB, off, t, A1, c1', A2, c2', rfl, hbB, hx, hr, g0, g1, g2, g3, g4⟩ := HF.out.tb hltk
            rw [← HBR.out.cell (p := ⟨bB, _, none⟩) hbB] at g0 g1 g2 g3 g4
            have hik : (k : Int) < (b.tabs.length : Int) := by omega
            have hxl : t.name.length ≤ 140737488355328 := by obtain ⟨_, _, _, h, _⟩ := hr; exact h
            obtain ⟨W3, e3, HB3, HM3, j0, j3, hs3⟩ : ∃ W3, wr.alloc (.cells #[.string ⟨t.name.toArray⟩, .int .i64 t.pol, .bool t.comp, .slice A1 t.ins.length c1', .slice A2 t.rules.length c2'] 42) = W3 ∧ Hid (Below wr.heap.size wr W3) ∧ Hid (SMap Tryz.prog 9 W3 mb m f) ∧ W3.cell? ⟨wr.heap.size, 0, none⟩ = some (.string ⟨t.name.toArray⟩) ∧ W3.cell? ⟨wr.heap.size, 3, none⟩ = some (.slice A1 t.ins.length c1') ∧ wr.heap.size < W3.heap.size :=
              ⟨_, rfl, Lib.hid ((Below.refl _ _).alloc (Nat.le_refl _) _), Lib.hid (HMr.out.alloc _), World.cell?_alloc_new _ _ _ _, World.cell?_alloc_new _ _ _ _, by simp⟩
            have HV : Hid ((f t.name).getD (.bool false) = .bool (out.contains t.name)) := Lib.hid (by rw [Hf.out]; cases out.contains t.name <;> rfl)
            obtain ⟨HE, hiln⟩ : Hid (Elems rStr W3 S A1 t.ins) ∧ t.ins.length ≤ 17592186044416 := by
              obtain ⟨vi, vr, e, _, _, hi, _⟩ := hr
              obtain ⟨rfl, rfl⟩ : Value.slice A1 t.ins.length c1' = vi ∧ Value.slice A2 t.rules.length c2' = vr := by simpa using e
              obtain ⟨A', c', e', _, _, h3, hE⟩ := rSl.elems hi
              injection e' with e1 e2 e3
              subst e1
              exact ⟨Lib.hid ((hE.keep (Keeps.of_below HBR.out)).keep (Keeps.of_below HB3.out)), by simp only [rStr] at h3; omega⟩
            have HFT := Lib.hid (find_take (p := P) hx)
            have HJ0 := Lib.hid j0
            have HTM := Lib.hid (HNE.out t (List.mem_of_getElem? hx))
            obtain ⟨nc, hnc⟩ : ∃ x, out.contains t.name = x := ⟨_, rfl⟩
            rw [hnc] at HV
            have HNC := Lib.hid hnc
            obtain ⟨q, hq⟩ : ∃ q : Txt → Bool, q = fun s => !(findT b.tabs s).isSome || out.contains s := ⟨_, rfl⟩
            have HQ := Lib.hid hq
            have HPT : Hid (P t = (!nc && t.ins.all q)) := Lib.hid (by rw [HPP.out, hq, ← hnc]; simp only [freeB_all])
            clear hx hr hnc hq
            obtain ⟨bst, hbst⟩ : ∃ x, bestN ((b.tabs.take k).find? P) = x := ⟨_, rfl⟩
            rw [hbst]
            have HBST := Lib.hid hbst
            clear hbst
            go_wp2_with (first | (at_lookup; go_must (refine wpList_lookup_txt (by rfl) (.tmp 44) (.tmp 46) 133 rfl Tryz.underlying133 Tryz.underlying9 (zeroBl _) rfl HM3.out rfl hxl HV.out ?_)))
            clear g0 g1 g2 g3 g4 e3 j3
            obtain ⟨wi, hwi⟩ : ∃ x, x = wr := ⟨_, rfl⟩
            subst hwi
            go_loopw [11, 52] (fun o i w8 => ∃ j : Nat, j ≤ t.ins.length ∧ i = .int .i64 j ∧ o = .bool (!nc && (t.ins.take j).all q) ∧ Hid (Below W3.heap.size W3 w8)) (fun _ i _ => t.ins.length - (intOf i).toNat)
            case atStart => exact ⟨0, Nat.zero_le _, rfl, by simp, Lib.hid (Below.refl _ _)⟩
            case round =>
              clear j0
              obtain ⟨j, hj, rfl, rfl, HBi⟩ := hrel
              have HBX : Hid (Below W0.heap.size W0 wr) := Lib.hid (HBW.out.trans ((HB3.out.trans (HBi.out.mono HB3.out.size)).mono HBW.out.size))
              have HMi := Lib.hid (HM3.out.below HBi.out)
              have HKR := Lib.hid (Rd.below HK.out HBX.out)
              have d0 := (HBX.out.cell (p := ⟨w.heap.size, 0, none⟩) HS0.out).trans HC0.out
              have d1 := (HBX.out.cell (p := ⟨w.heap.size, 1, none⟩) HS0.out).trans HC1.out
              have j0 := (HBi.out.cell (p := ⟨wi.heap.size, 0, none⟩) hs3).trans HJ0.out
              by_cases hltj : j < t.ins.length
              · obtain ⟨bI, offI, s, rfl, _, hbI, hx, hsl, i1⟩ := HE.out.str hltj
                have i2 := (HBi.out.cell (p := ⟨bI, offI + j, none⟩) hbI).trans i1
                have hij : (j : Int) < (t.ins.length : Int) := by omega
                have HTK := Lib.hid (all_takeO (p := q) hx)
                obtain ⟨t2, ht2⟩ : ∃ t, tbOf (findT b.tabs s) = t := ⟨_, rfl⟩
                obtain ⟨is2, hi2⟩ : ∃ x, (findT b.tabs s).isSome = x := ⟨_, rfl⟩
                obtain ⟨oc, hoc⟩ : ∃ x, out.contains s = x := ⟨_, rfl⟩
                have HT2 := Lib.hid ht2
                have HI2 := Lib.hid hi2
                have HV2 : Hid ((f s).getD (.bool false) = .bool oc) := Lib.hid (by rw [Hf.out, hoc]; cases oc <;> rfl)
                have HQS : Hid (q s = (!is2 || oc)) := Lib.hid (by rw [HQ.out]; simp only [hi2, hoc])
                obtain ⟨ok, hok⟩ : ∃ x, (!nc && (t.ins.take j).all q) = x := ⟨_, rfl⟩
                have HNXT : Hid ((!nc && (t.ins.take (j + 1)).all q) = (ok && (!is2 || oc))) := Lib.hid (by rw [HTK.out, ← Bool.and_assoc, hok, HQS.out])
                rw [hok]
                clear ht2 hi2 hoc hok hx i1
                cases ok <;> cases is2 <;> cases oc
                all_goals
                  go_wp2_with (first | (go_at_call 78; go_must ((with_reducible refine (tableNamed_at wr HKR.out hsl HT2.out HI2.out).mono ?_); rintro e w4 ⟨A4, c4, B4, d4, S4, rfl, hr4, hb4⟩; obtain ⟨W5, e5, HB5, HM5⟩ : ∃ W5, w4.alloc (.cells #[.string ⟨t2.name.toArray⟩, .int .i64 t2.pol, .bool t2.comp, .slice A4 t2.ins.length c4, .slice B4 t2.rules.length d4] 42) = W5 ∧ Hid (Below wr.heap.size wr W5) ∧ Hid (SMap Tryz.prog 9 W5 mb m f) := ⟨_, rfl, Lib.hid (hb4.alloc hb4.size _), Lib.hid ((HMi.out.below hb4).alloc _)⟩; clear hr4 hb4)) | (at_lookup; go_must (refine wpList_lookup_txt (by rfl) (.tmp 67) (.tmp 68) 133 rfl Tryz.underlying133 Tryz.underlying9 (zeroBl _) rfl HM5.out rfl hsl HV2.out ?_)))
                  go_roundw
                  case rel => exact ⟨j + 1, by omega, by go_num, by rw [HNXT.out]; rfl, Lib.hid (HBi.out.trans (HB5.out.mono HBi.out.size))⟩
                  case measure => simp [intOf]; omega
              · have hij : ¬ (j : Int) < (t.ins.length : Int) := by omega
                have HPO : Hid ((!nc && (t.ins.take j).all q) = P t) := Lib.hid (by rw [HPT.out, List.take_of_length_le (show t.ins.length ≤ j by omega)])
                obtain ⟨ok, hok⟩ : ∃ x, P t = x := ⟨_, rfl⟩
                rw [HPO.out, hok]
                have HOK := Lib.hid hok
                clear hok
                have HBE : Hid (Below wq.heap.size wq wr) := Lib.hid (HB.out.trans ((HB3.out.trans (HBi.out.mono HB3.out.size)).mono HB.out.size))
                cases ok
                · have HBT : Hid (bestN ((b.tabs.take (k + 1)).find? P) = bst) := Lib.hid (by rw [HFT.out, HOK.out, ← HBST.out]; simp)
                  go_wp2
                  go_roundw
                  case rel => exact ⟨k + 1, by omega, by go_num, by rw [HBT.out], HBE⟩
                  case measure => simp [intOf]; omega
                · cases hfd : (b.tabs.take k).find? P with
                  | none =>
                    have HBT : Hid (bestN ((b.tabs.take (k + 1)).find? P) = t.name) := Lib.hid (by rw [HFT.out, HOK.out, hfd]; rfl)
                    have HB0' : bst = [] := by rw [← HBST.out, hfd]; rfl
                    subst HB0'
                    clear hfd
                    go_wp2
                    go_roundw
                    case rel => exact ⟨k + 1, by omega, by go_num, by rw [HBT.out], HBE⟩
                    case measure => simp [intOf]; omega
                  | some u =>
                    have HBT : Hid (bestN ((b.tabs.take (k + 1)).find? P) = bst) := Lib.hid (by rw [HFT.out, ← HBST.out, hfd]; rfl)
                    have hbn : bst ≠ [] := by
                      rw [← HBST.out, hfd]
                      exact HNE.out u (List.mem_of_mem_take (List.mem_of_find?_eq_some hfd))
                    have hbe : bst.isEmpty = false := by cases bst with | nil => exact absurd rfl hbn | cons _ _ => rfl
                    clear hfd
                    go_wp2
                    go_roundw
                    case rel => exact ⟨k + 1, by omega, by go_num, by rw [HBT.out], HBE⟩
                    case measure => simp [intOf]; omega
          · have hik : ¬ (k : Int) < (b.tabs.length : Int) := by omega
            have HBT : Hid (bestN ((b.tabs.take k).find? P) = tn.name) := Lib.hid (by rw [List.take_of_length_le (show b.tabs.length ≤ k by omega), HNX.out]; rfl)
            rw [HBT.out]
            have HOWr := Lib.hid (HOW.out.below HB.out)
            have HLT := Lib.hid HOW.out.lt
            have hnl : tn.name.length ≤ 140737488355328 := by
              have hm := List.mem_of_find?_eq_some HNX.out
              obtain ⟨i, hi⟩ := List.mem_iff_getElem?.1 hm
              obtain ⟨hi2, _⟩ := List.getElem?_eq_some_iff.1 hi
              obtain ⟨_, _, x, _, _, _, _, _, _, hx, hr, _⟩ := HF.out.tb hi2
              obtain rfl : x = tn := by rw [hi] at hx; exact (Option.some.inj hx).symm
              obtain ⟨_, _, _, h, _⟩ := hr
              exact h
            have HKP : Hid (∀ w', wr.grownBy w' (some mb) → Own rStr 9 w' (mb + 1) (fun _ => False) (.slice Ao out.length co) out) := Lib.hid fun w' hg => HOWr.out.keptF flat_StrO hg (by
              cases hv : (Value.slice Ao out.length co).ownBlock with
              | none => exact .inl rfl
              | some g => exact .inr fun e => by injection e with e; have := (HLT.out g hv).1; omega)
            have HKM : Hid (some mb ≠ (Value.slice Ao out.length co).ownBlock) := Lib.hid fun e => by have := (HLT.out mb e.symm).1; omega
            have HBY : Hid ((out.length + 1) * rStr.bytes ≤ 140737488355328) := Lib.hid (by show (_ + 1) * 16 ≤ _; omega)
            go_wp2_with (first
              | (at_mapUpdate; go_must (refine wpList_update_txt (B := W0.heap.size) (val := .bool true) rfl (.tmp 81) (.tmp 82) (.const (.bool true)) 133 rfl Tryz.underlying133 Tryz.underlying9 rfl HMr.out (by have := Hm.out; unfold maxLen; omega) rfl hnl rfl Hmb.out ?_); intro w7 hM7 hb7 hg7; have HO7 := Lib.hid (HKP.out w7 hg7); have HM7 := Lib.hid hM7; have HB7 := Lib.hid (HBW.out.trans hb7); have HBA := Lib.hid hM7.lt; clear hM7 hb7 hg7)
              | (at_builtin; go_must (refine wpList_append_new (R := rStr) (x := tn.name) el_Str rfl (.tmp 83) (.tmp 85) rfl rfl HO7.out [.string ⟨tn.name.toArray⟩] rfl rfl (fun _ => False) ⟨rfl, hnl⟩ (fun _ h => h.elim) HBY.out HBA.out ?_); intro v9 w9 hown9 hb9 hg9 _; obtain ⟨A9, c9, e9⟩ := hown9.value; rw [List.length_append, List.length_singleton] at e9; subst e9; have HM9 := Lib.hid (HM7.out.kept hg9 HKM.out); have HO9 := Lib.hid hown9; have HB9 := Lib.hid (HB7.out.trans (hb9.mono (Nat.le_succ_of_le Hmb.out))); clear hown9 hb9 hg9))
            go_roundw
            case rel => exact ⟨out ++ [tn.name], n', m + 1, _, HO9, Lib.hid (by have := HN.out; simp; omega), HG2, HM9, Lib.hid (by have := Hm.out; simp; omega), Lib.hid (seen_snoc Hf.out), HB9⟩
            case measure => simp [lenV]; omega

end Go.Proofs.YtlopccnehgolnabGreatDoor
