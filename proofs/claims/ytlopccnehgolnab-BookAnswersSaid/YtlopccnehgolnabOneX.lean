/- The plain law of clashes: a table clashes on an input just if a box of inputs of which two rules say two things holds it. The plain laws of gaps and of spans. -/
import Derived.Test.YtlopccnehgolnabClash
import Derived.Test.YtlopccnehgolnabOrdMath
import Derived.Test.YtlopccnehgolnabAreas
import Derived.Test.YtlopccnehgolnabBookAX
namespace Go.Proofs.Ytlopccnehgolnab
open Go.RowKit Rb

theorem cellArea_has {c : Cl} {s : List Rg} (hs : GoodS s) (n : Int) : hasL (cellArea c s) n = (hasL s n && cellHolds c n) := by
  have hn := hs.isNum n
  obtain ⟨no, rs⟩ := c
  unfold cellArea cellHolds
  have h1 := (normS_good rs).2 n
  cases no
  · by_cases h0 : rs.length = 0
    · simp [h0]
    · simp only [Bool.false_eq_true, if_false]
      rw [if_pos (by omega), bothS_has hs, h1, decide_eq_false h0]
      cases hh : hasL s n
      · rfl
      · rw [hh, Bool.and_true] at hn; rw [hn]; simp
  · simp only [if_true]
    rw [lessS_has hs, h1]
    cases hh : hasL s n
    · rfl
    · rw [hh, Bool.and_true] at hn; rw [hn]; simp
theorem cellArea_good {c : Cl} {s : List Rg} (hs : GoodS s) : GoodS (cellArea c s) := by
  unfold cellArea
  split
  · exact (lessS_good _ _).1
  · split
    · exact (bothS_good _ _).1
    · exact hs
theorem len0_has {s : List Rg} (h : s.length = 0) (n : Int) : hasL s n = false := by rw [List.eq_nil_of_length_eq_zero h]; rfl

theorem areaGo_in : ∀ {cs : List Cl} {all : Bx}, Sets all → cs.length = all.length → (∀ ns, inBx (optBx (areaGo cs all)) ns = (inBx all ns && cellsHold cs ns) ∨ areaGo cs all = none) ∧
    (areaGo cs all = none → ∀ ns, (inBx all ns && cellsHold cs ns) = false) ∧ ∀ a, areaGo cs all = some a → Sets a ∧ a.length = all.length
  | [], [], _, _ => by
    refine ⟨fun ns => .inl ?_, fun h => (by simp [areaGo] at h), fun a h => ?_⟩
    · cases ns <;> rfl
    · simp only [areaGo, Option.some.injEq] at h; subst h; exact ⟨fun _ h => by simp at h, rfl⟩
  | [], _ :: _, _, h => by simp at h
  | _ :: _, [], _, h => by simp at h
  | c :: cs, s :: all, hg, hl => by
    have hs := (hg s (by simp)).2
    obtain ⟨h1, h2, h3⟩ := areaGo_in (cs := cs) (all := all) (fun x hx => hg x (by simp [hx])) (by simpa using hl)
    have hc := fun n => cellArea_has (c := c) hs n
    by_cases h0 : (cellArea c s).length = 0
    · have e : areaGo (c :: cs) (s :: all) = none := by rw [areaGo, if_pos h0]
      refine ⟨fun _ => .inr e, fun _ ns => ?_, fun a h => (by rw [e] at h; cases h)⟩
      cases ns with
      | nil => rfl
      | cons n ns =>
        have := hc n
        rw [len0_has h0] at this
        simp only [inBx, cellsHold]
        cases hh : hasL s n
        · rfl
        · rw [hh] at this; simp only [Bool.true_and] at this; rw [← this]; simp
    · have e : areaGo (c :: cs) (s :: all) = (areaGo cs all).map (cellArea c s :: ·) := by rw [areaGo, if_neg h0]
      rw [e]
      cases ha : areaGo cs all with
      | none =>
        refine ⟨fun _ => .inr rfl, fun _ ns => ?_, fun a h => by cases h⟩
        cases ns with
        | nil => rfl
        | cons n ns =>
          have := h2 ha ns
          simp only [inBx, cellsHold]
          cases hx : inBx all ns
          · simp
          · rw [hx, Bool.true_and] at this; rw [this]; simp
      | some a =>
        refine ⟨fun ns => .inl ?_, fun h => (by cases h), fun a' h => ?_⟩
        · cases ns with
          | nil => rfl
          | cons n ns =>
            have := h1 ns
            rw [ha] at this
            rcases this with this | this
            · show (hasL (cellArea c s) n && inBx a ns) = _
              rw [show inBx a ns = _ from this, hc n]
              simp only [inBx, cellsHold]
              cases hasL s n <;> cases cellHolds c n <;> cases inBx all ns <;> cases cellsHold cs ns <;> rfl
            · cases this
        · simp only [Option.map_some, Option.some.injEq] at h
          subst h
          obtain ⟨g1, g2⟩ := h3 a ha
          exact ⟨fun x hx => by rcases List.mem_cons.1 hx with rfl | hx; exact ⟨by omega, cellArea_good hs⟩; exact g1 x hx, by simp [g2]⟩

/-- The inputs of an area: those of the domains that the rule holds of. -/
theorem areaB_some {r : Rl} {all a : Bx} (h : areaB r all = some a) : (∀ ns, inBx a ns = (inBx all ns && ruleHolds r ns)) ∧ Sets a ∧ a.length = all.length := by
  unfold areaB at h
  split at h
  case isFalse => cases h
  case isTrue hc =>
    simp only [Bool.and_eq_true, decide_eq_true_iff] at hc
    obtain ⟨h1, _, h3⟩ := areaGo_in (goodBx_iff.1 hc.2).1 hc.1
    refine ⟨fun ns => ?_, h3 a h⟩
    have := h1 ns
    rw [h] at this
    rcases this with this | this
    · exact this
    · cases this
theorem areaB_none {r : Rl} {all : Bx} (h : areaB r all = none) (hl : r.cells.length = all.length) (hg : goodBx all (all.length : Int) = true) (ns : List Int) : (inBx all ns && ruleHolds r ns) = false := by
  unfold areaB at h
  rw [decide_eq_true hl, hg] at h
  exact (areaGo_in (goodBx_iff.1 hg).1 hl).2.1 (by simpa using h) ns

theorem zipBoth_in : ∀ {a b : Bx}, Sets a → a.length = b.length → (∀ x, zipBoth a b = some x → ∀ ns, inBx x ns = (inBx a ns && inBx b ns)) ∧ (zipBoth a b = none → ∀ ns, (inBx a ns && inBx b ns) = false)
  | [], [], _, _ => by
    refine ⟨fun x h ns => ?_, fun h => by simp [zipBoth] at h⟩
    simp only [zipBoth, Option.some.injEq] at h
    subst h
    cases ns <;> rfl
  | [], _ :: _, _, h => by simp at h
  | _ :: _, [], _, h => by simp at h
  | s :: a, t :: b, hg, hl => by
    have hs := (hg s (by simp)).2
    obtain ⟨h1, h2⟩ := zipBoth_in (a := a) (b := b) (fun x hx => hg x (by simp [hx])) (by simpa using hl)
    have hc := fun n => bothS_has (b := t) hs n
    by_cases h0 : (bothS s t).length = 0
    · have e : zipBoth (s :: a) (t :: b) = none := by rw [zipBoth, if_pos h0]
      refine ⟨fun x h => (by rw [e] at h; cases h), fun _ ns => ?_⟩
      cases ns with
      | nil => rfl
      | cons n ns =>
        have := hc n
        rw [len0_has h0] at this
        simp only [inBx]
        cases hh : hasL s n
        · rfl
        · rw [hh] at this; simp only [Bool.true_and] at this; rw [← this]; simp
    · have e : zipBoth (s :: a) (t :: b) = (zipBoth a b).map (bothS s t :: ·) := by rw [zipBoth, if_neg h0]
      rw [e]
      cases ha : zipBoth a b with
      | none =>
        refine ⟨fun x h => (by cases h), fun _ ns => ?_⟩
        cases ns with
        | nil => rfl
        | cons n ns =>
          have := h2 ha ns
          simp only [inBx]
          cases hx : inBx a ns
          · simp
          · rw [hx, Bool.true_and] at this; rw [this]; simp
      | some y =>
        refine ⟨fun x h ns => ?_, fun h => by cases h⟩
        simp only [Option.map_some, Option.some.injEq] at h
        subst h
        cases ns with
        | nil => rfl
        | cons n ns =>
          simp only [inBx]
          rw [h1 y ha ns, hc n]
          cases hasL s n <;> cases hasL t n <;> cases inBx a ns <;> cases inBx b ns <;> rfl

theorem bothBx_in {a b x : Bx} (ha : Sets a) (hl : a.length = b.length) (h : bothBx a b = some x) (ns : List Int) : inBx x ns = (inBx a ns && inBx b ns) := by
  unfold bothBx at h
  split at h
  · exact (zipBoth_in ha hl).1 x h ns
  · cases h
theorem bothBx_none {a b : Bx} (ha : Sets a) (hb : Sets b) (hl : a.length = b.length) (h3 : a.length ≤ 3) (h : bothBx a b = none) (ns : List Int) : (inBx a ns && inBx b ns) = false := by
  unfold bothBx at h
  rw [goodBx_of ha rfl h3, goodBx_of hb hl.symm h3] at h
  exact (zipBoth_in ha hl).2 h ns
theorem bothBx_sets {a b x : Bx} (h : bothBx a b = some x) : Sets x := by
  unfold bothBx at h
  split at h
  · exact ((zipBoth_size a b).2 x h).1
  · cases h

/-- Two rules may both hold: they say one thing. -/
def Agree (pol : Int) (r s : Rl) : Prop := pol = 2 ∧ r.out = s.out

theorem sayLoop_low (pol : Int) (hp : pol = 1 ∨ pol = 2) : ∀ (l : List Int) (n : Int), ((sayLoop pol n l).2.2 = 0 ∧ ∀ o ∈ l, pol = 2 ∧ n = o) ∨ ((sayLoop pol n l).2.2 = 4 ∧ ∃ o ∈ l, ¬ (pol = 2 ∧ n = o))
  | [], n => .inl ⟨rfl, fun o h => by simp at h⟩
  | o :: l, n => by
    rcases hp with rfl | rfl
    · exact .inr ⟨rfl, o, by simp, by omega⟩
    · have ih := sayLoop_low 2 (.inr rfl) l n
      by_cases ho : o = n
      · subst ho
        have e : sayLoop 2 o (o :: l) = sayLoop 2 o l := by simp [sayLoop]
        rw [e]
        rcases ih with ⟨h1, h2⟩ | ⟨h1, x, h2, h3⟩
        · exact .inl ⟨h1, fun x hx => by rcases List.mem_cons.1 hx with rfl | hx; exact ⟨rfl, rfl⟩; exact h2 x hx⟩
        · exact .inr ⟨h1, x, by simp [h2], h3⟩
      · have e : sayLoop 2 n (o :: l) = (0, false, 4) := by simp [sayLoop, ho]
        rw [e]
        exact .inr ⟨rfl, o, by simp, fun h => ho h.2.symm⟩
theorem sayLoop_high (pol : Int) (hp : pol ≠ 1 ∧ pol ≠ 2) : ∀ (l : List Int) (n : Int), (sayLoop pol n l).2.2 = 0
  | [], n => rfl
  | o :: l, n => by
    have ih := sayLoop_high pol hp l
    simp only [sayLoop]
    rw [if_neg hp.1, if_neg hp.2]
    split
    · exact ih _
    · split
      · exact ih _
      · split
        · exact ih _
        · exact ih _

/-- What is said of an input: one thing, just if all rules that hold agree. -/
theorem sayO_low {pol : Int} (hp : pol = 1 ∨ pol = 2) (l : List Int) : ((sayO pol l).2.2 = 0 ∧ l.Pairwise fun x y => pol = 2 ∧ x = y) ∨ ((sayO pol l).2.2 = 4 ∧ ¬ l.Pairwise fun x y => pol = 2 ∧ x = y) := by
  cases l with
  | nil => exact .inl ⟨rfl, List.Pairwise.nil⟩
  | cons n l =>
    rcases sayLoop_low pol hp l n with ⟨h1, h2⟩ | ⟨h1, x, h2, h3⟩
    · refine .inl ⟨h1, List.pairwise_cons.2 ⟨h2, ?_⟩⟩
      clear h1
      induction l with
      | nil => exact List.Pairwise.nil
      | cons y l ih =>
        refine List.pairwise_cons.2 ⟨fun z hz => ?_, ih fun o ho => h2 o (by simp [ho])⟩
        have hy := h2 y (by simp)
        have hz' := h2 z (by simp [hz])
        exact ⟨hy.1, by rw [← hy.2, hz'.2]⟩
    · exact .inr ⟨h1, fun hP => h3 ((List.pairwise_cons.1 hP).1 x h2)⟩

theorem outs_pair (pol : Int) (rs : List Rl) (ns : List Int) : ((outsL rs ns).Pairwise fun x y => pol = 2 ∧ x = y) ↔ rs.Pairwise fun r s => ruleHolds r ns = true → ruleHolds s ns = true → Agree pol r s := by
  unfold outsL
  rw [List.pairwise_map, List.pairwise_filter]
  rfl

/-- The error that a good table gives. -/
theorem says_err {t : Tb} {ns : List Int} (hg : goodT t = true) (hl : ns.length = t.ins.length) :
    (2 < t.pol → (saysT t ns).2.2 = 0) ∧ (t.pol ≤ 2 → ((saysT t ns).2.2 = 0 ∧ t.rules.Pairwise fun r s => ruleHolds r ns = true → ruleHolds s ns = true → Agree t.pol r s) ∨
      ((saysT t ns).2.2 = 4 ∧ ¬ t.rules.Pairwise fun r s => ruleHolds r ns = true → ruleHolds s ns = true → Agree t.pol r s)) := by
  have hb := goodT_head hg
  have e : saysT t ns = if t.pol = 7 then (((outsL t.rules ns).length : Int), true, 0) else sayO t.pol (outsL t.rules ns) := by
    unfold saysT; rw [if_pos ⟨hg, hl⟩, sayL_eq]
  constructor
  · intro h2
    rw [e]
    split
    · rfl
    · cases outsL t.rules ns with
      | nil => rfl
      | cons o l => exact sayLoop_high t.pol (by omega) l o
  · intro h2
    rw [e, if_neg (by omega)]
    have := sayO_low (pol := t.pol) (by omega) (outsL t.rules ns)
    rw [outs_pair] at this
    exact this

theorem goodT_cells {t : Tb} (h : goodT t = true) {r : Rl} (hr : r ∈ t.rules) : r.cells.length = t.ins.length := by
  unfold goodT at h
  simp only [Bool.and_eq_true, List.all_eq_true] at h
  have h1 := h.2 r hr
  unfold goodRule at h1
  simp only [Bool.and_eq_true, decide_eq_true_iff] at h1
  exact h1.1.2

theorem clashOf_eq {pol : Int} {all : Bx} {r s : Rl} {x : Bx} (h : x ∈ clashOf pol all r s) : ∃ a b, areaB r all = some a ∧ areaB s all = some b ∧ ¬ Agree pol r s ∧ bothBx a b = some x := by
  unfold clashOf at h
  split at h
  case isFalse => simp at h
  case isTrue hc =>
    simp only [Bool.and_eq_true] at hc
    obtain ⟨⟨⟨h1, h2⟩, h3⟩, h4⟩ := hc
    cases ha : areaB r all with
    | none => rw [ha] at h1; cases h1
    | some a =>
      cases hb : areaB s all with
      | none => rw [hb] at h2; cases h2
      | some b =>
        rw [ha, hb] at h4 h
        cases hx : bothBx a b with
        | none => have : bothBx (optBx (some a)) (optBx (some b)) = none := hx; rw [this] at h4; cases h4
        | some y =>
          have e : bothBx (optBx (some a)) (optBx (some b)) = some y := hx
          rw [e] at h
          have : x = y := by simpa [optBx] using h
          subst this
          refine ⟨a, b, rfl, rfl, fun hA => ?_, hx⟩
          unfold Agree at hA
          simp [hA.1, hA.2] at h3

theorem mem_clashTo {t : Tb} {all x : Bx} {k : Nat} : x ∈ clashTo t all k ↔ ∃ i j r s, j < i ∧ i < k ∧ t.rules[i]? = some r ∧ t.rules[j]? = some s ∧ x ∈ clashOf t.pol all r s := by
  unfold clashTo clashRow
  rw [List.mem_flatMap]
  constructor
  · rintro ⟨i, hi, hx⟩
    rw [List.mem_range] at hi
    cases hr : t.rules[i]? with
    | none => rw [hr] at hx; simp at hx
    | some r =>
      rw [hr] at hx
      simp only [List.mem_flatMap] at hx
      obtain ⟨s, hs, hx⟩ := hx
      obtain ⟨j, hj, rfl⟩ := List.getElem_of_mem hs
      have hj' : j < i ∧ j < t.rules.length := by rw [List.length_take] at hj; omega
      exact ⟨i, j, r, t.rules[j], hj'.1, hi, hr, List.getElem?_eq_getElem hj'.2, by simpa using hx⟩
  · rintro ⟨i, j, r, s, hji, hik, hr, hs, hx⟩
    refine ⟨i, List.mem_range.2 hik, ?_⟩
    rw [hr]
    simp only [List.mem_flatMap]
    refine ⟨s, ?_, hx⟩
    have hj := (List.getElem?_eq_some_iff.1 hs).1
    rw [List.mem_iff_getElem?]
    exact ⟨j, by rw [List.getElem?_take, if_pos hji]; exact hs⟩

section
variable {t : Tb} {all : Bx} (hg : goodT t = true) (hb : goodBx all (t.ins.length : Int) = true)
include hg hb

theorem clash_box {x : Bx} (h : x ∈ clashB t all) (ns : List Int) (hx : inBx x ns = true) : inBx all ns = true ∧ (saysT t ns).2.2 = 4 := by
  unfold clashB at h
  split at h
  case isFalse => simp at h
  case isTrue hc =>
    simp only [Bool.and_eq_true, decide_eq_true_iff] at hc
    obtain ⟨i, j, r, s, hji, _, hr, hs, hxc⟩ := mem_clashTo.1 h
    obtain ⟨a, b, ha, hb', hA, hxb⟩ := clashOf_eq hxc
    obtain ⟨a1, a2, a3⟩ := areaB_some ha
    obtain ⟨b1, b2, b3⟩ := areaB_some hb'
    have hin := bothBx_in a2 (by omega) hxb ns
    rw [hx, a1, b1] at hin
    have h5 := hin.symm
    simp only [Bool.and_eq_true] at h5
    have hlen := inBx_len h5.1.1
    have h6 : (all.length : Int) = t.ins.length := (goodBx_iff.1 hb).2.1
    refine ⟨h5.1.1, ?_⟩
    rcases (says_err hg (ns := ns) (by omega)).2 hc.2 with ⟨_, hP⟩ | ⟨h4, _⟩
    · exfalso
      have hi := (List.getElem?_eq_some_iff.1 hr)
      have hj := (List.getElem?_eq_some_iff.1 hs)
      have := List.pairwise_iff_getElem.1 hP j i hj.1 hi.1 hji
      rw [hi.2, hj.2] at this
      have hag := this h5.2.2 h5.1.2
      exact hA ⟨hag.1, hag.2.symm⟩
    · exact h4

omit hg hb in
theorem clash_sets {x : Bx} (h : x ∈ clashB t all) : Sets x := by
  unfold clashB at h
  split at h
  case isFalse => simp at h
  case isTrue hc =>
    obtain ⟨i, j, r, s, _, _, _, _, hxc⟩ := mem_clashTo.1 h
    obtain ⟨a, b, _, _, _, hxb⟩ := clashOf_eq hxc
    exact bothBx_sets hxb

/-- An input of which two things are said lies in a box of a clash. -/
theorem clash_all (ns : List Int) (hin : inBx all ns = true) (h4 : (saysT t ns).2.2 ≠ 0) : ∃ x ∈ clashB t all, inBx x ns = true := by
  have h6 : (all.length : Int) = t.ins.length := (goodBx_iff.1 hb).2.1
  have hlen := inBx_len hin
  have hse := says_err hg (ns := ns) (by omega)
  have hp : t.pol ≤ 2 := by
    rcases Int.lt_or_le 2 t.pol with h | h
    · exact absurd (hse.1 h) h4
    · exact h
  rcases hse.2 hp with ⟨h0, _⟩ | ⟨_, hnP⟩
  · exact absurd h0 h4
  · apply Classical.byContradiction
    intro hno
    apply hnP
    rw [List.pairwise_iff_getElem]
    intro j i hj hi hji hsj hri
    apply Classical.byContradiction
    intro hnA
    apply hno
    have hgb : goodBx all (all.length : Int) = true := by rw [h6]; exact hb
    have hci := goodT_cells hg (List.getElem_mem hi)
    have hcj := goodT_cells hg (List.getElem_mem hj)
    cases ha : areaB t.rules[i] all with
    | none => have := areaB_none ha (by omega) hgb ns; rw [hin, hri] at this; cases this
    | some a =>
      cases hb' : areaB t.rules[j] all with
      | none => have := areaB_none hb' (by omega) hgb ns; rw [hin, hsj] at this; cases this
      | some b =>
        obtain ⟨a1, a2, a3⟩ := areaB_some ha
        obtain ⟨b1, b2, b3⟩ := areaB_some hb'
        have hl3 := (goodBx_iff.1 hb).2.2
        cases hxb : bothBx a b with
        | none => have := bothBx_none a2 b2 (by omega) (by omega) hxb ns; rw [a1, b1, hin, hri, hsj] at this; cases this
        | some x =>
          refine ⟨x, ?_, by rw [bothBx_in a2 (by omega) hxb, a1, b1, hin, hri, hsj]; rfl⟩
          unfold clashB
          rw [hg, hb, decide_eq_true hp]
          refine mem_clashTo.2 ⟨i, j, _, _, hji, hi, List.getElem?_eq_getElem hi, List.getElem?_eq_getElem hj, ?_⟩
          rw [clashOf_some ha hb' (f := true) (x := x) ?_ (by rw [hxb]; rfl) (by rw [hxb]; rfl)]
          · simp
          · rcases Classical.em (t.pol = 2) with h2 | h2
            · right; intro e; exact hnA ⟨h2, e.symm⟩
            · exact .inl h2
end

theorem leastB_mem : ∀ {l : List Bx}, l ≠ [] → ∃ b ∈ l, leastB l = pointBx b
  | [], h => absurd rfl h
  | b :: l, _ => by
    have key : ∀ (l : List Bx) (o : List Int), (l.foldl leastStep o = o) ∨ ∃ x ∈ l, l.foldl leastStep o = pointBx x := by
      intro l
      induction l with
      | nil => intro o; exact .inl rfl
      | cons y l ih =>
        intro o
        rw [List.foldl_cons]
        rcases ih (leastStep o y) with h | ⟨x, hx, h⟩
        · rw [h]
          unfold leastStep
          split
          · exact .inr ⟨y, by simp, rfl⟩
          · exact .inl rfl
        · exact .inr ⟨x, by simp [hx], h⟩
    rcases key l (pointBx b) with h | ⟨x, hx, h⟩
    · exact ⟨b, by simp, h⟩
    · exact ⟨x, by simp [hx], h⟩

/-- The least input of which two things are said. -/
theorem clash_at {t : Tb} {all : Bx} (hg : goodT t = true) (hb : goodBx all (t.ins.length : Int) = true) (h : 0 < (clashB t all).length) : inBx all (leastB (clashB t all)) = true ∧ (saysT t (leastB (clashB t all))).2.2 = 4 := by
  obtain ⟨x, hx, e⟩ := leastB_mem (l := clashB t all) (by intro e; rw [e] at h; simp at h)
  rw [e]
  exact clash_box hg hb hx _ (point_in (clash_sets hx))

end Go.Proofs.Ytlopccnehgolnab

namespace Go.Proofs.Ytlopccnehgolnab
open Go.RowKit Rb

theorem areas_any_in {all : Bx} {n : Nat} (hb : goodBx all (n : Int) = true) (ns : List Int) (hin : inBx all ns = true) : ∀ {rs : List Rl}, (∀ r ∈ rs, r.cells.length = n) →
    (areasTo rs all).any (fun b => goodBx b (all.length : Int) && inBx b ns) = rs.any (ruleHolds · ns)
  | [], _ => rfl
  | r :: rs, h => by
    have h6 : (all.length : Int) = n := (goodBx_iff.1 hb).2.1
    have hl3 := (goodBx_iff.1 hb).2.2
    have ih := areas_any_in hb ns hin (rs := rs) fun x hx => h x (by simp [hx])
    have e : areasTo (r :: rs) all = (if someBx (areaB r all) then [optBx (areaB r all)] else []) ++ areasTo rs all := rfl
    have hgb : goodBx all (all.length : Int) = true := by rw [h6]; exact hb
    have hr := h r (by simp)
    rw [e, List.any_append, List.any_cons, ih]
    congr 1
    cases ha : areaB r all with
    | none =>
      have := areaB_none ha (by omega) hgb ns
      rw [hin, Bool.true_and] at this
      rw [this]; rfl
    | some a =>
      obtain ⟨a1, a2, a3⟩ := areaB_some ha
      show ([a].any _) = _
      simp only [List.any_cons, List.any_nil, Bool.or_false]
      rw [show (all.length : Int) = (a.length : Int) by omega, goodBx_of a2 rfl (by omega), a1, hin]
      rfl

theorem cntIn_pos {l : List Bx} {ns : List Int} : 0 < cntIn l ns ↔ ∃ x ∈ l, inBx x ns = true := by
  unfold cntIn
  rw [List.length_pos_iff_exists_mem]
  simp only [List.mem_filter]

section
variable {t : Tb} {all : Bx} (hg : goodT t = true) (hb : goodBx all (t.ins.length : Int) = true)
include hg hb

theorem gapB_law : (∀ x ∈ gapB t all, Sets x) ∧ (t.pol ≠ 7 → ∀ ns, (∃ x ∈ gapB t all, inBx x ns = true) ↔ inBx all ns = true ∧ t.rules.any (ruleHolds · ns) = false) ∧ (t.pol = 7 → gapB t all = []) := by
  have h6 : (all.length : Int) = t.ins.length := (goodBx_iff.1 hb).2.1
  have hgb : goodBx all (all.length : Int) = true := by rw [h6]; exact hb
  have hlw := restB_law hgb (areasTo t.rules all)
  refine ⟨fun x hx => ?_, fun h7 ns => ?_, fun h7 => ?_⟩
  · unfold gapB at hx
    split at hx
    · exact ((hlw []).1 x hx).1
    · simp at hx
  · have e : gapB t all = restB all (areasTo t.rules all) := by unfold gapB; rw [hg, hb, decide_eq_false h7]; rfl
    rw [e, ← cntIn_pos, (hlw ns).2.2]
    unfold leftB
    cases hin : inBx all ns
    · simp
    · rw [areas_any_in hb ns hin fun r hr => goodT_cells hg hr]
      cases t.rules.any (ruleHolds · ns) <;> simp
  · unfold gapB; rw [decide_eq_true h7, Bool.not_true, Bool.and_false]; rfl

omit hg hb in
theorem sayLoop_ok (pol : Int) : ∀ (l : List Int) (n : Int), (sayLoop pol n l).2.2 = 0 → (sayLoop pol n l).2.1 = true
  | [], n, _ => rfl
  | o :: l, n, h => by
    have ih := sayLoop_ok pol l
    simp only [sayLoop] at h ⊢
    by_cases h1 : pol = 1
    · rw [if_pos h1] at h; cases h
    rw [if_neg h1] at h ⊢
    by_cases h2 : pol = 2
    · rw [if_pos h2] at h ⊢
      split at h
      · cases h
      · rename_i hx; rw [if_neg hx]; exact ih _ h
    rw [if_neg h2] at h ⊢
    split at h
    · rename_i h4; rw [if_pos h4]; exact ih _ h
    · rename_i h4
      rw [if_neg h4]
      split at h
      · rename_i h5; rw [if_pos h5]; exact ih _ h
      · rename_i h5
        rw [if_neg h5]
        split at h
        · rename_i h6; rw [if_pos h6]; exact ih _ h
        · rename_i h6; rw [if_neg h6]; exact ih _ h

omit hb in
theorem says_form {ns : List Int} (hl : ns.length = t.ins.length) : saysT t ns = if t.pol = 7 then (((outsL t.rules ns).length : Int), true, 0) else sayO t.pol (outsL t.rules ns) := by
  unfold saysT; rw [if_pos ⟨hg, hl⟩, sayL_eq]

omit hg hb in
theorem outs_nil {rs : List Rl} {ns : List Int} : outsL rs ns = [] ↔ rs.any (ruleHolds · ns) = false := by
  unfold outsL
  rw [List.map_eq_nil_iff, List.filter_eq_nil_iff, List.any_eq_false]

/-- Nothing is said, and no error given, just where no rule holds. -/
theorem gap_says (ns : List Int) (hin : inBx all ns = true) (h7 : t.pol ≠ 7) : ((saysT t ns).2.1 = false ∧ (saysT t ns).2.2 = 0) ↔ t.rules.any (ruleHolds · ns) = false := by
  have h6 : (all.length : Int) = t.ins.length := (goodBx_iff.1 hb).2.1
  have hlen := inBx_len hin
  rw [says_form hg (by omega), if_neg h7, ← outs_nil]
  cases outsL t.rules ns with
  | nil => simp [sayO]
  | cons o l =>
    constructor
    · rintro ⟨h1, h2⟩
      have := sayLoop_ok t.pol l o h2
      rw [show (sayO t.pol (o :: l)).2.1 = (sayLoop t.pol o l).2.1 from rfl, this] at h1
      cases h1
    · intro h; cases h

/-- The gap that is told is one: an input of the domains, and nothing is said of it. -/
theorem gap_at (h : 0 < (gapB t all).length) : inBx all (leastB (gapB t all)) = true ∧ (saysT t (leastB (gapB t all))).2.1 = false ∧ (saysT t (leastB (gapB t all))).2.2 = 0 := by
  obtain ⟨h1, h2, h3⟩ := gapB_law hg hb
  have h7 : t.pol ≠ 7 := fun e => by rw [h3 e] at h; simp at h
  obtain ⟨x, hx, e⟩ := leastB_mem (l := gapB t all) (by intro e; rw [e] at h; simp at h)
  rw [e]
  have hin := (h2 h7 _).1 ⟨x, hx, point_in (h1 x hx)⟩
  exact ⟨hin.1, (gap_says hg hb _ hin.1 h7).2 hin.2⟩
/-- Where there is no gap, something is said, or an error given. -/
theorem gap_no (ns : List Int) (hin : inBx all ns = true) (h0 : (saysT t ns).2.1 = false) (he : (saysT t ns).2.2 = 0) : ∃ x ∈ gapB t all, inBx x ns = true := by
  obtain ⟨h1, h2, h3⟩ := gapB_law hg hb
  have h6 : (all.length : Int) = t.ins.length := (goodBx_iff.1 hb).2.1
  have hlen := inBx_len hin
  have h7 : t.pol ≠ 7 := fun e => by rw [says_form hg (by omega), if_pos e] at h0; cases h0
  exact (h2 h7 ns).2 ⟨hin, (gap_says hg hb ns hin h7).1 ⟨h0, he⟩⟩
end

theorem sayLoop_in (pol : Int) (h6 : pol ≠ 6) (lo hi : Int) : ∀ (l : List Int) (n : Int), (lo ≤ n ∧ n ≤ hi) → (∀ o ∈ l, lo ≤ o ∧ o ≤ hi) → (sayLoop pol n l).2.1 = true → lo ≤ (sayLoop pol n l).1 ∧ (sayLoop pol n l).1 ≤ hi
  | [], n, hn, _, _ => hn
  | o :: l, n, hn, hl, h => by
    have ih := sayLoop_in pol h6 lo hi l
    have ho := hl o (by simp)
    have hl' : ∀ o ∈ l, lo ≤ o ∧ o ≤ hi := fun x hx => hl x (by simp [hx])
    simp only [sayLoop] at h ⊢
    by_cases h1 : pol = 1
    · rw [if_pos h1] at h; cases h
    rw [if_neg h1] at h ⊢
    by_cases h2 : pol = 2
    · rw [if_pos h2] at h ⊢
      split at h
      · cases h
      · rename_i hx; rw [if_neg hx]; exact ih _ hn hl' h
    rw [if_neg h2] at h ⊢
    split at h
    · rename_i h4; rw [if_pos h4]; exact ih _ (by omega) hl' h
    · rename_i h4
      rw [if_neg h4]
      split at h
      · rename_i h5; rw [if_pos h5]; exact ih _ (by omega) hl' h
      · rename_i h5
        rw [if_neg h5, if_neg h6]
        exact ih _ hn hl' (by first | exact h | (rw [if_neg h6] at h; exact h))
theorem sayLoop_sum : ∀ (l : List Int) (n : Int), sayLoop 6 n l = (n + l.sum, true, 0)
  | [], n => by simp [sayLoop]
  | o :: l, n => by
    have ih := sayLoop_sum l
    simp only [sayLoop, show ¬ (6 : Int) = 1 by omega, show ¬ (6 : Int) = 2 by omega, show ¬ (6 : Int) = 4 by omega, show ¬ (6 : Int) = 5 by omega, if_true, if_false]
    rw [ih, List.sum_cons]
    congr 1
    omega

theorem spanAt_in (pol : Int) (h6 : pol ≠ 6) : ∀ (l : List Rl) (k : Nat) (r : Int × Int), ((0 < k → (spanAt pol k l r).1 ≤ r.1 ∧ r.2 ≤ (spanAt pol k l r).2) ∧ ∀ x ∈ l, (spanAt pol k l r).1 ≤ x.out ∧ x.out ≤ (spanAt pol k l r).2)
  | [], _, r => ⟨fun _ => ⟨Int.le_refl _, Int.le_refl _⟩, fun x h => by simp at h⟩
  | x :: l, k, r => by
    obtain ⟨i1, i2⟩ := spanAt_in pol h6 l (k + 1) (spanStep pol k r x.out)
    have e : spanAt pol k (x :: l) r = spanAt pol (k + 1) l (spanStep pol k r x.out) := rfl
    rw [e]
    have hs : spanStep pol k r x.out = if k = 0 then (x.out, x.out) else (min r.1 x.out, max r.2 x.out) := by unfold spanStep; rw [if_neg h6]
    have hi := i1 (by omega)
    generalize hz : spanAt pol (k + 1) l (spanStep pol k r x.out) = z at *
    rw [hs] at hi
    by_cases hk : k = 0
    · rw [if_pos hk] at hi
      refine ⟨fun h => by omega, fun y hy => ?_⟩
      rcases List.mem_cons.1 hy with rfl | hy
      · exact hi
      · exact i2 y hy
    · rw [if_neg hk] at hi
      dsimp only at hi
      refine ⟨fun _ => by omega, fun y hy => ?_⟩
      rcases List.mem_cons.1 hy with rfl | hy
      · omega
      · exact i2 y hy
theorem spanAt_sum (ns : List Int) : ∀ (l : List Rl) (k : Nat) (r : Int × Int), (∀ x ∈ l, -1000000 ≤ x.out ∧ x.out ≤ 1000000) → (spanAt 6 k l r).1 ≤ r.1 + (outsL l ns).sum ∧ r.2 + (outsL l ns).sum ≤ (spanAt 6 k l r).2 ∧ (spanAt 6 k l r).1 ≤ r.1 ∧ r.2 ≤ (spanAt 6 k l r).2
  | [], _, r, _ => by simp [spanAt, outsL]
  | x :: l, k, r, h => by
    obtain ⟨i1, i2, i3, i4⟩ := spanAt_sum ns l (k + 1) (spanStep 6 k r x.out) fun y hy => h y (by simp [hy])
    have e : spanAt 6 k (x :: l) r = spanAt 6 (k + 1) l (spanStep 6 k r x.out) := rfl
    have hx := h x (by simp)
    have ho : (outsL (x :: l) ns).sum = (if ruleHolds x ns then x.out else 0) + (outsL l ns).sum := by
      unfold outsL
      rw [List.filter_cons]
      cases ruleHolds x ns <;> simp
    rw [e, ho]
    generalize spanAt 6 (k + 1) l (spanStep 6 k r x.out) = z at *
    have hs : spanStep 6 k r x.out = if x.out < 0 then (r.1 + max x.out (-1000000), r.2) else (r.1, r.2 + min x.out 1000000) := by unfold spanStep; rw [if_pos rfl]
    rw [hs] at i1 i2 i3 i4
    generalize (outsL l ns).sum = m at *
    cases ruleHolds x ns
    · simp only [Bool.false_eq_true, if_false]
      split at i1 <;> rename_i hc <;> simp only [hc, if_true, if_false] at i2 i3 i4 <;> dsimp only at * <;> omega
    · simp only [if_true]
      split at i1 <;> rename_i hc <;> simp only [hc, if_true, if_false] at i2 i3 i4 <;> dsimp only at * <;> omega

/-- What is said lies within the span. -/
theorem span_in {t : Tb} {ns : List Int} (hg : goodT t = true) (hl : ns.length = t.ins.length) (hok : (saysT t ns).2.1 = true) : (spanT t).1 ≤ (saysT t ns).1 ∧ (saysT t ns).1 ≤ (spanT t).2 := by
  have hf := says_form hg hl
  unfold spanT
  by_cases h7 : t.pol = 7
  · rw [if_pos h7] at hf ⊢
    rw [hf]
    have : (outsL t.rules ns).length ≤ t.rules.length := by unfold outsL; rw [List.length_map]; exact List.length_filter_le _ _
    dsimp only
    omega
  · rw [if_neg h7] at hf ⊢
    rw [hf] at hok ⊢
    by_cases h6 : t.pol = 6
    · rw [h6] at hok ⊢
      have hs := spanAt_sum ns t.rules 0 (0, 0) fun x hx => goodT_out hg hx
      cases ho : outsL t.rules ns with
      | nil => rw [ho] at hok; cases hok
      | cons o l =>
        rw [ho] at hs
        show _ ≤ (sayLoop 6 o l).1 ∧ (sayLoop 6 o l).1 ≤ _
        rw [sayLoop_sum]
        simp only [List.sum_cons] at hs
        dsimp only at hs ⊢
        omega
    · have hs := (spanAt_in t.pol h6 t.rules 0 (0, 0)).2
      have hm : ∀ o ∈ outsL t.rules ns, (spanAt t.pol 0 t.rules (0, 0)).1 ≤ o ∧ o ≤ (spanAt t.pol 0 t.rules (0, 0)).2 := by
        intro o ho
        unfold outsL at ho
        rw [List.mem_map] at ho
        obtain ⟨x, hx, rfl⟩ := ho
        exact hs x (List.mem_filter.1 hx).1
      cases ho : outsL t.rules ns with
      | nil => rw [ho] at hok; cases hok
      | cons o l =>
        rw [ho] at hok hm
        exact sayLoop_in t.pol h6 _ _ l o (hm o (by simp)) (fun x hx => hm x (by simp [hx])) hok

end Go.Proofs.Ytlopccnehgolnab
