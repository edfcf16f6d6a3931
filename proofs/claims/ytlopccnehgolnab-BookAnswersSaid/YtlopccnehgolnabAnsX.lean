/- The plain law of Ask: what each table says follows from what the others say. BookAnswers: the walk. -/
import Derived.Test.YtlopccnehgolnabAskX
import Derived.Test.YtlopccnehgolnabOrderX
import Derived.Test.YtlopccnehgolnabOneX
import Derived.Test.YtlopccnehgolnabClip
namespace Go.Proofs.Ytlopccnehgolnab
open Go.RowKit Rb

theorem bytesLess_irrefl : ∀ a : Txt, Op.bytesLess a a = false
  | [] => rfl
  | a :: l => by simp [Op.bytesLess, bytesLess_irrefl l]
theorem bytesLess_trans : ∀ {a b c : Txt}, Op.bytesLess a b = true → Op.bytesLess b c = true → Op.bytesLess a c = true
  | _, _, [], _, h => by simp [Op.bytesLess] at h
  | [], _, _ :: _, _, _ => rfl
  | a :: x, [], _ :: _, h, _ => by simp [Op.bytesLess] at h
  | a :: x, b :: y, c :: z, h1, h2 => by
    simp only [Op.bytesLess, Bool.or_eq_true, decide_eq_true_iff, Bool.and_eq_true, beq_iff_eq] at h1 h2 ⊢
    rcases h1 with h1 | ⟨rfl, h1⟩
    · rcases h2 with h2 | ⟨rfl, h2⟩
      · exact .inl (UInt8.lt_trans h1 h2)
      · exact .inl h1
    · rcases h2 with h2 | ⟨rfl, h2⟩
      · exact .inl h2
      · exact .inr ⟨rfl, bytesLess_trans h1 h2⟩
theorem rise_nodup {α : Type} {f : α → Txt} {l : List α} (h : ∀ k (hk : k + 1 < l.length), Op.bytesLess (f l[k]) (f l[k + 1]) = true) : (l.map f).Nodup := by
  have key : ∀ (j i : Nat) (hij : i < j) (hj : j < l.length), Op.bytesLess (f (l[i]'(by omega))) (f l[j]) = true := by
    intro j
    induction j with
    | zero => intro i hi; omega
    | succ j ih =>
      intro i hij hj
      rcases Nat.lt_succ_iff_lt_or_eq.1 hij with h1 | rfl
      · exact bytesLess_trans (ih i h1 (by omega)) (h j hj)
      · exact h i hj
  show List.Pairwise _ _
  rw [List.pairwise_iff_getElem]
  intro i j hi hj hij e
  rw [List.getElem_map, List.getElem_map] at e
  rw [List.length_map] at hj
  have := key j i hij hj
  rw [e, bytesLess_irrefl] at this
  cases this
theorem find_name {α : Type} {f : α → Txt} : ∀ {l : List α}, (l.map f).Nodup → ∀ {x : α}, x ∈ l → l.find? (fun y => f y == f x) = some x
  | a :: l, h, x, hx => by
    rw [List.map_cons, List.nodup_cons] at h
    rw [List.find?_cons]
    rcases List.mem_cons.1 hx with rfl | hx
    · simp
    · have : (f a == f x) = false := by
        rw [beq_eq_false_iff_ne]
        intro e
        exact h.1 (List.mem_map.2 ⟨x, hx, e.symm⟩)
      rw [this]
      exact find_name h.2 hx

structure CheckOk (b : Bk) : Prop where
  dl : b.doms.length ≤ 4
  tl : b.tabs.length ≤ 4
  doms : domsOk b.doms = true
  tabs : tabsOk b = true
  box : ∀ t ∈ b.tabs, someBx (boxOf b t) = true
  ord : (orderB b).isSome = true
  clash : ∀ t ∈ b.tabs, (clashB t (bxOf b t)).length = 0 ∧ (t.comp = true → (gapB t (bxOf b t)).length = 0)

theorem clashGap_ok {b : Bk} : ∀ {l : List Tb}, (clashGap b l).2.2 = 0 → ∀ t ∈ l, (clashB t (bxOf b t)).length = 0 ∧ (t.comp = true → (gapB t (bxOf b t)).length = 0)
  | [], _, t, ht => by cases ht
  | a :: l, h, t, ht => by
    rw [clashGap] at h
    split at h
    · cases h
    · rename_i h1
      split at h
      · cases h
      · rename_i h2
        rcases List.mem_cons.1 ht with rfl | ht
        · exact ⟨by omega, fun hc => by
            rcases Nat.eq_zero_or_pos (gapB t (bxOf b t)).length with h3 | h3
            · exact h3
            · exact absurd ⟨h3, hc⟩ h2⟩
        · exact clashGap_ok h t ht

theorem checkOk {b : Bk} (h : (checkB b).2.2 = 0) : CheckOk b := by
  have hl := checkB_le h
  have hd := checkB_tabs h
  unfold checkB at h
  rw [if_neg (by omega), if_neg (by rw [hd.1]; decide), if_neg (by rw [hd.2]; decide)] at h
  split at h
  · cases h
  · rename_i hf
    rw [List.find?_eq_none] at hf
    split at h
    · cases h
    · rename_i ho
      exact ⟨hl.1, hl.2, hd.1, hd.2, fun t ht => by simpa using hf t ht, by revert ho; cases (orderB b).isSome <;> simp, clashGap_ok h⟩

section
variable {b : Bk} (h : CheckOk b)
include h
theorem CheckOk.domAt {i : Nat} {d : Dm} (hd : b.doms[i]? = some d) : goodD d = true := by
  obtain ⟨hi, _⟩ := List.getElem?_eq_some_iff.1 hd
  have := List.all_eq_true.1 h.doms i (List.mem_range.2 hi)
  unfold domOk at this
  rw [hd] at this
  simp only [Bool.and_eq_true] at this
  exact this.1
theorem CheckOk.domNames : (b.doms.map (·.name)).Nodup := rise_nodup fun k hk => by
  have := List.all_eq_true.1 h.doms (k + 1) (List.mem_range.2 hk)
  unfold domOk at this
  rw [List.getElem?_eq_getElem hk] at this
  simp only [Bool.and_eq_true, Bool.or_eq_true, decide_eq_true_iff] at this
  rcases this.2 with h1 | h1
  · omega
  · rw [show k + 1 - 1 = k by omega] at h1
    simpa [nameD, List.getElem?_eq_getElem (show k < b.doms.length by omega)] using h1
theorem CheckOk.tabNames : (b.tabs.map (·.name)).Nodup := rise_nodup fun k hk => by
  have := List.all_eq_true.1 h.tabs (k + 1) (List.mem_range.2 hk)
  unfold tabOk at this
  rw [List.getElem?_eq_getElem hk] at this
  simp only [Bool.and_eq_true, Bool.or_eq_true, decide_eq_true_iff] at this
  rcases this.2 with h1 | h1
  · omega
  · rw [show k + 1 - 1 = k by omega] at h1
    simpa [nameT, List.getElem?_eq_getElem (show k < b.tabs.length by omega)] using h1
theorem CheckOk.apart {t : Tb} (ht : t ∈ b.tabs) : findD b.doms t.name = none := by
  obtain ⟨i, hi, rfl⟩ := List.getElem_of_mem ht
  have := List.all_eq_true.1 h.tabs i (List.mem_range.2 hi)
  unfold tabOk at this
  rw [List.getElem?_eq_getElem hi] at this
  simp only [Bool.and_eq_true, Bool.not_eq_true', Option.isSome_eq_false_iff, Option.isNone_iff_eq_none] at this
  exact this.1.2
theorem CheckOk.good {t : Tb} (ht : t ∈ b.tabs) : goodT t = true := tabsOk_good h.tabs t ht
theorem CheckOk.findT {t : Tb} (ht : t ∈ b.tabs) : findT b.tabs t.name = some t := find_name h.tabNames ht
theorem CheckOk.findD {d : Dm} (hd : d ∈ b.doms) : findD b.doms d.name = some d := find_name h.domNames hd
end

def SameA (a c : An) : Prop := a.found = c.found ∧ a.n = c.n
theorem gotM_congr {m m' : Txt → Option An} : ∀ {l : List Txt}, (∀ s ∈ l, SameA (atM m s) (atM m' s)) → gotM m l = gotM m' l
  | [], _ => rfl
  | s :: l, h => by
    rw [gotM, gotM, gotM_congr fun s hs => h s (by simp [hs]), (h s (by simp)).1, (h s (by simp)).2]
theorem gotM_eq (m : Txt → Option An) : ∀ l : List Txt, gotM m l = if l.all (fun s => (atM m s).found) then some (l.map fun s => (atM m s).n) else none
  | [] => rfl
  | s :: l => by
    rw [gotM, gotM_eq m l, List.all_cons, List.map_cons]
    cases (atM m s).found
    · simp
    · cases l.all fun s => (atM m s).found <;> simp
theorem saysA_congr {m m' : Txt → Option An} {t : Tb} (h : ∀ s ∈ t.ins, SameA (atM m s) (atM m' s)) : saysA m t = saysA m' t := by
  unfold saysA
  rw [gotM_congr h]
theorem knownTo_no {l : List Dm} {cs : List Int} {s : Txt} : ∀ {n : Nat}, (∀ d ∈ l, d.name ≠ s) → knownTo l cs n s = none
  | 0, _ => rfl
  | n + 1, h => by
    unfold knownTo
    cases hd : l[n]? with
    | some d =>
      dsimp only
      unfold putA
      rw [if_neg fun e => h d (List.mem_of_getElem? hd) e.symm]
      exact knownTo_no h
    | none => exact knownTo_no h
theorem knownTo_at {l : List Dm} {cs : List Int} (hn : (l.map (·.name)).Nodup) {i : Nat} {d : Dm} (hd : l[i]? = some d) : ∀ {n : Nat}, i < n → knownTo l cs n d.name = some ⟨[], true, (cs[i]?).getD 0⟩
  | n + 1, hi => by
    unfold knownTo
    rcases Nat.lt_succ_iff_lt_or_eq.1 hi with h1 | rfl
    · cases hd' : l[n]? with
      | some d' =>
        dsimp only
        unfold putA
        rw [if_neg]
        · exact knownTo_at hn hd h1
        · intro e
          have h2 : (l.map (·.name))[i]? = some d.name := by rw [List.getElem?_map, hd]; rfl
          have h3 : (l.map (·.name))[n]? = some d.name := by rw [List.getElem?_map, hd', e]; rfl
          have := nodup_at hn h2 h3
          omega
      | none => exact knownTo_at hn hd h1
    · rw [hd]
      simp [putA]
theorem askedTo_other {b : Bk} {cs : List Int} {o : List Txt} {s : Txt} : ∀ {k : Nat}, (∀ j, j < k → o[j]? ≠ some s) → askedTo b cs o k s = knownTo b.doms cs b.doms.length s
  | 0, _ => rfl
  | k + 1, h => by
    cases hx : o[k]? with
    | none =>
      have : askedTo b cs o (k + 1) = askedTo b cs o k := by
        unfold askedTo
        rw [List.getElem?_eq_none_iff] at hx
        rw [List.take_of_length_le (by omega), List.take_of_length_le hx]
      rw [this]
      exact askedTo_other fun j hj => h j (by omega)
    | some x =>
      rw [askedTo_succ hx]
      unfold putA
      rw [if_neg fun e => h k (by omega) (by rw [hx, e])]
      exact askedTo_other fun j hj => h j (by omega)
theorem askedTo_at {b : Bk} {cs : List Int} {o : List Txt} (hn : o.Nodup) {j : Nat} {s : Txt} (hs : o[j]? = some s) : ∀ {k : Nat}, j < k → askedTo b cs o k s = some (saysA (askedTo b cs o j) (tbOf (findT b.tabs s)))
  | k + 1, hj => by
    rcases Nat.lt_succ_iff_lt_or_eq.1 hj with h1 | rfl
    · cases hx : o[k]? with
      | none =>
        have : askedTo b cs o (k + 1) = askedTo b cs o k := by
          unfold askedTo
          rw [List.getElem?_eq_none_iff] at hx
          rw [List.take_of_length_le (by omega), List.take_of_length_le hx]
        rw [this]
        exact askedTo_at hn hs h1
      | some x =>
        rw [askedTo_succ hx]
        unfold putA
        rw [if_neg]
        · exact askedTo_at hn hs h1
        · intro e
          have := nodup_at hn hs (hx.trans (by rw [e]))
          omega
    · rw [askedTo_succ hs]
      simp [putA]
theorem asked_eq (b : Bk) (cs : List Int) (o : List Txt) : asked b cs o = askedTo b cs o o.length := by
  unfold asked askedTo
  rw [List.take_length]

theorem gotM_len {m : Txt → Option An} {l : List Txt} {own : List Int} (h : gotM m l = some own) : own.length = l.length := by
  rw [gotM_eq] at h
  split at h
  · injection h with h
    rw [← h, List.length_map]
  · cases h
theorem gotM_found {m : Txt → Option An} {l : List Txt} {own : List Int} (h : gotM m l = some own) : (∀ s ∈ l, (atM m s).found = true) ∧ own = l.map fun s => (atM m s).n := by
  rw [gotM_eq] at h
  split at h
  · rename_i h1
    rw [List.all_eq_true] at h1
    injection h with h
    exact ⟨h1, h.symm⟩
  · cases h
theorem boxGo_some {b : Bk} : ∀ {l : List Txt} {x : Bx}, boxGo b l = some x → x = l.map (fun s => [allR b s]) ∧ ∀ s ∈ l, okIn b s = true
  | [], x, h => by
    rw [boxGo] at h
    injection h with h
    exact ⟨h.symm, fun s hs => by cases hs⟩
  | s :: l, x, h => by
    rw [boxGo] at h
    split at h
    · rename_i h1
      rw [Option.map_eq_some_iff] at h
      obtain ⟨y, hy, rfl⟩ := h
      obtain ⟨rfl, h3⟩ := boxGo_some hy
      exact ⟨rfl, fun s' hs' => by
        rcases List.mem_cons.1 hs' with rfl | hs'
        · exact h1
        · exact h3 s' hs'⟩
    · cases h

theorem ord_names {b : Bk} {o : List Txt} (ho : orderB b = some o) {i : Nat} {s : Txt} (hs : o[i]? = some s) : ∃ t ∈ b.tabs, t.name = s := by
  obtain ⟨I, _⟩ := orderGo_I b.tabs.length (OrdI.nil b) ho
  obtain ⟨t, ht, hn, _⟩ := I.each i s hs
  exact ⟨t, ht, hn⟩
section
variable {b : Bk} {cs : List Int} {o : List Txt} (h : CheckOk b) (hin : insOk b.doms cs = true) (ho : orderB b = some o)
include ho
theorem asked_other {s : Txt} (hs : ∀ t ∈ b.tabs, t.name ≠ s) (k : Nat) : askedTo b cs o k s = knownTo b.doms cs b.doms.length s :=
  askedTo_other fun j _ hj => by
    obtain ⟨t, ht, hn⟩ := ord_names ho hj
    exact hs t ht hn
include h
/-- Each table's answer follows from the others'. -/
theorem asked_says {t : Tb} (ht : t ∈ b.tabs) : atM (asked b cs o) t.name = saysA (asked b cs o) t := by
  have hd : ∀ t ∈ b.tabs, ∀ u ∈ b.tabs, t.name = u.name → t = u := names_inj h.tabNames
  obtain ⟨hn, hl, hp⟩ := order_law hd ho
  obtain ⟨i, hi, hj⟩ := hp t ht
  have hil := (List.getElem?_eq_some_iff.1 hi).1
  rw [asked_eq]
  have h1 : askedTo b cs o o.length t.name = some (saysA (askedTo b cs o i) t) := by
    rw [askedTo_at hn hi hil, h.findT ht]
    rfl
  unfold atM
  rw [h1]
  show saysA (askedTo b cs o i) t = _
  refine saysA_congr fun s hs => ?_
  by_cases hm : (findT b.tabs s).isSome = true
  · obtain ⟨j, hji, hoj⟩ := hj s hs hm
    have h2 : askedTo b cs o i s = askedTo b cs o o.length s := by rw [askedTo_at hn hoj hji, askedTo_at hn hoj (by omega)]
    unfold atM
    rw [h2]
    exact ⟨rfl, rfl⟩
  · have hno : ∀ t ∈ b.tabs, t.name ≠ s := fun t ht e => hm (by rw [← e, h.findT ht]; rfl)
    unfold atM
    rw [asked_other ho hno, asked_other ho hno]
    exact ⟨rfl, rfl⟩
include hin
theorem asked_dom {i : Nat} {d : Dm} (hd : b.doms[i]? = some d) : atM (asked b cs o) d.name = ⟨[], true, (cs[i]?).getD 0⟩ ∧ d.lo ≤ (cs[i]?).getD 0 ∧ (cs[i]?).getD 0 ≤ d.hi := by
  obtain ⟨hi, _⟩ := List.getElem?_eq_some_iff.1 hd
  have hno : ∀ t ∈ b.tabs, t.name ≠ d.name := fun t ht e => by
    have h1 := h.apart ht
    rw [e, h.findD (List.mem_of_getElem? hd)] at h1
    cases h1
  refine ⟨?_, ?_⟩
  · unfold atM
    rw [asked_eq, asked_other ho hno, knownTo_at h.domNames hd hi]
    rfl
  · have := List.all_eq_true.1 hin i (List.mem_range.2 hi)
    unfold inOk at this
    rw [hd] at this
    simpa using this
/-- What is said lies within what may be said. -/
theorem asked_range {s : Txt} (hs : okIn b s = true) (hf : (atM (asked b cs o) s).found = true) : (allR b s).1 ≤ (atM (asked b cs o) s).n ∧ (atM (asked b cs o) s).n ≤ (allR b s).2 := by
  cases hd : findD b.doms s with
  | some d =>
    have hm := List.mem_of_find?_eq_some hd
    have hn : d.name = s := by have := List.find?_some hd; simpa using this
    obtain ⟨i, hi, rfl⟩ := List.getElem_of_mem hm
    obtain ⟨h1, h2, h3⟩ := asked_dom h hin ho (List.getElem?_eq_getElem hi)
    rw [hn] at h1
    unfold allR
    rw [hd, h1]
    exact ⟨h2, h3⟩
  | none =>
    have h1 : (findT b.tabs s).isSome = true := by
      unfold okIn allOk at hs
      rw [hd] at hs
      simp only [Bool.and_eq_true] at hs
      simpa using hs.1
    obtain ⟨t, ht⟩ := Option.isSome_iff_exists.1 h1
    have hm := List.mem_of_find?_eq_some ht
    have hn : t.name = s := by have := List.find?_some ht; simpa using this
    have hsy := asked_says (cs := cs) h ho hm
    rw [hn] at hsy
    unfold allR
    rw [hd, ht]
    rw [hsy] at hf ⊢
    show (spanT t).1 ≤ _ ∧ _ ≤ (spanT t).2
    unfold saysA at hf ⊢
    cases hg : gotM (asked b cs o) t.ins with
    | none => rw [hg] at hf; cases hf
    | some own =>
      rw [hg] at hf
      exact span_in (h.good hm) (gotM_len hg) hf
/-- Of what its inputs say a table says one thing, and, if it promised to, something. -/
theorem asked_law {t : Tb} (ht : t ∈ b.tabs) {own : List Int} (hg : gotM (asked b cs o) t.ins = some own) : (saysT t own).2.2 = 0 ∧ (t.comp = true → (saysT t own).2.1 = true) := by
  obtain ⟨hfd, rfl⟩ := gotM_found hg
  obtain ⟨x, hx⟩ : ∃ x, boxOf b t = some x := by
    have := h.box t ht
    unfold someBx at this
    split at this
    · rename_i x hx; exact ⟨x, hx⟩
    · cases this
  obtain ⟨rfl, hok⟩ := boxGo_some hx
  have hbx : bxOf b t = t.ins.map (fun s => [allR b s]) := by unfold bxOf; rw [hx]; rfl
  have hgt := h.good ht
  have h3 := (goodT_head hgt).2.2.2.1
  have hr : ∀ s ∈ t.ins, ((allR b s).1 ≤ (atM (asked b cs o) s).n ∧ (atM (asked b cs o) s).n ≤ (allR b s).2) ∧ -1000000 ≤ (allR b s).1 ∧ (allR b s).2 ≤ 1000000 := fun s hs => by
    refine ⟨asked_range h hin ho (hok s hs) (hfd s hs), ?_⟩
    have := hok s hs
    unfold okIn at this
    simp only [Bool.and_eq_true, decide_eq_true_iff] at this
    exact this.2
  have hgb : goodBx (bxOf b t) (t.ins.length : Int) = true := by
    rw [hbx, goodBx_iff]
    refine ⟨fun s hs => ?_, by rw [List.length_map], by omega⟩
    rw [List.mem_map] at hs
    obtain ⟨s', hs', rfl⟩ := hs
    have := hr s' hs'
    exact ⟨by simp, by show GoodFrom (-MX - 2) [allR b s']; unfold GoodFrom GoodFrom MX; exact ⟨by omega, by omega, by omega, by omega, trivial⟩⟩
  have hib : ∀ l : List Txt, (∀ s ∈ l, s ∈ t.ins) → inBx (l.map fun s => [allR b s]) (l.map fun s => (atM (asked b cs o) s).n) = true := by
    intro l
    induction l with
    | nil => intro _; rfl
    | cons s l ih =>
      intro hl
      rw [List.map_cons, List.map_cons, inBx, ih fun s hs => hl s (by simp [hs]), Bool.and_true]
      have := (hr s (hl s (by simp))).1
      simp [hasL, inR, this.1, this.2]
  have hin' : inBx (bxOf b t) (t.ins.map fun s => (atM (asked b cs o) s).n) = true := by rw [hbx]; exact hib t.ins fun s hs => hs
  obtain ⟨c1, c2⟩ := h.clash t ht
  have he : (saysT t (t.ins.map fun s => (atM (asked b cs o) s).n)).2.2 = 0 := by
    apply Classical.byContradiction
    intro h4
    obtain ⟨x, hx, _⟩ := clash_all hgt hgb _ hin' h4
    rw [List.eq_nil_of_length_eq_zero c1] at hx
    cases hx
  refine ⟨he, fun hc => ?_⟩
  cases h0 : (saysT t (t.ins.map fun s => (atM (asked b cs o) s).n)).2.1 with
  | true => rfl
  | false =>
    obtain ⟨x, hx, _⟩ := gap_no hgt hgb _ hin' h0 he
    rw [List.eq_nil_of_length_eq_zero (c2 hc)] at hx
    cases hx
end

/-- What the law knows is what was asked. -/
theorem lawK {m : Txt → Option An} : ∀ (l : List Tb) (K : Txt → Option An), (∀ s, (∀ t ∈ l, t.name ≠ s) → SameA (atM K s) (atM m s)) → ∀ s, SameA (atM ((l.map (answerOf m)).foldl (fun k a => putA k a.name a) K) s) (atM m s)
  | [], K, h, s => h s fun t ht => by cases ht
  | t :: l, K, h, s => by
    rw [List.map_cons, List.foldl_cons]
    refine lawK l _ (fun s' hs' => ?_) s
    by_cases e : s' = t.name
    · subst e
      unfold atM putA
      rw [if_pos (show t.name = (answerOf m t).name from rfl)]
      exact ⟨rfl, rfl⟩
    · have h1 : atM (putA K (answerOf m t).name (answerOf m t)) s' = atM K s' := by
        unfold atM putA
        rw [if_neg (show s' ≠ (answerOf m t).name from e)]
      rw [h1]
      refine h s' fun t' ht' => ?_
      rcases List.mem_cons.1 ht' with rfl | ht'
      · exact fun e' => e e'.symm
      · exact hs' t' ht'

theorem clipTo_len (ns : List Int) (l : List Dm) : (clipTo ns l).length = l.length := by unfold clipTo; simp
theorem clip_ok {b : Bk} (h : CheckOk b) (ns : List Int) : insOk b.doms (clipTo ns b.doms) = true := by
  unfold insOk
  rw [List.all_eq_true]
  intro i hi
  rw [List.mem_range] at hi
  have hg := h.domAt (List.getElem?_eq_getElem hi)
  unfold goodD at hg
  simp only [Bool.and_eq_true, decide_eq_true_iff] at hg
  unfold inOk
  rw [List.getElem?_eq_getElem hi]
  have : (clipTo ns b.doms)[i]? = some (clipV b.doms[i].lo b.doms[i].hi ((ns[i]?).getD 0)) := by
    unfold clipTo
    rw [List.getElem?_map, List.getElem?_range hi]
    simp [List.getElem?_eq_getElem hi]
  rw [this]
  simp only [Option.getD_some, Bool.and_eq_true, decide_eq_true_iff]
  unfold clipV
  omega

end Go.Proofs.Ytlopccnehgolnab

namespace Go.Proofs.Ytlopccnehgolnab
open Go.RowKit Rb

section
variable {w : World} {S : Nat → Prop} {A : Option Addr} {l : List An}
theorem Elems.an (h : Elems rAn w S A l) {i : Nat} (hi : i < l.length) : ∃ b off x, A = some ⟨b, off, none⟩ ∧ S b ∧ b < w.heap.size ∧ l[i]? = some x ∧ (x.name.length ≤ 140737488355328 ∧ InI x.n) ∧
    w.cell? ⟨b, off + i * 3, none⟩ = some (.string ⟨x.name.toArray⟩) ∧ w.cell? ⟨b, off + i * 3 + 1, none⟩ = some (.bool x.found) ∧ w.cell? ⟨b, off + i * 3 + 2, none⟩ = some (.int .i64 x.n) := by
  obtain ⟨b, off, es, hA, hS, hb, ⟨rfl, hr⟩, hc⟩ := h i l[i] (List.getElem?_eq_getElem hi)
  exact ⟨b, off, l[i], hA, hS, hb, List.getElem?_eq_getElem hi, hr, hc 0 _ rfl, hc 1 _ rfl, hc 2 _ rfl⟩
end
theorem clipped_at {S T : Nat → Prop} {bs : List Value} {b : Bk} {u : Value} {ns cs : List Int} (w : World) (hb : rBk.rel w S bs b) (hn : (rSl rInt).rel w T [u] ns) (h : clipTo ns b.doms = cs) :
    Calls Try.prog 18 #[.agg bs.toArray, u] w fun e w' => ∃ A c S', e = .returned (.slice A cs.length c) ∧ (rSl rInt).rel w' S' [.slice A cs.length c] cs ∧ Below w.heap.size w w' := by
  refine (clipped_any w hb hn).mono ?_
  rintro e w' ⟨z, he, hz, hb'⟩
  rw [h] at hz
  obtain ⟨A, c, rfl⟩ := hz.value
  exact ⟨A, c, _, he, hz.rel (by decide), hb'⟩
def lawTo (l : List An) (K0 : Txt → Option An) (k : Nat) : Txt → Option An := (l.take k).foldl (fun m a => putA m a.name a) K0
theorem lawTo_succ {l : List An} {K0 : Txt → Option An} {k : Nat} {a : An} (h : l[k]? = some a) : lawTo l K0 (k + 1) = putA (lawTo l K0 k) a.name a := by
  unfold lawTo
  rw [take_getElem? h, List.foldl_append]
  rfl
theorem ask_ok {b : Bk} {cs : List Int} {o : List Txt} (h : (checkB b).2.2 = 0) (hl : cs.length = b.doms.length) (hi : insOk b.doms cs = true) (ho : orderB b = some o) : askB b cs = (b.tabs.map (answerOf (asked b cs o)), 0) := by
  unfold askB
  rw [if_neg (by rw [h]; simp), if_neg (by rw [hl]; simp), if_neg (by rw [hi]; decide), ho]
  rfl
theorem allTo_succ {m : Txt → Option An} {l : List Txt} {k : Nat} {s : Txt} (h : l[k]? = some s) : (l.take (k + 1)).all (fun s => (atM m s).found) = ((l.take k).all (fun s => (atM m s).found) && (atM m s).found) := by
  rw [take_getElem? h, List.all_append]
  simp
theorem ownTo_succ {m : Txt → Option An} {l : List Txt} {k : Nat} {s : Txt} (h : l[k]? = some s) : (l.take (k + 1)).map (fun s => (atM m s).n) = (l.take k).map (fun s => (atM m s).n) ++ [(atM m s).n] := by
  rw [take_getElem? h, List.map_append]
  rfl
/-- What the law looks at, at one table. -/
theorem ans_final {b : Bk} {cs : List Int} {o : List Txt} {K : Txt → Option An} (h : CheckOk b) (hin : insOk b.doms cs = true) (ho : orderB b = some o) (hK : ∀ s, SameA (atM K s) (atM (asked b cs o) s)) {t : Tb} (ht : t ∈ b.tabs) {own : List Int} {al : Bool}
    (hal : t.ins.all (fun s => (atM K s).found) = al) (how : t.ins.map (fun s => (atM K s).n) = own) :
    (al = false → (answerOf (asked b cs o) t).found = false) ∧ (al = true → (answerOf (asked b cs o) t).found = (saysT t own).2.1 ∧ (answerOf (asked b cs o) t).n = (saysT t own).1 ∧ (saysT t own).2.2 = 0 ∧ (t.comp = true → (saysT t own).2.1 = true)) := by
  have hg : gotM (asked b cs o) t.ins = gotM K t.ins := gotM_congr fun s _ => ⟨(hK s).1.symm, (hK s).2.symm⟩
  have hs := asked_says (cs := cs) h ho ht
  rw [gotM_eq K, hal, how] at hg
  unfold answerOf
  rw [hs]
  unfold saysA
  refine ⟨fun e => ?_, fun e => ?_⟩
  · subst e
    rw [hg]
    rfl
  · subst e
    rw [if_pos rfl] at hg
    rw [hg]
    obtain ⟨h1, h2⟩ := asked_law h hin ho ht hg
    exact ⟨rfl, rfl, h1, h2⟩

set_option maxRecDepth 100000 in
set_option maxHeartbeats 3200000 in
theorem BookAnswers_walk {S T : Nat → Prop} {bs : List Value} {b : Bk} {u : Value} {ns : List Int} (w : World) (hl : rBk.rel w S bs b) (hn : (rSl rInt).rel w T [u] ns) :
    Calls Try.prog 5 #[.agg bs.toArray, u] w fun e w' => e = .returned (.bool true) ∧ Below w.heap.size w w' := by
  have hl' := hl
  obtain ⟨v0, u0, rfl, hd, htb⟩ := hl
  obtain ⟨A, c, rfl, _, _, hbd, hD⟩ := rSl.elems hd
  obtain ⟨B, d, rfl, _, _, hbt, hF⟩ := rSl.elems htb
  obtain ⟨C, g, rfl, _⟩ := rSl.elems hn
  have hld : b.doms.length ≤ 4398046511104 := by simp only [rDm] at hbd; omega
  have hlt5 : b.tabs.length ≤ 1759218604441 := by simp only [rTb] at hbt; omega
  obtain ⟨W0, e0, HB0, c0, c1, hs0, HBK, HNS⟩ : ∃ W0, w.alloc (.cells #[.slice A b.doms.length c, .slice B b.tabs.length d] 46) = W0 ∧ Hid (Below w.heap.size w W0) ∧ W0.cell? ⟨w.heap.size, 0, none⟩ = some (.slice A b.doms.length c) ∧ W0.cell? ⟨w.heap.size, 1, none⟩ = some (.slice B b.tabs.length d) ∧ w.heap.size < W0.heap.size ∧ Hid (rBk.rel W0 S [.slice A b.doms.length c, .slice B b.tabs.length d] b) ∧ Hid ((rSl rInt).rel W0 T [.slice C ns.length g] ns) :=
    ⟨_, rfl, Lib.hid ((Below.refl _ _).alloc (Nat.le_refl _) _), World.cell?_alloc_new _ _ _ _, World.cell?_alloc_new _ _ _ _, by simp, Lib.hid (Rd.alloc hl' _), Lib.hid (Rd.alloc hn _)⟩
  have HD := Lib.hid hD
  have HF := Lib.hid hF
  clear hl' hd htb hbd hbt hn hD hF
  obtain ⟨⟨nm, at_, er⟩, hck⟩ : ∃ x, checkB b = x := ⟨_, rfl⟩
  have HCK := Lib.hid hck
  have hmm := @run_makeMap Try.prog
  go_enter Try.func5, Try.ntmps5
  by_cases her : er = 0
  · subst her
    have HC0 : Hid ((checkB b).2.2 = 0) := Lib.hid (by rw [hck])
    have HOK := Lib.hid (checkOk HC0.out)
    obtain ⟨cs, hcs⟩ : ∃ x, clipTo ns b.doms = x := ⟨_, rfl⟩
    have HCS := Lib.hid hcs
    have HCL : Hid (cs.length = b.doms.length) := Lib.hid (by rw [← hcs, clipTo_len])
    have HIN : Hid (insOk b.doms cs = true) := Lib.hid (by rw [← hcs]; exact clip_ok HOK.out ns)
    obtain ⟨o, ho⟩ := Option.isSome_iff_exists.1 HOK.out.ord
    have HO := Lib.hid ho
    obtain ⟨l, hl⟩ : ∃ x, b.tabs.map (answerOf (asked b cs o)) = x := ⟨_, rfl⟩
    have HL := Lib.hid hl
    have HLL : Hid (l.length = b.tabs.length) := Lib.hid (by rw [← hl, List.length_map])
    have HAS : Hid (askB b cs = (l, 0)) := Lib.hid (by rw [ask_ok HC0.out HCL.out HIN.out ho, hl])
    have hq1 : ((l.length : Int) == (b.tabs.length : Int)) = true := by rw [HLL.out]; simp
    have hq2 : (l.length == b.tabs.length) = true := by rw [HLL.out]; simp
    have hq3 : ((l.length : Int) != (b.tabs.length : Int)) = false := by rw [HLL.out]; simp
    clear hck hcs ho hl
    go_wp2_with (first | (go_at_call 16; go_must ((with_reducible refine (Check_at W0 HBK.out HCK.out).mono ?_); rintro e w1 ⟨Ak, ck, Sk, rfl, _, hb1⟩; have HB1 := Lib.hid hb1; have d0 := (hb1.cell (p := ⟨w.heap.size, 0, none⟩) hs0).trans c0; have d1 := (hb1.cell (p := ⟨w.heap.size, 1, none⟩) hs0).trans c1; clear hb1)) | (go_at_call 17; go_must ((with_reducible refine (booksKeep_any _).mono ?_); rintro e w2 ⟨rfl, hb2⟩; have HB2 := Lib.hid (HB1.out.trans (hb2.mono HB1.out.size)); have f0 := (HB2.out.cell (p := ⟨w.heap.size, 0, none⟩) hs0).trans c0; have f1 := (HB2.out.cell (p := ⟨w.heap.size, 1, none⟩) hs0).trans c1; have HBK2 := Lib.hid (Rd.below HBK.out HB2.out); have HNS2 := Lib.hid (Rd.below HNS.out HB2.out); clear hb2)) | (go_at_call 18; go_must ((with_reducible refine (clipped_at w2 HBK2.out HNS2.out HCS.out).mono ?_); rintro e w3 ⟨Ac, cc, Sc, rfl, hz3, hb3⟩; have HB3 := Lib.hid (HB2.out.trans (hb3.mono HB2.out.size)); have HBK3 := Lib.hid (Rd.below HBK2.out hb3); have HZ3 := Lib.hid hz3; have g0 := (HB3.out.cell (p := ⟨w.heap.size, 0, none⟩) hs0).trans c0; have g1 := (HB3.out.cell (p := ⟨w.heap.size, 1, none⟩) hs0).trans c1; clear hb3 hz3 f0 f1)) | (go_at_call 19; go_must ((with_reducible refine (Ask_at w3 HBK3.out HZ3.out HAS.out).mono ?_); rintro e w4 ⟨Al, cl, Sl, rfl, hz4, hb4⟩; have HB4 := Lib.hid (HB3.out.trans (hb4.mono HB3.out.size)); obtain ⟨WM, eM, HBM, HMA, m0, m1, HCM, HLM, HSM⟩ : ∃ WM, w4.alloc (.map #[] 0) = WM ∧ Hid (Below W0.heap.size W0 WM) ∧ Hid (MapA WM w4.heap.size 0 (knownTo b.doms cs 0)) ∧ WM.cell? ⟨w.heap.size, 0, none⟩ = some (.slice A b.doms.length c) ∧ WM.cell? ⟨w.heap.size, 1, none⟩ = some (.slice B b.tabs.length d) ∧ Hid ((rSl rInt).rel WM (fun b => b < w4.heap.size) [.slice Ac cs.length cc] cs) ∧ Hid ((rSl rAn).rel WM (fun b => b < w4.heap.size) [.slice Al l.length cl] l) ∧ Hid (W0.heap.size ≤ w4.heap.size) := ⟨_, rfl, Lib.hid (HB4.out.alloc HB4.out.size _), Lib.hid (MapA.made _), ((HB4.out.alloc HB4.out.size _).cell (p := ⟨w.heap.size, 0, none⟩) hs0).trans c0, ((HB4.out.alloc HB4.out.size _).cell (p := ⟨w.heap.size, 1, none⟩) hs0).trans c1, Lib.hid (Rd.alloc ((rSl rInt).mono (Rd.below HZ3.out hb4) fun _ _ h => h) _), Lib.hid (Rd.alloc ((rSl rAn).mono hz4 fun _ _ h => h) _), Lib.hid HB4.out.size⟩; have h1 := (HB4.out.cell (p := ⟨w.heap.size, 1, none⟩) hs0).trans c1; clear hb4 hz4 g0 g1)))
    clear d0 d1 m0 h1 eM hq1 hq2 hq3 e0
    generalize hmb : w4.heap.size = mb at *
    clear hmb
    go_loopw [60] (fun i wr => ∃ (k n : Nat), k ≤ b.doms.length ∧ i = .int .i64 k ∧ Hid (MapA wr mb n (knownTo b.doms cs k)) ∧ Hid (n ≤ k) ∧ Hid (Below mb WM wr)) (fun i _ => b.doms.length - (intOf i).toNat)
    case atStart => exact ⟨0, 0, Nat.zero_le _, rfl, HMA, Lib.hid (Nat.le_refl _), Lib.hid (Below.refl _ _)⟩
    case round =>
      obtain ⟨k, n, hk, rfl, HM, Hn, HBm⟩ := hrel
      have HB := Lib.hid (HBM.out.trans (HBm.out.mono HSM.out))
      by_cases hlt : k < b.doms.length
      · obtain ⟨bB, off, x, rfl, hbB, hx, ⟨hxl, hxi⟩, g0, g1, g2⟩ := HD.out.dm hlt
        obtain ⟨_, _, hA0, _, _, _, hE⟩ := rSl.elems HCM.out
        obtain ⟨rfl, rfl⟩ : Ac = _ ∧ cc = _ := by injection hA0 with h1 h2 h3; exact ⟨h1, h3⟩
        obtain ⟨q, off', v, rfl, hSq, hq, hy, hyi, h3⟩ := hE.intAt (show k < cs.length by rw [HCL.out]; exact hlt)
        have hbw := HB0.out.trans (HB.out.mono HB0.out.size)
        rw [← hbw.cell (p := ⟨bB, _, none⟩) hbB] at g0 g1 g2
        rw [← HBm.out.cell (p := ⟨q, _, none⟩) hSq] at h3
        have hik : (k : Int) < (b.doms.length : Int) := by omega
        have hin : (k : Int) < (cs.length : Int) := by rw [HCL.out]; exact hik
        have HKN : Hid (knownTo b.doms cs (k + 1) = putA (knownTo b.doms cs k) x.name ⟨[], true, v⟩) := Lib.hid (by rw [knownTo, hx, hy]; rfl)
        have HQ : Hid (q < wr.heap.size) := Lib.hid (Nat.lt_of_lt_of_le hq HBm.out.size)
        obtain ⟨W4, e4, HB4m, a0, a4, HM4⟩ : ∃ W4, wr.alloc (.cells #[.string ⟨x.name.toArray⟩, .int .i64 x.lo, .int .i64 x.hi] 55) = W4 ∧ Hid (Below mb WM W4) ∧ W4.cell? ⟨wr.heap.size, 0, none⟩ = some (.string ⟨x.name.toArray⟩) ∧ W4.cell? ⟨q, off' + k, none⟩ = some (.int .i64 v) ∧ Hid (MapA W4 mb n (knownTo b.doms cs k)) :=
          ⟨_, rfl, Lib.hid (HBm.out.alloc (Nat.le_of_lt HM.out.1.lt) _), World.cell?_alloc_new _ _ _ _, (World.cell?_alloc_lt _ _ _ HQ.out).trans h3, Lib.hid (HM.out.alloc _)⟩
        obtain ⟨W5, e5, hM5, hb5, hg5⟩ := SMap.update (B := mb) (t := 53) HM4.out.1.drew Try.underlying53 Try.underlying9 (by have := Hn.out; unfold maxLen; omega) hxl (.agg #[.string ⟨#[]⟩, .bool true, .int .i64 v]) (Nat.le_refl _)
        have HM5 : Hid (MapA W5 mb (n + 1) (knownTo b.doms cs (k + 1))) := Lib.hid (by rw [HKN.out]; exact MapA.put hM5 HM4.out.2 hyi)
        have HB5 := Lib.hid ((drewB HB4m.out).trans hb5)
        clear hx hy hyi hbw hq hSq hE hA0 hM5 hb5 hg5
        go_wp2
        go_region
        all_goals
          go_wp2
          go_roundw
          case rel => exact ⟨k + 1, n + 1, by omega, by go_num, HM5, Lib.hid (by have := Hn.out; omega), HB5⟩
          case measure => simp [intOf]; omega
      · obtain rfl : k = b.doms.length := by omega
        clear hk
        have hll : l.length ≤ 4398046511104 := by
          obtain ⟨_, _, _, _, _, hby, _⟩ := rSl.elems HLM.out
          simp only [rAn] at hby; omega
        go_wp2
        clear hlt m1
        have HM2 := HM
        have HB2m := HBm
        have Hn2 := Hn
        clear HM HBm Hn HB
        go_loopw [76] (fun i wr => ∃ (k n : Nat), k ≤ l.length ∧ i = .int .i64 k ∧ Hid (MapA wr mb n (lawTo l (knownTo b.doms cs b.doms.length) k)) ∧ Hid (n ≤ b.doms.length + k) ∧ Hid (Below mb WM wr)) (fun i _ => l.length - (intOf i).toNat)
        case atStart => exact ⟨0, _, Nat.zero_le _, rfl, HM2, Hn2, HB2m⟩
        case round =>
          obtain ⟨k, n, hk, rfl, HM, Hn, HBm⟩ := hrel
          have HB := Lib.hid (HBM.out.trans (HBm.out.mono HSM.out))
          by_cases hlt : k < l.length
          · obtain ⟨_, _, hA0, _, _, _, hE⟩ := rSl.elems HLM.out
            obtain ⟨rfl, rfl⟩ : Al = _ ∧ cl = _ := by injection hA0 with h1 h2 h3; exact ⟨h1, h3⟩
            obtain ⟨q, off', a, rfl, hSq, hq, hy, ⟨hyl, hyi⟩, h0, h1, h2⟩ := hE.an hlt
            obtain ⟨bB, off, x, A1, ca, A2, cb, rfl, hbB, hx, hr, g0, g1, g2, g3, g4⟩ := HF.out.tb (show k < b.tabs.length by rw [← HLL.out]; exact hlt)
            have hbw := HB0.out.trans (HB.out.mono HB0.out.size)
            rw [← hbw.cell (p := ⟨bB, _, none⟩) hbB] at g0
            rw [← HBm.out.cell (p := ⟨q, _, none⟩) hSq] at h0 h1 h2
            have hik : (k : Int) < (l.length : Int) := by omega
            have hin : (k : Int) < (b.tabs.length : Int) := by rw [← HLL.out]; exact hik
            have hnm : a.name = x.name := by
              have := hy
              rw [← HL.out, List.getElem?_map, hx] at this
              injection this with this
              rw [← this]; rfl
            have HST := Lib.hid (lawTo_succ (K0 := knownTo b.doms cs b.doms.length) hy)
            obtain ⟨anm, hanm⟩ : ∃ y, a.name = y := ⟨_, rfl⟩
            have HAN := Lib.hid hanm
            rw [hanm] at h0 hyl hnm
            rw [← hnm] at g0
            have f1 := (HB.out.cell (p := ⟨w.heap.size, 1, none⟩) hs0).trans c1
            obtain ⟨W4, e4, HB4m, j0, j1, j2, p0, p1, hbs, hws, hwb, HM4⟩ : ∃ W4, wr.alloc (.cells #[.string ⟨anm.toArray⟩, .bool a.found, .int .i64 a.n] 57) = W4 ∧ Hid (Below mb WM W4) ∧ W4.cell? ⟨wr.heap.size, 0, none⟩ = some (.string ⟨anm.toArray⟩) ∧ W4.cell? ⟨wr.heap.size, 1, none⟩ = some (.bool a.found) ∧ W4.cell? ⟨wr.heap.size, 2, none⟩ = some (.int .i64 a.n) ∧ W4.cell? ⟨bB, off + k * 5, none⟩ = some (.string ⟨anm.toArray⟩) ∧ W4.cell? ⟨w.heap.size, 1, none⟩ = some (.slice (some ⟨bB, off, none⟩) b.tabs.length d) ∧ bB < W4.heap.size ∧ wr.heap.size < W4.heap.size ∧ w.heap.size < W4.heap.size ∧ Hid (MapA W4 mb n (lawTo l (knownTo b.doms cs b.doms.length) k)) :=
              ⟨_, rfl, Lib.hid (HBm.out.alloc (Nat.le_of_lt HM.out.1.lt) _), World.cell?_alloc_new _ _ _ _, World.cell?_alloc_new _ _ _ _, World.cell?_alloc_new _ _ _ _, (World.cell?_alloc_lt _ _ _ (Nat.lt_of_lt_of_le hbB hbw.size)).trans g0, (World.cell?_alloc_lt _ _ _ (Nat.lt_of_lt_of_le hs0 HB.out.size)).trans f1, Nat.lt_of_lt_of_le (Nat.lt_of_lt_of_le hbB hbw.size) (by simp), by simp, Nat.lt_of_lt_of_le (Nat.lt_of_lt_of_le hs0 HB.out.size) (by simp), Lib.hid (HM.out.alloc _)⟩
            have HNI := Lib.hid hyi
            clear hx hr hy hyi hbw hq hSq hE hA0 hnm hanm g0 g1 g2 g3 g4 f1
            go_wp2
            refine wp_region_quiet_below (by kernel_rfl) (by kernel_rfl) ?_
            repeat (go_big_quiet_step (fail))
            refine wpQuiet_nil ?_
            intro _ hw'
            obtain ⟨⟨dq, osq⟩, hw''⟩ := hw'
            subst hw''
            obtain ⟨W6, e6, HB6m, k0, k1, k2, HM6⟩ : ∃ W6, Go.Sort.grow (redrawn W4 dq) osq = W6 ∧ Hid (Below mb WM W6) ∧ W6.cell? ⟨wr.heap.size, 0, none⟩ = some (.string ⟨anm.toArray⟩) ∧ W6.cell? ⟨wr.heap.size, 1, none⟩ = some (.bool a.found) ∧ W6.cell? ⟨wr.heap.size, 2, none⟩ = some (.int .i64 a.n) ∧ Hid (MapA W6 mb n (lawTo l (knownTo b.doms cs b.doms.length) k)) :=
              ⟨_, rfl, Lib.hid (HB4m.out.trans ((below_regrown _ _ _).mono (Nat.le_of_lt HM4.out.1.lt))), ((below_regrown W4 dq osq).cell (p := ⟨wr.heap.size, 0, none⟩) hws).trans j0, ((below_regrown W4 dq osq).cell (p := ⟨wr.heap.size, 1, none⟩) hws).trans j1, ((below_regrown W4 dq osq).cell (p := ⟨wr.heap.size, 2, none⟩) hws).trans j2, Lib.hid (HM4.out.below (below_regrown _ _ _))⟩
            rw [e6]
            go_wp2_with (first | (at_mapUpdate; go_must (refine wpList_update_txt (B := mb) (val := .agg #[.string ⟨anm.toArray⟩, .bool a.found, .int .i64 a.n]) rfl (.tmp 90) (.tmp 92) (.tmp 93) 53 rfl Try.underlying53 Try.underlying9 rfl HM6.out.1 (by have := Hn.out; unfold maxLen; omega) rfl hyl rfl (Nat.le_refl _) ?_); intro w7 hM7 hb7 hg7))
            go_roundw
            case rel => exact ⟨k + 1, n + 1, by omega, by go_num, Lib.hid (by rw [HST.out, HAN.out]; refine MapA.put ?_ HM6.out.2 HNI.out; rw [show ansV a = .agg #[.string ⟨anm.toArray⟩, .bool a.found, .int .i64 a.n] by unfold ansV; rw [HAN.out]]; exact hM7), Lib.hid (by have := Hn.out; omega), Lib.hid (HB6m.out.trans hb7)⟩
            case measure => simp [intOf]; omega
          · have HKS : Hid (∀ s, SameA (atM (lawTo l (knownTo b.doms cs b.doms.length) k) s) (atM (asked b cs o) s)) := Lib.hid (by
              intro s
              unfold lawTo
              rw [List.take_of_length_le (by omega), ← HL.out]
              refine lawK b.tabs _ (fun s' hs' => ?_) s
              unfold atM
              rw [asked_eq, asked_other HO.out hs']
              exact ⟨rfl, rfl⟩)
            generalize lawTo l (knownTo b.doms cs b.doms.length) k = K at *
            obtain ⟨w5, hw5⟩ : ∃ x, x = wr := ⟨_, rfl⟩
            subst hw5
            have f1 := (HB.out.cell (p := ⟨w.heap.size, 1, none⟩) hs0).trans c1
            go_wp2
            clear f1 hlt hk
            have HMs := HM
            have HBs := HB
            have HBms := HBm
            clear HM HB HBm HM2 HB2m Hn2 HMA
            go_loopw [98] (fun i wr => ∃ k : Nat, k ≤ b.tabs.length ∧ i = .int .i64 k ∧ Hid (Below w5.heap.size w5 wr)) (fun i _ => b.tabs.length - (intOf i).toNat)
            case atStart => exact ⟨0, Nat.zero_le _, rfl, Lib.hid (Below.refl _ _)⟩
            case round =>
              obtain ⟨k, hk, rfl, HBr⟩ := hrel
              have HB := Lib.hid (HBs.out.trans (HBr.out.mono HBs.out.size))
              have HBm := Lib.hid (HBms.out.trans (HBr.out.mono (Nat.le_of_lt HMs.out.1.lt)))
              by_cases hlt : k < b.tabs.length
              · obtain ⟨bB, off, x, A1, ca, A2, cb, rfl, hbB, hx, hr, g0, g1, g2, g3, g4⟩ := HF.out.tb hlt
                obtain ⟨_, _, hA0, _, _, _, hE⟩ := rSl.elems HLM.out
                obtain ⟨rfl, rfl⟩ : Al = _ ∧ cl = _ := by injection hA0 with h1 h2 h3; exact ⟨h1, h3⟩
                obtain ⟨q, off', a, rfl, hSq, hq, hy, ⟨hyl, hyi⟩, h0, h1, h2⟩ := hE.an (show k < l.length by rw [HLL.out]; exact hlt)
                have hbw := HB0.out.trans (HB.out.mono HB0.out.size)
                rw [← hbw.cell (p := ⟨bB, _, none⟩) hbB] at g0 g1 g2 g3 g4
                rw [← HBm.out.cell (p := ⟨q, _, none⟩) hSq] at h1 h2
                have hik : (k : Int) < (b.tabs.length : Int) := by omega
                have hin : (k : Int) < (l.length : Int) := by rw [HLL.out]; exact hik
                obtain ⟨cm, hcm⟩ : ∃ r, x.comp = r := ⟨_, rfl⟩
                have HCM2 := Lib.hid hcm
                rw [hcm] at hr g2
                obtain ⟨fd, hfd⟩ : ∃ r, a.found = r := ⟨_, rfl⟩
                obtain ⟨nn, hnn⟩ : ∃ r, a.n = r := ⟨_, rfl⟩
                have HAX : Hid ((answerOf (asked b cs o) x).found = fd ∧ (answerOf (asked b cs o) x).n = nn) := Lib.hid (by
                  have := hy
                  rw [← HL.out, List.getElem?_map, hx] at this
                  injection this with this
                  rw [this]; exact ⟨hfd, hnn⟩)
                rw [hfd] at h1
                rw [hnn] at h2
                have HXM := Lib.hid (List.mem_of_getElem? hx)
                obtain ⟨W3, e3, HBr3, j2, j3, HR3, HM3, j0, j1, j4, y1, y2⟩ : ∃ W3, wr.alloc (.cells #[.string ⟨x.name.toArray⟩, .int .i64 x.pol, .bool cm, .slice A1 x.ins.length ca, .slice A2 x.rules.length cb] 25) = W3 ∧ Hid (Below w5.heap.size w5 W3) ∧ W3.cell? ⟨wr.heap.size, 2, none⟩ = some (.bool cm) ∧ W3.cell? ⟨wr.heap.size, 3, none⟩ = some (.slice A1 x.ins.length ca) ∧
                    Hid (rTb.rel W3 S [.string ⟨x.name.toArray⟩, .int .i64 x.pol, .bool cm, .slice A1 x.ins.length ca, .slice A2 x.rules.length cb] x) ∧ Hid (MapA W3 mb n K) ∧ W3.cell? ⟨wr.heap.size, 0, none⟩ = some (.string ⟨x.name.toArray⟩) ∧ W3.cell? ⟨wr.heap.size, 1, none⟩ = some (.int .i64 x.pol) ∧ W3.cell? ⟨wr.heap.size, 4, none⟩ = some (.slice A2 x.rules.length cb) ∧ W3.cell? ⟨q, off' + k * 3 + 1, none⟩ = some (.bool fd) ∧ W3.cell? ⟨q, off' + k * 3 + 2, none⟩ = some (.int .i64 nn) :=
                  ⟨_, rfl, Lib.hid (HBr.out.alloc HBr.out.size _), World.cell?_alloc_new _ _ _ _, World.cell?_alloc_new _ _ _ _, Lib.hid (Rd.below hr (hbw.alloc hbw.size _)), Lib.hid ((HMs.out.below HBr.out).alloc _), World.cell?_alloc_new _ _ _ _, World.cell?_alloc_new _ _ _ _, World.cell?_alloc_new _ _ _ _,
                    (World.cell?_alloc_lt _ _ _ (Nat.lt_of_lt_of_le hq HBm.out.size)).trans h1, (World.cell?_alloc_lt _ _ _ (Nat.lt_of_lt_of_le hq HBm.out.size)).trans h2⟩
                have hq3 : q < W3.heap.size := Nat.lt_of_lt_of_le (Nat.lt_of_lt_of_le hq HBm.out.size) (by rw [← e3]; simp)
                have hw3 : wr.heap.size < W3.heap.size := by rw [← e3]; simp
                have HRI : Hid ((rSl rStr).rel W3 S [.slice A1 x.ins.length ca] x.ins) := Lib.hid (by
                  obtain ⟨v, u, hv, _, _, h, _⟩ := HR3.out
                  simp only [List.cons.injEq, and_true] at hv
                  obtain ⟨_, _, _, rfl, _⟩ := hv
                  exact h)
                have hil : x.ins.length ≤ 8796093022208 := by
                  obtain ⟨_, _, _, _, _, hby, _⟩ := rSl.elems HRI.out
                  simp only [rStr] at hby; omega
                clear hx hr hbw hk hy hyl hyi hSq hE hA0 hcm hfd hnn h0 h1 h2
                go_wp2
                generalize wr.heap.size = n8 at *
                clear e3
                go_loopw [17, 18, 106] (fun ov av i wi => ∃ (m : Nat) (own : List Int) (al : Bool), m ≤ x.ins.length ∧ i = .int .i64 m ∧ av = .bool al ∧ Own rInt 3 wi W3.heap.size (fun _ => False) ov own ∧ Hid (own = (x.ins.take m).map fun s => (atM K s).n) ∧ Hid ((x.ins.take m).all (fun s => (atM K s).found) = al) ∧ Hid (Below W3.heap.size W3 wi)) (fun _ _ i _ => x.ins.length - (intOf i).toNat)
                case atStart => exact ⟨0, [], true, Nat.zero_le _, rfl, rfl, Own.nil _ _ _ _ _, Lib.hid rfl, Lib.hid rfl, Lib.hid (Below.refl _ _)⟩
                case round =>
                  obtain ⟨m, own, al, hm, rfl, rfl, hown, HOW, HAL, HBi⟩ := hrel
                  have HMi := Lib.hid (HM3.out.below HBi.out)
                  by_cases hltm : m < x.ins.length
                  · obtain ⟨_, _, hA0, _, _, _, hE⟩ := rSl.elems (Rd.below HRI.out HBi.out)
                    obtain ⟨rfl, rfl⟩ : A1 = _ ∧ ca = _ := by injection hA0 with h1 h2 h3; exact ⟨h1, h3⟩
                    obtain ⟨p, offp, s, rfl, _, _, hs, hsl, g0⟩ := hE.str hltm
                    have him : (m : Int) < (x.ins.length : Int) := by omega
                    obtain ⟨⟨nm', f', n'⟩, ha⟩ : ∃ a, atM K s = a := ⟨_, rfl⟩
                    have HV : Hid (((K s).map ansV).getD (ansV an0) = .agg #[.string ⟨nm'.toArray⟩, .bool f', .int .i64 n']) := Lib.hid (by rw [MapA.getD, ha]; rfl)
                    have HNN : Hid (InI n') := Lib.hid (by have := HMi.out.2 s; rw [ha] at this; exact this)
                    have HA1 : Hid ((x.ins.take (m + 1)).all (fun s => (atM K s).found) = (al && f')) := Lib.hid (by rw [allTo_succ hs, HAL.out, ha])
                    have HO1 : Hid (own ++ [n'] = (x.ins.take (m + 1)).map fun s => (atM K s).n) := Lib.hid (by rw [ownTo_succ hs, ← HOW.out, ha])
                    have HOL : Hid (own.length ≤ m) := Lib.hid (by rw [HOW.out, List.length_map, List.length_take]; omega)
                    have HBY : Hid ((own.length + 1) * rInt.bytes ≤ 140737488355328) := Lib.hid (by have := HOL.out; show (_ + 1) * 8 ≤ _; omega)
                    have HOWN := Lib.hid hown
                    clear hs hE hA0 ha hown
                    cases al
                    all_goals
                      go_wp2_with (first | (refine wpList_field (by rfl) (.tmp 114) 57 1 rfl rfl (fieldA _ _ _ _).2.1 ?_) | (refine wpList_field (by rfl) (.tmp 120) 57 2 rfl rfl (fieldA _ _ _ _).2.2 ?_) | (at_lookup; (refine wpList_lookup_txt (by rfl) (.tmp 112) (.tmp 113) 53 rfl Try.underlying53 Try.underlying9 (zeroA _) rfl HMi.out.1 rfl hsl HV.out ?_)) | (at_lookup; (refine wpList_lookup_txt (by rfl) (.tmp 118) (.tmp 119) 53 rfl Try.underlying53 Try.underlying9 (zeroA _) rfl HMi.out.1 rfl hsl HV.out ?_)) | (at_builtin; go_must (refine wpList_append_new (R := rInt) (x := n') el_I rfl (.tmp 117) (.tmp 122) rfl rfl HOWN.out [.int .i64 n'] rfl rfl (fun _ => False) ⟨rfl, HNN.out⟩ (fun _ h => h.elim) HBY.out HBi.out.size ?_); intro v9 w9 hown9 hb9 _ _))
                      go_roundw
                      case rel => exact ⟨m + 1, own ++ [n'], _, by omega, by go_num, rfl, hown9, HO1, HA1, Lib.hid (HBi.out.trans hb9)⟩
                      case measure => simp [intOf]; omega
                  · have HOW2 : Hid (x.ins.map (fun s => (atM K s).n) = own) := Lib.hid (by rw [HOW.out, List.take_of_length_le (by omega)])
                    have HAL2 : Hid (x.ins.all (fun s => (atM K s).found) = al) := Lib.hid (by rw [← HAL.out, List.take_of_length_le (by omega)])
                    obtain ⟨⟨r, ok, er⟩, hsy⟩ : ∃ y, saysT x own = y := ⟨_, rfl⟩
                    have HSY := Lib.hid hsy
                    obtain ⟨hfin1, hfin2⟩ := ans_final HOK.out HIN.out HO.out HKS.out HXM.out HAL2.out HOW2.out
                    rw [HAX.out.1] at hfin1 hfin2
                    rw [HAX.out.2, hsy] at hfin2
                    obtain ⟨A9, l9, rfl⟩ := hown.value
                    have HTi := Lib.hid (Rd.below HR3.out HBi.out)
                    have HOR := Lib.hid (hown.rel (by decide))
                    have r0 := (HBi.out.cell (p := ⟨n8, 0, none⟩) hw3).trans j0
                    have r1 := (HBi.out.cell (p := ⟨n8, 1, none⟩) hw3).trans j1
                    have r2 := (HBi.out.cell (p := ⟨n8, 2, none⟩) hw3).trans j2
                    have r3 := (HBi.out.cell (p := ⟨n8, 3, none⟩) hw3).trans j3
                    have r4 := (HBi.out.cell (p := ⟨n8, 4, none⟩) hw3).trans j4
                    clear hsy hown
                    cases al
                    · obtain rfl := hfin1 rfl
                      clear hfin1 hfin2
                      go_wp2_with (first | (go_at_call 11; go_must ((with_reducible refine (Says_m wr HTi.out HOR.out HSY.out).mono ?_); rintro x8 w8 ⟨rfl, hb8⟩; have HB8 := Lib.hid (HBi.out.trans (hb8.mono HBi.out.size)); have z1 := (HB8.out.cell (p := ⟨q, off' + k * 3 + 1, none⟩) hq3).trans y1; have z2 := (HB8.out.cell (p := ⟨q, off' + k * 3 + 2, none⟩) hq3).trans y2; have t2 := (HB8.out.cell (p := ⟨n8, 2, none⟩) hw3).trans j2; clear hb8)))
                      go_roundw
                      case rel => exact ⟨k + 1, by omega, by go_num, Lib.hid (HBr3.out.trans (HB8.out.mono HBr3.out.size))⟩
                      case measure => simp [intOf]; omega
                    · obtain ⟨rfl, rfl, rfl, hco⟩ := hfin2 rfl
                      clear hfin1 hfin2
                      rw [HCM2.out] at hco
                      cases cm
                      · clear hco
                        go_wp2_with (first | (go_at_call 11; go_must ((with_reducible refine (Says_m wr HTi.out HOR.out HSY.out).mono ?_); rintro x8 w8 ⟨rfl, hb8⟩; have HB8 := Lib.hid (HBi.out.trans (hb8.mono HBi.out.size)); have z1 := (HB8.out.cell (p := ⟨q, off' + k * 3 + 1, none⟩) hq3).trans y1; have z2 := (HB8.out.cell (p := ⟨q, off' + k * 3 + 2, none⟩) hq3).trans y2; have t2 := (HB8.out.cell (p := ⟨n8, 2, none⟩) hw3).trans j2; clear hb8)))
                        go_roundw
                        case rel => exact ⟨k + 1, by omega, by go_num, Lib.hid (HBr3.out.trans (HB8.out.mono HBr3.out.size))⟩
                        case measure => simp [intOf]; omega
                      · obtain rfl := hco rfl
                        clear hco
                        go_wp2_with (first | (go_at_call 11; go_must ((with_reducible refine (Says_m wr HTi.out HOR.out HSY.out).mono ?_); rintro x8 w8 ⟨rfl, hb8⟩; have HB8 := Lib.hid (HBi.out.trans (hb8.mono HBi.out.size)); have z1 := (HB8.out.cell (p := ⟨q, off' + k * 3 + 1, none⟩) hq3).trans y1; have z2 := (HB8.out.cell (p := ⟨q, off' + k * 3 + 2, none⟩) hq3).trans y2; have t2 := (HB8.out.cell (p := ⟨n8, 2, none⟩) hw3).trans j2; clear hb8)))
                        go_roundw
                        case rel => exact ⟨k + 1, by omega, by go_num, Lib.hid (HBr3.out.trans (HB8.out.mono HBr3.out.size))⟩
                        case measure => simp [intOf]; omega
              · go_wp2
                go_ret
                exact ⟨rfl, HB0.out.trans (HB.out.mono HB0.out.size)⟩
  · have hq1 : (er == 0) = false := by simpa using her
    have hq2 : (er != 0) = true := by simpa using her
    clear hck her
    go_wp2_with (first | (go_at_call 16; go_must ((with_reducible refine (Check_at W0 HBK.out HCK.out).mono ?_); rintro e w1 ⟨Ak, ck, Sk, rfl, _, hb1⟩; have HB1 := Lib.hid hb1; clear hb1)) | (go_at_call 17; go_must ((with_reducible refine (booksKeep_any _).mono ?_); rintro e w2 ⟨rfl, hb2⟩; have HB2 := Lib.hid (HB1.out.trans (hb2.mono HB1.out.size)); clear hb2)))
    go_ret
    exact ⟨rfl, HB0.out.trans (HB2.out.mono HB0.out.size)⟩

end Go.Proofs.Ytlopccnehgolnab
