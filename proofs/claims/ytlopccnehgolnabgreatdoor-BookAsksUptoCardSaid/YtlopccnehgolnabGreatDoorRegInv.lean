
/- A region that draws its order, by what holds after each set of operations that have come up. No program is named. -/
import Derived.Test.YtlopccnehgolnabGreatDoorGrA
import Derived.Still
namespace Go.Proofs.YtlopccnehgolnabGreatDoor
open Go

section
variable {P : Program} {ops : Array Oper} {Q : Exit → Act → World → Prop} {md : Region.Mode}

def unlisted (l : Array Bool) : Nat := (l.toList.filter (!·)).length
def LS (l : Array Bool) (i : Nat) : Prop := l.getD i false = true
instance (l : Array Bool) (i : Nat) : Decidable (LS l i) := inferInstanceAs (Decidable (_ = true))

theorem LS.set {l : Array Bool} {i j : Nat} (h : LS l j) : LS (l.setIfInBounds i true) j := by
  unfold LS at *
  simp only [Array.getD_eq_getD_getElem?, Array.getElem?_setIfInBounds] at *
  split
  · split
    · rfl
    · rename_i h1 h2
      subst h1
      rw [Array.getElem?_eq_none (by omega)] at h
      cases h
  · exact h
theorem LS.self {l : Array Bool} {i : Nat} (h : i < l.size) : LS (l.setIfInBounds i true) i := by
  unfold LS
  simp [Array.getD_eq_getD_getElem?, h]
theorem LS.other {l : Array Bool} {i j : Nat} (h : LS (l.setIfInBounds i true) j) (hne : j ≠ i) : LS l j := by
  unfold LS at *
  simp only [Array.getD_eq_getD_getElem?, Array.getElem?_setIfInBounds] at *
  rwa [if_neg (Ne.symm hne)] at h

theorem filter_set : ∀ (l : List Bool) (i : Nat), l[i]? = some false → ((l.set i true).filter (!·)).length + 1 = (l.filter (!·)).length
  | [], i, h => by simp at h
  | b :: l, 0, h => by simp at h; subst h; simp
  | b :: l, i + 1, h => by
    have h' : l[i]? = some false := by simpa using h
    have := filter_set l i h'
    cases b <;> simp [this]
theorem unlisted_set {l : Array Bool} {i : Nat} (hi : i < l.size) (h : l.getD i true = false) : unlisted (l.setIfInBounds i true) + 1 = unlisted l := by
  unfold unlisted
  rw [Array.toList_setIfInBounds]
  refine filter_set _ _ ?_
  rw [Array.getElem?_toList, Array.getElem?_eq_getElem hi]
  simp [Array.getD_eq_getD_getElem?, hi] at h
  rw [h]
theorem unlisted_zero {l : Array Bool} (h : unlisted l = 0) (i : Nat) : l.getD i true = true := by
  unfold unlisted at h
  rw [List.length_eq_zero_iff, List.filter_eq_nil_iff] at h
  rcases Nat.lt_or_ge i l.size with hi | hi
  · have := h l[i] (by simp)
    simp [Array.getD_eq_getD_getElem?, hi] at this ⊢
    exact this
  · simp [Array.getD_eq_getD_getElem?, Array.getElem?_eq_none hi]

theorem wpAny_inv (I : Array Bool → Act → World → Prop) (hsize : ∀ l a w, I l a w → l.size = ops.size)
    (hfin : ∀ l a w, I l a w → Region.ready md ops l = [] → Q .normal a w)
    (hstep : ∀ l a w i, I l a w → i ∈ Region.ready md ops l → wpOp P ops Q i (I (l.setIfInBounds i true)) a w) :
    ∀ (fuel : Nat) (l : Array Bool) (a : Act) (w : World), unlisted l ≤ fuel → I l a w → wpAny P md ops Q fuel l a w
  | 0, l, a, w, hf, hI => by
    have h0 : unlisted l = 0 := by omega
    have hr : Region.ready md ops l = [] := by
      refine List.eq_nil_iff_forall_not_mem.2 fun i hi => ?_
      have := (mem_ready.1 hi).1
      rw [unlisted_zero h0 i] at this
      cases this
    exact ⟨hr, hfin l a w hI hr⟩
  | fuel + 1, l, a, w, hf, hI => by
    refine ⟨hfin l a w hI, fun i hi => wpOp_mono (fun a' w' h' => wpAny_inv I hsize hfin hstep fuel _ a' w' ?_ h') (hstep l a w i hI hi)⟩
    obtain ⟨hu, o, ho, _⟩ := mem_ready.1 hi
    have hlt : i < l.size := by rw [hsize l a w hI]; exact (Array.getElem?_eq_some_iff.1 ho).1
    have := unlisted_set hlt hu
    omega

theorem LS_rep {n i : Nat} : ¬ LS (Array.replicate n false) i := by
  unfold LS
  rcases Nat.lt_or_ge i n with h | h
  · simp [h]
  · simp [h]
theorem LS.no {l : Array Bool} {i : Nat} (hu : l.getD i true = false) : ¬ LS l i := by
  intro h
  unfold LS at h
  rcases Nat.lt_or_ge i l.size with hi | hi
  · simp [Array.getD_eq_getD_getElem?, hi] at hu h
    rw [hu] at h; cases h
  · simp [Array.getD_eq_getD_getElem?, Array.getElem?_eq_none hi] at h
/-- Each operation waits only for operations ahead of it. -/
def waitsBack (ops : Array Oper) : Bool := (List.range ops.size).all fun i => match ops[i]? with | some o => o.after.all fun e => decide (e.on < i) | none => true
theorem all_listed (hw : waitsBack ops = true) {l : Array Bool} (hs : l.size = ops.size) (hr : Region.ready md ops l = []) : ∀ i, i < ops.size → LS l i := by
  intro i
  induction i using Nat.strongRecOn with
  | _ i ih =>
    intro hi
    rcases Bool.eq_false_or_eq_true (l.getD i false) with h | h
    · exact h
    · exfalso
      have hne : i ∉ Region.ready md ops l := by rw [hr]; simp
      apply hne
      refine mem_ready.2 ⟨?_, ops[i], Array.getElem?_eq_getElem hi, fun e he _ => ?_⟩
      · simp [Array.getD_eq_getD_getElem?, hs, hi] at h ⊢
        exact h
      · have h1 := List.all_eq_true.1 hw i (List.mem_range.2 hi)
        rw [Array.getElem?_eq_getElem hi] at h1
        have h2 := (Array.all_eq_true'.1 h1) e he
        have h3 : e.on < i := of_decide_eq_true h2
        exact ih e.on h3 (by omega)

theorem wp_region_inv {id : Nat} {a : Act} {w : World} (hm : P.follows .mixedOrders = true) (hw : waitsBack ops = true) (I : Array Bool → Act → World → Prop)
    (h0 : I (Array.replicate ops.size false) a w.drew) (hsize : ∀ l a w, I l a w → l.size = ops.size)
    (hfin : ∀ l a w, I l a w → (∀ i, i < ops.size → LS l i) → Q .normal a w)
    (hstep : ∀ l a w i o, I l a w → ops[i]? = some o → l.getD i true = false → (∀ e ∈ o.after, Region.binds .any e = true → LS l e.on) → Region.wanted o (yielded ops a.tmps) = true ∧ o.wp P a w (I (l.setIfInBounds i true)) Q) :
    (Code.region id ops true).wp P Q a w := by
  refine wp_region_any hm (wpAny_inv I hsize (fun l a w hI hr => hfin l a w hI (all_listed hw (hsize l a w hI) hr)) (fun l a w i hI hi => ?_) ops.size _ a _ ?_ h0)
  · obtain ⟨hu, o, ho, hall⟩ := mem_ready.1 hi
    obtain ⟨h1, h2⟩ := hstep l a w i o hI ho hu hall
    unfold wpOp
    rw [ho]
    simp only
    rw [if_pos h1]
    exact .inl h2
  · unfold unlisted
    simp

/-- What has come up lies in its slot. -/
def ValsAt (tab : List (Nat × Nat × Value)) (l : Array Bool) (a : Act) : Prop := ∀ x ∈ tab, LS l x.1 → a.tmps.getD x.2.1 undef = x.2.2
theorem put_same {a : Act} {d : Nat} {v : Value} (h : d < a.tmps.size) : (a.put (some d) v).tmps.getD d undef = v := by
  simp [Act.put, Array.getD_eq_getD_getElem?, h]
theorem put_other {a : Act} {d j : Nat} {v : Value} (h : j ≠ d) : (a.put (some d) v).tmps.getD j undef = a.tmps.getD j undef := by
  simp [Act.put, Array.getD_eq_getD_getElem?, Ne.symm h]
theorem map_nodup_inj {α β : Type} {f : α → β} : ∀ {l : List α}, (l.map f).Nodup → ∀ x ∈ l, ∀ y ∈ l, f x = f y → x = y
  | [], _, x, hx, _, _, _ => by cases hx
  | a :: l, h, x, hx, y, hy, e => by
    rw [List.map_cons, List.nodup_cons] at h
    rcases List.mem_cons.1 hx with hx' | hx'
    · rcases List.mem_cons.1 hy with hy' | hy'
      · rw [hx', hy']
      · exact absurd (by rw [← hx', e]; exact List.mem_map_of_mem hy') h.1
    · rcases List.mem_cons.1 hy with hy' | hy'
      · exact absurd (by rw [← hy', ← e]; exact List.mem_map_of_mem hx') h.1
      · exact map_nodup_inj h.2 x hx' y hy' e
theorem ValsAt.put {tab : List (Nat × Nat × Value)} {l : Array Bool} {a : Act} (h : ValsAt tab l a) {i d : Nat} {v : Value} (hm : (i, d, v) ∈ tab) (h1 : (tab.map (·.1)).Nodup) (h2 : (tab.map (·.2.1)).Nodup) (hd : d < a.tmps.size) :
    ValsAt tab (l.setIfInBounds i true) (a.put (some d) v) := by
  intro x hx hl
  by_cases hxd : x.2.1 = d
  · have := map_nodup_inj (f := (·.2.1)) h2 x hx _ hm hxd
    subst this
    exact put_same hd
  · rw [put_other hxd]
    refine h x hx (hl.other fun e => ?_)
    have := map_nodup_inj (f := (·.1)) h1 x hx _ hm e
    subst this
    exact hxd rfl
theorem ValsAt.skip {tab : List (Nat × Nat × Value)} {l : Array Bool} {a : Act} (h : ValsAt tab l a) {i : Nat} (hi : ∀ x ∈ tab, x.1 ≠ i) : ValsAt tab (l.setIfInBounds i true) a :=
  fun x hx hl => h x hx (hl.other (hi x hx))
end

end Go.Proofs.YtlopccnehgolnabGreatDoor
