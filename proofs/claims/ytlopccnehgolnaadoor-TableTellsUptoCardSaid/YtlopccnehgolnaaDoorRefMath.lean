import Derived.Test.YtlopccnehgolnaaDoorSpanMath
/- Plain mathematics of the reference's sets: 'made' over 'edges' is the normal form. -/
namespace Go.Proofs.YtlopccnehgolnaaDoor.Rb

/-- One more range at the end; two that touch are one. -/
def pushM (out : List Rg) (n e : Int) : List Rg :=
  match out.getLast? with
  | some x => if x.2 = n - 1 then out.dropLast ++ [(x.1, e)] else out ++ [(n, e)]
  | none => [(n, e)]
def endOf : List Int → Int
  | [] => MX
  | m :: _ => m - 1
def madeL (p : Int → Bool) : List Int → List Rg → List Rg
  | [], out => out
  | n :: t, out => madeL p t (if p n then pushM out n (endOf t) else out)

/-- p is the same from each edge on up to the next one. -/
def Resp (p : Int → Bool) : List Int → Prop
  | [] => True
  | n :: t => (∀ k, n ≤ k → k ≤ endOf t → p k = p n) ∧ Resp p t

theorem pushM_good {out : List Rg} {n e : Int} (hg : GoodS out) (hl : ∀ x ∈ out, x.2 < n) (h1 : -MX ≤ n) (h2 : n ≤ e) (h3 : e ≤ MX) :
    GoodS (pushM out n e) ∧ (∀ x ∈ pushM out n e, x.2 ≤ e) ∧ ∀ k, hasL (pushM out n e) k = (hasL out k || inR (n, e) k) := by
  rcases List.eq_nil_or_concat out with rfl | ⟨l, x, rfl⟩
  · have e' : pushM [] n e = [(n, e)] := rfl
    rw [e']
    exact ⟨⟨h1, h3, h2, by dsimp only; omega, trivial⟩, by simp, fun k => by simp [hasL]⟩
  · rw [List.concat_eq_append] at hg hl ⊢
    obtain ⟨k1, k2, k3, k4, k5, k6⟩ := GoodFrom.init hg
    have hx := hl x (by simp)
    have e' : pushM (l ++ [x]) n e = if x.2 = n - 1 then l ++ [(x.1, e)] else l ++ [x] ++ [(n, e)] := by simp [pushM]
    rw [e']
    split
    · refine ⟨GoodFrom.snoc k1 (by dsimp only; omega) (by dsimp only; omega) (by dsimp only; omega) (by dsimp only; omega) k2, ?_, fun k => ?_⟩
      · intro y hy
        rcases List.mem_append.1 hy with hy | hy
        · have := hl y (by simp [hy]); omega
        · obtain rfl : y = (x.1, e) := by simpa using hy
          dsimp only; omega
      · rw [hasL_append, hasL_append, Bool.eq_iff_iff]
        cases hasL l k <;> simp [hasL, inR] <;> omega
    · refine ⟨GoodFrom.snoc hg h1 h3 h2 (by dsimp only; omega) ?_, ?_, fun k => by rw [hasL_append]; simp [hasL]⟩
      · intro y hy
        rcases List.mem_append.1 hy with hy | hy
        · have := k2 y hy; dsimp only; omega
        · obtain rfl : y = x := by simpa using hy
          dsimp only; omega
      · intro y hy
        rcases List.mem_append.1 hy with hy | hy
        · have := hl y hy; omega
        · obtain rfl : y = (n, e) := by simpa using hy
          dsimp only; omega

theorem madeL_good (p : Int → Bool) : ∀ (l : List Int) (out : List Rg) (a : Int), GoodS out → (∀ x ∈ out, x.2 ≤ endOf l) → l.Pairwise (· < ·) → (∀ n ∈ l, -MX ≤ n ∧ n ≤ MX) → Resp p l →
    (∀ n, l.head? = some n → a = n) → GoodS (madeL p l out) ∧ ∀ k, hasL (madeL p l out) k = (hasL out k || (!l.isEmpty && decide (a ≤ k) && decide (k ≤ MX) && p k))
  | [], out, a, hg, _, _, _, _, _ => ⟨hg, fun k => by simp [madeL]⟩
  | n :: t, out, a, hg, hl, hp, hb, hr, ha => by
    obtain rfl : a = n := ha n rfl
    obtain ⟨hp1, hp2⟩ := List.pairwise_cons.1 hp
    obtain ⟨hr1, hr2⟩ := hr
    have hn := hb a (by simp)
    have he : a ≤ endOf t ∧ endOf t ≤ MX := by
      cases t with
      | nil => exact ⟨hn.2, Int.le_refl _⟩
      | cons m t =>
        have h1 := hp1 m (by simp)
        have h2 := hb m (by simp)
        exact ⟨by show a ≤ m - 1; omega, by show m - 1 ≤ MX; omega⟩
    have hl' : ∀ x ∈ out, x.2 < a := fun x hx => by have := hl x hx; simp only [endOf] at this; omega
    obtain ⟨g1, g2, g3⟩ := pushM_good (e := endOf t) hg hl' hn.1 he.1 he.2
    have hstep : GoodS (if p a then pushM out a (endOf t) else out) ∧ (∀ x ∈ (if p a then pushM out a (endOf t) else out), x.2 ≤ endOf t) ∧
        ∀ k, hasL (if p a then pushM out a (endOf t) else out) k = (hasL out k || (p a && inR (a, endOf t) k)) := by
      cases hpa : p a
      · exact ⟨by simpa using hg, fun x hx => by have := hl' x (by simpa using hx); omega, fun k => by simp⟩
      · exact ⟨by simpa using g1, fun x hx => g2 x (by simpa using hx), fun k => by simpa using g3 k⟩
    obtain ⟨s1, s2, s3⟩ := hstep
    obtain ⟨r1, r2⟩ := madeL_good p t _ (t.head?.getD 0) s1 s2 hp2 (fun x hx => hb x (by simp [hx])) hr2 (fun m hm => by simp [hm])
    refine ⟨r1, fun k => ?_⟩
    rw [madeL, r2, s3]
    have hk := hr1 k
    cases t with
    | nil =>
      simp only [endOf, inR, List.isEmpty_nil, List.isEmpty_cons, Bool.not_true, Bool.not_false, Bool.false_and, Bool.true_and, Bool.or_false] at hk ⊢
      by_cases h1 : a ≤ k <;> by_cases h2 : k ≤ MX <;> simp [h1, h2]
      rw [hk h1 h2]
    | cons m t =>
      have hm := hp1 m (by simp)
      have hm2 := hb m (by simp)
      simp only [endOf, inR, List.isEmpty_cons, Bool.not_false, Bool.true_and, List.head?_cons, Option.getD_some] at hk ⊢
      by_cases h1 : a ≤ k <;> by_cases h2 : k ≤ MX <;> by_cases h3 : m ≤ k
      · simp [h1, h2, h3, show ¬ k ≤ m - 1 by omega]
      · have := hk h1 (by omega)
        simp [h1, h2, h3, show k ≤ m - 1 by omega, this]
      · simp [h1, h2, h3, show ¬ k ≤ m - 1 by omega]
      · omega
      · omega
      · simp [h1, h3]
      · omega
      · simp [h1, h2]

/-- One more edge, in its place, once. -/
def insE (n : Int) : List Int → List Int
  | [] => [n]
  | x :: t => if n < x then n :: x :: t else if n = x then x :: t else x :: insE n t
def addE (n : Int) (l : List Int) : List Int := if isNum n then insE n l else l

theorem mem_insE (n x : Int) : ∀ l : List Int, x ∈ insE n l ↔ x = n ∨ x ∈ l
  | [] => by simp [insE]
  | y :: t => by
    unfold insE
    split
    · simp
    · split
      · subst n; simp
      · simp [mem_insE n x t]; grind
theorem insE_sorted (n : Int) : ∀ l : List Int, l.Pairwise (· < ·) → (insE n l).Pairwise (· < ·)
  | [], _ => by simp [insE]
  | y :: t, h => by
    obtain ⟨h1, h2⟩ := List.pairwise_cons.1 h
    unfold insE
    split
    · rename_i hlt
      refine List.pairwise_cons.2 ⟨fun x hx => ?_, h⟩
      rcases List.mem_cons.1 hx with rfl | hx
      · exact hlt
      · have := h1 x hx; omega
    · split
      · exact h
      · refine List.pairwise_cons.2 ⟨fun x hx => ?_, insE_sorted n t h2⟩
        rcases (mem_insE n x t).1 hx with rfl | hx
        · omega
        · exact h1 x hx
theorem mem_addE (n x : Int) (l : List Int) : x ∈ addE n l ↔ (isNum n = true ∧ x = n) ∨ x ∈ l := by
  unfold addE
  split
  · rename_i h; simp [mem_insE, h]
  · rename_i h; simp [h]
theorem addE_sorted (n : Int) (l : List Int) (h : l.Pairwise (· < ·)) : (addE n l).Pairwise (· < ·) := by
  unfold addE
  split
  · exact insE_sorted n l h
  · exact h

/-- The edges of one range, of a set, of sets. -/
def edgeR (l : List Int) (r : Rg) : List Int := if r.2 < MX then addE (r.2 + 1) (addE r.1 l) else addE r.1 l
def edgeS (l : List Int) (s : List Rg) : List Int := s.foldl edgeR l
def edgesL (sets : List (List Rg)) : List Int := sets.foldl edgeS (addE (-MX) [])

/-- A list of edges: rising, numbers. -/
def IsE (l : List Int) : Prop := l.Pairwise (· < ·) ∧ ∀ n ∈ l, -MX ≤ n ∧ n ≤ MX
theorem addE_is (n : Int) {l : List Int} (h : IsE l) : IsE (addE n l) :=
  ⟨addE_sorted n l h.1, fun x hx => by
    rcases (mem_addE n x l).1 hx with ⟨h1, rfl⟩ | hx
    · simpa [isNum] using h1
    · exact h.2 x hx⟩
theorem edgeR_is {l : List Int} (h : IsE l) (r : Rg) : IsE (edgeR l r) := by
  unfold edgeR; split
  · exact addE_is _ (addE_is _ h)
  · exact addE_is _ h
theorem edgeR_sub {l : List Int} (r : Rg) {x : Int} (h : x ∈ l) : x ∈ edgeR l r := by
  unfold edgeR; split <;> simp [mem_addE, h]
theorem edgeR_lo {l : List Int} (r : Rg) (h : isNum r.1 = true) : r.1 ∈ edgeR l r := by
  unfold edgeR; split <;> simp [mem_addE, h]
theorem edgeR_hi {l : List Int} (r : Rg) (h1 : r.2 < MX) (h2 : isNum (r.2 + 1) = true) : r.2 + 1 ∈ edgeR l r := by
  unfold edgeR; rw [if_pos h1]; simp [mem_addE, h2]
theorem edgeS_is : ∀ (s : List Rg) {l : List Int}, IsE l → IsE (edgeS l s)
  | [], _, h => h
  | r :: t, _, h => edgeS_is t (edgeR_is h r)
theorem edgeS_sub : ∀ (s : List Rg) {l : List Int} {x : Int}, x ∈ l → x ∈ edgeS l s
  | [], _, _, h => h
  | r :: t, _, _, h => edgeS_sub t (edgeR_sub r h)
theorem edgeS_mem : ∀ (s : List Rg) {l : List Int} {r : Rg}, r ∈ s → (isNum r.1 = true → r.1 ∈ edgeS l s) ∧ (r.2 < MX → isNum (r.2 + 1) = true → r.2 + 1 ∈ edgeS l s)
  | x :: t, l, r, h => by
    rcases List.mem_cons.1 h with rfl | h
    · exact ⟨fun h1 => edgeS_sub t (edgeR_lo r h1), fun h1 h2 => edgeS_sub t (edgeR_hi r h1 h2)⟩
    · exact edgeS_mem t h
theorem foldE_is : ∀ (ss : List (List Rg)) {l : List Int}, IsE l → IsE (ss.foldl edgeS l)
  | [], _, h => h
  | s :: t, _, h => foldE_is t (edgeS_is s h)
theorem foldE_sub : ∀ (ss : List (List Rg)) {l : List Int} {x : Int}, x ∈ l → x ∈ ss.foldl edgeS l
  | [], _, _, h => h
  | s :: t, _, _, h => foldE_sub t (edgeS_sub s h)
theorem foldE_mem : ∀ (ss : List (List Rg)) {l : List Int} {s : List Rg} {r : Rg}, s ∈ ss → r ∈ s →
    (isNum r.1 = true → r.1 ∈ ss.foldl edgeS l) ∧ (r.2 < MX → isNum (r.2 + 1) = true → r.2 + 1 ∈ ss.foldl edgeS l)
  | x :: t, l, s, r, h, hr => by
    rcases List.mem_cons.1 h with rfl | h
    · have := edgeS_mem s (l := l) hr
      exact ⟨fun h1 => foldE_sub t (this.1 h1), fun h1 h2 => foldE_sub t (this.2 h1 h2)⟩
    · exact foldE_mem t h hr

theorem edgesL_is (ss : List (List Rg)) : IsE (edgesL ss) := foldE_is ss (addE_is _ ⟨by simp, by simp⟩)
theorem edgesL_min (ss : List (List Rg)) : -MX ∈ edgesL ss := foldE_sub ss (by simp [mem_addE, isNum, MX])
theorem edgesL_head (ss : List (List Rg)) : ∃ t, edgesL ss = -MX :: t := by
  have h := edgesL_is ss
  have hm := edgesL_min ss
  cases he : edgesL ss with
  | nil => rw [he] at hm; simp at hm
  | cons x t =>
    rw [he] at h hm
    rcases List.mem_cons.1 hm with hx | hx
    · exact ⟨t, by rw [hx]⟩
    · have h1 := (List.pairwise_cons.1 h.1).1 _ hx
      have h2 := h.2 x (by simp)
      omega

/-- What turns at edges alone. -/
def Turns (p : Int → Bool) (E : List Int) : Prop := ∀ a k, -MX ≤ a → a ≤ k → k ≤ MX → (∀ e ∈ E, ¬ (a < e ∧ e ≤ k)) → p k = p a

theorem Turns.inSet {ss : List (List Rg)} {s : List Rg} (h : s ∈ ss) : Turns (fun n => hasL s n) (edgesL ss) := by
  intro a k h1 h2 h3 hE
  rw [Bool.eq_iff_iff]
  simp only [hasL, List.any_eq_true, inR_iff]
  constructor
  · rintro ⟨r, hr, hn⟩
    refine ⟨r, hr, ?_, by omega⟩
    rcases Int.lt_or_le a r.1 with hlt | hle
    · exact absurd ⟨hlt, hn.1⟩ (hE r.1 ((foldE_mem ss h hr).1 (by simp [isNum]; omega)))
    · exact hle
  · rintro ⟨r, hr, hn⟩
    refine ⟨r, hr, by omega, ?_⟩
    rcases Int.lt_or_le r.2 k with hlt | hle
    · exact absurd ⟨by omega, by omega⟩ (hE (r.2 + 1) ((foldE_mem ss h hr).2 (by omega) (by simp [isNum]; omega)))
    · exact hle
theorem Turns.comb {E : List Int} {p q : Int → Bool} (f : Bool → Bool → Bool) (hp : Turns p E) (hq : Turns q E) : Turns (fun n => f (p n) (q n)) E :=
  fun a k h1 h2 h3 hE => by dsimp only; rw [hp a k h1 h2 h3 hE, hq a k h1 h2 h3 hE]
theorem Turns.const (E : List Int) (b : Bool) : Turns (fun _ => b) E := fun _ _ _ _ _ _ => rfl

theorem Turns.resp {p : Int → Bool} : ∀ (t : List Int) {E : List Int} (pre : List Int), E = pre ++ t → IsE E → Turns p E → Resp p t
  | [], _, _, _, _, _ => trivial
  | n :: t, E, pre, he, hE, ht => by
    refine ⟨fun k h1 h2 => ?_, Turns.resp t (pre ++ [n]) (by simp [he]) hE ht⟩
    have hn := hE.2 n (by simp [he])
    have hp := hE.1
    rw [he] at hp
    obtain ⟨_, hp2, hp3⟩ := List.pairwise_append.1 hp
    have hp4 := (List.pairwise_cons.1 hp2)
    refine ht n k hn.1 h1 ?_ ?_
    · cases t with
      | nil => exact h2
      | cons m t =>
        have := hE.2 m (by simp [he])
        simp only [endOf] at h2; omega
    · intro e hme ⟨h3, h4⟩
      rw [he] at hme
      rcases List.mem_append.1 hme with hme | hme
      · have := hp3 e hme n (by simp); omega
      · rcases List.mem_cons.1 hme with rfl | hme
        · omega
        · cases t with
          | nil => simp at hme
          | cons m t =>
            simp only [endOf] at h2
            rcases List.mem_cons.1 hme with rfl | hme
            · omega
            · have := (List.pairwise_cons.1 hp4.2).1 e hme; omega

/-- The reference's 'made' over its 'edges': the set of the numbers of which p holds. -/
theorem made_good {p : Int → Bool} {ss : List (List Rg)} (h : Turns p (edgesL ss)) :
    GoodS (madeL p (edgesL ss) []) ∧ ∀ k, hasL (madeL p (edgesL ss) []) k = (isNum k && p k) := by
  obtain ⟨t, ht⟩ := edgesL_head ss
  have hE := edgesL_is ss
  obtain ⟨g, hh⟩ := madeL_good p (edgesL ss) [] (-MX) trivial (by simp) hE.1 hE.2 (h.resp _ [] rfl hE) (fun n hn => by rw [ht] at hn; simpa using hn)
  exact ⟨g, fun k => by rw [hh, ht]; simp [hasL_nil, isNum]⟩

theorem made_norm (l : List Rg) : madeL (fun n => hasL l n) (edgesL [l]) [] = normS l := by
  obtain ⟨g, h⟩ := made_good (Turns.inSet (ss := [l]) (s := l) (by simp))
  exact normS_of g h


theorem insE_at (n : Int) : ∀ (l : List Int) (k : Nat), (∀ x ∈ l.take k, x < n) → (∀ x ∈ l.drop k, n < x) → insE n l = l.take k ++ n :: l.drop k
  | [], k, _, _ => by simp [insE]
  | y :: t, 0, _, h => by
    have := h y (by simp)
    simp [insE, this]
  | y :: t, k + 1, h, h' => by
    have h1 := h y (by simp)
    have h2 := insE_at n t k (fun x hx => h x (by simp [hx])) (fun x hx => h' x (by simpa using hx))
    simp only [insE, List.take_succ_cons, List.drop_succ_cons, List.cons_append]
    rw [if_neg (by omega), if_neg (by omega), h2]
theorem insE_mem (n : Int) : ∀ (l : List Int), l.Pairwise (· < ·) → n ∈ l → insE n l = l
  | [], _, h => by simp at h
  | y :: t, hp, h => by
    obtain ⟨h1, h2⟩ := List.pairwise_cons.1 hp
    unfold insE
    rcases List.mem_cons.1 h with rfl | h
    · rw [if_neg (by omega), if_pos rfl]
    · have := h1 n h
      rw [if_neg (by omega), if_neg (by omega), insE_mem n t h2 h]
theorem sorted_take {l : List Int} {k : Nat} {y n : Int} (hp : l.Pairwise (· < ·)) (hk : l[k]? = some y) (h : y < n) : ∀ x ∈ l.take (k + 1), x < n := by
  intro x hx
  obtain ⟨i, hi, rfl⟩ := List.mem_take_iff_getElem.1 hx
  obtain ⟨hk', rfl⟩ := List.getElem?_eq_some_iff.1 hk
  rcases Nat.lt_or_ge i k with hlt | hge
  · have := List.pairwise_iff_getElem.1 hp i k (by omega) hk' hlt
    omega
  · have : i = k := by omega
    subst this
    exact h
theorem addE_len (n : Int) (l : List Int) : (addE n l).length ≤ l.length + 1 := by
  have h : ∀ l : List Int, (insE n l).length ≤ l.length + 1 := by
    intro l
    induction l with
    | nil => simp [insE]
    | cons y t ih => unfold insE; split <;> (try split) <;> simp <;> omega
  unfold addE
  split
  · exact h l
  · omega
/-- Rising numbers from -MX to MX are few. -/
theorem IsE_len {l : List Int} (h : IsE l) : l.length ≤ 2000001 := by
  have key : ∀ (l : List Int) (a : Int), l.Pairwise (· < ·) → (∀ n ∈ l, a ≤ n ∧ n ≤ MX) → (l.length : Int) ≤ max 0 (MX - a + 1) := by
    intro l
    induction l with
    | nil => intro a _ _; simp; omega
    | cons y t ih =>
      intro a hp hb
      obtain ⟨h1, h2⟩ := List.pairwise_cons.1 hp
      have h3 := hb y (by simp)
      have h4 := ih (y + 1) h2 (fun n hn => ⟨by have := h1 n hn; omega, (hb n (by simp [hn])).2⟩)
      simp only [List.length_cons]
      omega
  have := key l (-MX) h.1 h.2
  unfold MX at this
  omega

end Go.Proofs.YtlopccnehgolnaaDoor.Rb
