
/- Plain mathematics of sets of numbers as lists of ranges (chapter 1): the canonical form is unique. -/
namespace Go.Proofs.YtlopccnehgolnabDoor.Rb

abbrev Rg := Int × Int

def MX : Int := 1000000

def inR (r : Rg) (n : Int) : Bool := decide (r.1 ≤ n) && decide (n ≤ r.2)
def hasL (l : List Rg) (n : Int) : Bool := l.any fun r => inR r n
def isNum (n : Int) : Bool := decide (-MX ≤ n) && decide (n ≤ MX)

theorem isNum_iff (n : Int) : isNum n = true ↔ -1000000 ≤ n ∧ n ≤ 1000000 := by
  unfold isNum
  rw [Bool.and_eq_true, decide_eq_true_iff, decide_eq_true_iff]
  exact Iff.rfl

/-- Ranges that rise and do not touch, all above 'last' + 1. -/
def GoodFrom : Int → List Rg → Prop
  | _, [] => True
  | last, r :: t => -MX ≤ r.1 ∧ r.2 ≤ MX ∧ r.1 ≤ r.2 ∧ last + 1 < r.1 ∧ GoodFrom r.2 t

def GoodS (l : List Rg) : Prop := GoodFrom (-MX - 2) l

instance : ∀ (a : Int) (l : List Rg), Decidable (GoodFrom a l)
  | _, [] => .isTrue trivial
  | a, r :: t => by
    unfold GoodFrom
    have := instDecidableGoodFrom r.2 t
    infer_instance
instance (l : List Rg) : Decidable (GoodS l) := by unfold GoodS; infer_instance

theorem hasL_nil (n : Int) : hasL [] n = false := rfl
theorem hasL_cons (r : Rg) (l : List Rg) (n : Int) : hasL (r :: l) n = (inR r n || hasL l n) := rfl
theorem hasL_append (a b : List Rg) (n : Int) : hasL (a ++ b) n = (hasL a n || hasL b n) := by simp [hasL]
theorem inR_iff (r : Rg) (n : Int) : inR r n = true ↔ r.1 ≤ n ∧ n ≤ r.2 := by simp [inR]

theorem GoodFrom.above : ∀ {l : List Rg} {a : Int}, GoodFrom a l → ∀ n, hasL l n = true → a + 1 < n
  | [], _, _, n, h => by simp [hasL_nil] at h
  | r :: t, a, hg, n, h => by
    obtain ⟨_, _, h3, h4, h5⟩ := hg
    rw [hasL_cons, Bool.or_eq_true, inR_iff] at h
    rcases h with h | h
    · omega
    · have := h5.above n h
      omega
theorem GoodFrom.num : ∀ {l : List Rg} {a : Int}, GoodFrom a l → ∀ n, hasL l n = true → -MX ≤ n ∧ n ≤ MX
  | [], _, _, n, h => by simp [hasL_nil] at h
  | r :: t, a, hg, n, h => by
    obtain ⟨h1, h2, h3, h4, h5⟩ := hg
    rw [hasL_cons, Bool.or_eq_true, inR_iff] at h
    rcases h with h | h
    · omega
    · exact h5.num n h
theorem GoodFrom.mono {l : List Rg} {a b : Int} (h : GoodFrom a l) (hb : b ≤ a) : GoodFrom b l := by
  cases l with
  | nil => trivial
  | cons r t => exact ⟨h.1, h.2.1, h.2.2.1, by have := h.2.2.2.1; omega, h.2.2.2.2⟩

/-- Two sets with the same numbers are one list. -/
theorem good_unique : ∀ {a b : List Rg} {x y : Int}, GoodFrom x a → GoodFrom y b → (∀ n, hasL a n = hasL b n) → a = b
  | [], [], _, _, _, _, _ => rfl
  | [], r :: t, _, _, _, hb, h => by
    have := h r.1
    rw [hasL_nil, hasL_cons, (inR_iff r r.1).2 ⟨by omega, hb.2.2.1⟩] at this
    cases this
  | r :: t, [], _, _, ha, _, h => by
    have := h r.1
    rw [hasL_nil, hasL_cons, (inR_iff r r.1).2 ⟨by omega, ha.2.2.1⟩] at this
    cases this
  | (p, q) :: t, (p', q') :: t', x, y, ha, hb, h => by
    obtain ⟨_, _, a3, a4, a5⟩ := ha
    obtain ⟨_, _, b3, b4, b5⟩ := hb
    dsimp only at a3 a4 a5 b3 b4 b5
    have ht : ∀ n, hasL t n = true → q + 1 < n := a5.above
    have ht' : ∀ n, hasL t' n = true → q' + 1 < n := b5.above
    have hf : ∀ n, (p ≤ n ∧ n ≤ q ∨ hasL t n = true) ↔ (p' ≤ n ∧ n ≤ q' ∨ hasL t' n = true) := fun n => by
      have := h n
      rw [hasL_cons, hasL_cons, Bool.eq_iff_iff, Bool.or_eq_true, Bool.or_eq_true, inR_iff, inR_iff] at this
      exact this
    have hp : p = p' := by
      have h1 := (hf p).1 (.inl ⟨by omega, a3⟩)
      have h2 := (hf p').2 (.inl ⟨by omega, b3⟩)
      have h3 := fun h => ht' p h
      have h4 := fun h => ht p' h
      rcases h1 with h1 | h1 <;> rcases h2 with h2 | h2 <;> first | omega | (have := h3 h1; omega) | (have := h4 h2; omega) | (have := h3 h1; have := h4 h2; omega)
    subst hp
    have hq : q = q' := by
      rcases Int.lt_trichotomy q q' with hlt | heq | hgt
      · have h1 := (hf (q + 1)).2 (.inl ⟨by omega, by omega⟩)
        rcases h1 with h1 | h1
        · omega
        · have := ht _ h1; omega
      · exact heq
      · have h1 := (hf (q' + 1)).1 (.inl ⟨by omega, by omega⟩)
        rcases h1 with h1 | h1
        · omega
        · have := ht' _ h1; omega
    subst hq
    have : t = t' := by
      refine good_unique a5 b5 fun n => ?_
      have := hf n
      have h3 := fun h => ht' n h
      have h4 := fun h => ht n h
      rw [Bool.eq_iff_iff]
      constructor
      · intro hh
        rcases this.1 (.inr hh) with h1 | h1
        · have := h4 hh; omega
        · exact h1
      · intro hh
        rcases this.2 (.inr hh) with h1 | h1
        · have := h3 hh; omega
        · exact h1
    rw [this]

/-- Clip to the numbers; empty ranges go. -/
def clip (l : List Rg) : List Rg := (l.map fun r => (max r.1 (-MX), min r.2 MX)).filter fun r => decide (r.1 ≤ r.2)

theorem hasL_filter_clip (l : List Rg) (n : Int) : hasL (clip l) n = (isNum n && hasL l n) := by
  induction l with
  | nil => simp [clip, hasL]
  | cons r t ih =>
    have e : clip (r :: t) = (if max r.1 (-MX) ≤ min r.2 MX then [(max r.1 (-MX), min r.2 MX)] else []) ++ clip t := by
      simp only [clip, List.map_cons, List.filter_cons]
      split <;> simp_all
    rw [e, hasL_append, ih, hasL_cons]
    by_cases h1 : max r.1 (-MX) ≤ min r.2 MX
    · rw [if_pos h1, hasL_cons, hasL_nil, Bool.eq_iff_iff]
      cases hasL t n <;> simp [inR, isNum] <;> omega
    · rw [if_neg h1, hasL_nil, Bool.eq_iff_iff]
      cases hasL t n <;> simp [inR, isNum] <;> omega

/-- One step of the merge: the accumulated ranges, then the next one. -/
def mstep (out : List Rg) (r : Rg) : List Rg :=
  match out.getLast? with
  | some x => if r.1 ≤ x.2 + 1 then out.dropLast ++ [(x.1, max x.2 r.2)] else out ++ [r]
  | none => [r]
def merge (l : List Rg) : List Rg := l.foldl mstep []


/-- The accumulated ranges are a set; all begin at or below 'b'. -/
def Acc (b : Int) (l : List Rg) : Prop := GoodFrom (-MX - 2) l ∧ ∀ r ∈ l, r.1 ≤ b

theorem GoodFrom.snoc : ∀ {l : List Rg} {a : Int} {r : Rg}, GoodFrom a l → -MX ≤ r.1 → r.2 ≤ MX → r.1 ≤ r.2 → a + 1 < r.1 → (∀ x ∈ l, x.2 + 1 < r.1) → GoodFrom a (l ++ [r])
  | [], _, _, _, h1, h2, h3, h4, _ => ⟨h1, h2, h3, h4, trivial⟩
  | x :: t, a, r, hg, h1, h2, h3, h4, h5 => ⟨hg.1, hg.2.1, hg.2.2.1, hg.2.2.2.1, GoodFrom.snoc hg.2.2.2.2 h1 h2 h3 (h5 x (by simp)) fun y hy => h5 y (by simp [hy])⟩
theorem GoodFrom.his : ∀ {l : List Rg} {a : Int}, GoodFrom a l → ∀ x ∈ l, a + 1 < x.1 ∧ x.1 ≤ x.2 ∧ -MX ≤ x.1 ∧ x.2 ≤ MX
  | [], _, _, x, hx => by simp at hx
  | y :: t, a, hg, x, hx => by
    obtain ⟨h1, h2, h3, h4, h5⟩ := hg
    rcases List.mem_cons.1 hx with rfl | hx
    · exact ⟨h4, h3, h1, h2⟩
    · have := h5.his x hx
      exact ⟨by omega, this.2⟩
theorem GoodFrom.init : ∀ {l : List Rg} {a : Int} {r : Rg}, GoodFrom a (l ++ [r]) → GoodFrom a l ∧ (∀ x ∈ l, x.2 + 1 < r.1) ∧ a + 1 < r.1 ∧ -MX ≤ r.1 ∧ r.2 ≤ MX ∧ r.1 ≤ r.2
  | [], _, _, h => ⟨trivial, by simp, h.2.2.2.1, h.1, h.2.1, h.2.2.1⟩
  | x :: t, a, r, h => by
    obtain ⟨h1, h2, h3, h4, h5⟩ := h
    obtain ⟨k1, k2, k3, k4, k5, k6⟩ := GoodFrom.init (l := t) (r := r) h5
    refine ⟨⟨h1, h2, h3, h4, k1⟩, ?_, by omega, k4, k5, k6⟩
    intro y hy
    rcases List.mem_cons.1 hy with rfl | hy
    · exact k3
    · exact k2 y hy

theorem mstep_acc {b : Int} {out : List Rg} {r : Rg} (h : Acc b out) (hb : b ≤ r.1) (h1 : -MX ≤ r.1) (h2 : r.2 ≤ MX) (h3 : r.1 ≤ r.2) :
    Acc r.1 (mstep out r) ∧ ∀ n, hasL (mstep out r) n = (hasL out n || inR r n) := by
  rcases List.eq_nil_or_concat out with rfl | ⟨l, x, rfl⟩
  · have e : mstep [] r = [r] := rfl
    rw [e]
    exact ⟨⟨⟨h1, h2, h3, by omega, trivial⟩, by simp⟩, fun n => by simp [hasL]⟩
  · rw [List.concat_eq_append] at h ⊢
    obtain ⟨hg, hl⟩ := h
    obtain ⟨k1, k2, k3, k4, k5, k6⟩ := hg.init
    have hx := hl x (by simp)
    have e : mstep (l ++ [x]) r = if r.1 ≤ x.2 + 1 then l ++ [(x.1, max x.2 r.2)] else l ++ [x] ++ [r] := by simp [mstep]
    rw [e]
    split
    · refine ⟨⟨GoodFrom.snoc k1 (by dsimp only; omega) (by dsimp only; omega) (by dsimp only; omega) (by dsimp only; omega) k2, ?_⟩, fun n => ?_⟩
      · intro y hy
        rcases List.mem_append.1 hy with hy | hy
        · have := hl y (by simp [hy]); omega
        · obtain rfl : y = (x.1, max x.2 r.2) := by simpa using hy
          dsimp only; omega
      · rw [hasL_append, hasL_append]
        rw [Bool.eq_iff_iff]
        cases hasL l n <;> simp [hasL, inR] <;> omega
    · refine ⟨⟨GoodFrom.snoc hg h1 h2 h3 (by omega) ?_, ?_⟩, fun n => by rw [hasL_append]; simp [hasL]⟩
      · intro y hy
        rcases List.mem_append.1 hy with hy | hy
        · have := k2 y hy; omega
        · obtain rfl : y = x := by simpa using hy
          omega
      · intro y hy
        rcases List.mem_append.1 hy with hy | hy
        · have := hl y hy; omega
        · obtain rfl : y = r := by simpa using hy
          omega

theorem foldl_mstep : ∀ (l : List Rg) (b : Int) (out : List Rg), Acc b out → (∀ r ∈ l, b ≤ r.1 ∧ -MX ≤ r.1 ∧ r.2 ≤ MX ∧ r.1 ≤ r.2) → l.Pairwise (fun x y => x.1 ≤ y.1) →
    GoodS (l.foldl mstep out) ∧ ∀ n, hasL (l.foldl mstep out) n = (hasL out n || hasL l n)
  | [], _, out, h, _, _ => ⟨h.1, fun n => by simp [hasL]⟩
  | r :: t, b, out, h, hl, hp => by
    obtain ⟨k0, k1, k2, k3⟩ := hl r (by simp)
    obtain ⟨ha, hh⟩ := mstep_acc h k0 k1 k2 k3
    obtain ⟨hp1, hp2⟩ := List.pairwise_cons.1 hp
    obtain ⟨g1, g2⟩ := foldl_mstep t r.1 (mstep out r) ha (fun x hx => ⟨hp1 x hx, (hl x (by simp [hx])).2⟩) hp2
    exact ⟨g1, fun n => by rw [List.foldl_cons, g2, hh, hasL_cons, Bool.or_assoc]⟩

/-- The merge of a rising list of ranges is the set of their numbers. -/
theorem merge_good {l : List Rg} (hl : ∀ r ∈ l, -MX ≤ r.1 ∧ r.2 ≤ MX ∧ r.1 ≤ r.2) (hp : l.Pairwise (fun x y => x.1 ≤ y.1)) :
    GoodS (merge l) ∧ ∀ n, hasL (merge l) n = hasL l n := by
  obtain ⟨g, h⟩ := foldl_mstep l (-MX) [] ⟨trivial, by simp⟩ (fun r hr => ⟨(hl r hr).1, hl r hr⟩) hp
  exact ⟨g, fun n => by rw [merge, h, hasL_nil, Bool.false_or]⟩

theorem hasL_perm {a b : List Rg} (h : a.Perm b) (n : Int) : hasL a n = hasL b n := by
  rw [Bool.eq_iff_iff]; simp only [hasL, List.any_eq_true]
  constructor <;> rintro ⟨x, hx, hn⟩
  · exact ⟨x, h.mem_iff.1 hx, hn⟩
  · exact ⟨x, h.mem_iff.2 hx, hn⟩

theorem clip_num (l : List Rg) : ∀ r ∈ clip l, -MX ≤ r.1 ∧ r.2 ≤ MX ∧ r.1 ≤ r.2 := by
  intro r hr
  simp only [clip, List.mem_filter, List.mem_map, decide_eq_true_eq] at hr
  obtain ⟨⟨x, _, rfl⟩, h⟩ := hr
  dsimp only at h ⊢
  omega

/-- The normal form: the set of the numbers from -MX to MX that are in some range of l. -/
def normS (l : List Rg) : List Rg := merge ((clip l).mergeSort fun x y => decide (x.1 ≤ y.1))

theorem normS_good (l : List Rg) : GoodS (normS l) ∧ ∀ n, hasL (normS l) n = (isNum n && hasL l n) := by
  have hperm := List.mergeSort_perm (clip l) (fun x y => decide (x.1 ≤ y.1))
  have hp : ((clip l).mergeSort fun x y => decide (x.1 ≤ y.1)).Pairwise (fun x y => x.1 ≤ y.1) := by
    have := List.pairwise_mergeSort (le := fun (x y : Rg) => decide (x.1 ≤ y.1)) (fun a b c h1 h2 => by simp at *; omega) (fun a b => by simp; omega) (clip l)
    exact this.imp fun h => by simpa using h
  obtain ⟨g, h⟩ := merge_good (fun r hr => clip_num l r (hperm.mem_iff.1 hr)) hp
  exact ⟨g, fun n => by rw [normS, h, hasL_perm hperm, hasL_filter_clip]⟩

/-- Whatever rising permutation the sort gives, the merge of it is the normal form. -/
theorem merge_sorted {l s : List Rg} (hs : s.Perm (clip l)) (hp : s.Pairwise (fun x y => x.1 ≤ y.1)) : merge s = normS l := by
  obtain ⟨g, h⟩ := merge_good (fun r hr => clip_num l r (hs.mem_iff.1 hr)) hp
  obtain ⟨g', h'⟩ := normS_good l
  exact good_unique g g' fun n => by rw [h, h', hasL_perm hs, hasL_filter_clip]

/-- A set with the right numbers is the normal form. -/
theorem normS_of {s l : List Rg} (hg : GoodS s) (h : ∀ n, hasL s n = (isNum n && hasL l n)) : s = normS l :=
  good_unique hg (normS_good l).1 fun n => by rw [h, (normS_good l).2]

theorem normS_id {l : List Rg} (hg : GoodS l) : normS l = l :=
  (normS_of hg fun n => by
    cases hh : hasL l n
    · simp
    · have := hg.num n hh
      simp [isNum, this]).symm


/-- Is it a set, asked range by range? -/
def isSetB : Int → List Rg → Bool
  | _, [] => true
  | a, r :: t => isNum r.1 && isNum r.2 && decide (r.1 ≤ r.2) && decide (a + 1 < r.1) && isSetB r.2 t
theorem isSetB_iff : ∀ (l : List Rg) (a : Int), isSetB a l = true ↔ GoodFrom a l
  | [], a => by simp [isSetB, GoodFrom]
  | r :: t, a => by
    simp only [isSetB, GoodFrom, Bool.and_eq_true, isNum_iff, decide_eq_true_iff, isSetB_iff t]
    unfold MX
    constructor
    · rintro ⟨⟨⟨⟨⟨h1, h2⟩, h3, h4⟩, h5⟩, h6⟩, h7⟩; exact ⟨h1, h4, h5, h6, h7⟩
    · rintro ⟨h1, h2, h3, h4, h5⟩; exact ⟨⟨⟨⟨⟨h1, by omega⟩, by omega, h2⟩, h3⟩, h4⟩, h5⟩
def isSet (l : List Rg) : Bool := isSetB (-1000002) l
theorem isSet_iff (l : List Rg) : isSet l = true ↔ GoodS l := isSetB_iff l _

end Go.Proofs.YtlopccnehgolnabDoor.Rb
