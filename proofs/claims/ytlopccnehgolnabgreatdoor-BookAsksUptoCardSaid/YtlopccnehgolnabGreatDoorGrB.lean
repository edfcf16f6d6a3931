/- Plain mathematics of sets of numbers as lists of ranges (chapter 1): the canonical form is unique.  Sets of numbers as lists of ranges: what is in both of two, and in the one alone. Plain, no program. -/
namespace Go.Proofs.YtlopccnehgolnabGreatDoor.Rb

abbrev Rg := Int × Int

def MX : Int := 1000000

def inR (r : Rg) (n : Int) : Bool := decide (r.1 ≤ n) && decide (n ≤ r.2)
def hasL (l : List Rg) (n : Int) : Bool := l.any fun r => inR r n
def isNum (n : Int) : Bool := decide (-MX ≤ n) && decide (n ≤ MX)

theorem isNum_iff (n : Int) : isNum n = true ↔ -1000000 ≤ n ∧ n ≤ 1000000 := by
  unfold isNum
  rw [Bool.and_eq_true, decide_eq_true_iff, decide_eq_true_iff]
  exact Iff.rfl

/-- Ranges that rise and do not touch, all above 'last' + 1. -/
def GoodFrom : Int → List Rg → Prop
  | _, [] => True
  | last, r :: t => -MX ≤ r.1 ∧ r.2 ≤ MX ∧ r.1 ≤ r.2 ∧ last + 1 < r.1 ∧ GoodFrom r.2 t

def GoodS (l : List Rg) : Prop := GoodFrom (-MX - 2) l

instance : ∀ (a : Int) (l : List Rg), Decidable (GoodFrom a l)
  | _, [] => .isTrue trivial
  | a, r :: t => by
    unfold GoodFrom
    have := instDecidableGoodFrom r.2 t
    infer_instance
instance (l : List Rg) : Decidable (GoodS l) := by unfold GoodS; infer_instance

theorem hasL_nil (n : Int) : hasL [] n = false := rfl
theorem hasL_cons (r : Rg) (l : List Rg) (n : Int) : hasL (r :: l) n = (inR r n || hasL l n) := rfl
theorem hasL_append (a b : List Rg) (n : Int) : hasL (a ++ b) n = (hasL a n || hasL b n) := by simp [hasL]
theorem inR_iff (r : Rg) (n : Int) : inR r n = true ↔ r.1 ≤ n ∧ n ≤ r.2 := by simp [inR]

theorem GoodFrom.above : ∀ {l : List Rg} {a : Int}, GoodFrom a l → ∀ n, hasL l n = true → a + 1 < n
  | [], _, _, n, h => by simp [hasL_nil] at h
  | r :: t, a, hg, n, h => by
    obtain ⟨_, _, h3, h4, h5⟩ := hg
    rw [hasL_cons, Bool.or_eq_true, inR_iff] at h
    rcases h with h | h
    · omega
    · have := h5.above n h
      omega
theorem GoodFrom.num : ∀ {l : List Rg} {a : Int}, GoodFrom a l → ∀ n, hasL l n = true → -MX ≤ n ∧ n ≤ MX
  | [], _, _, n, h => by simp [hasL_nil] at h
  | r :: t, a, hg, n, h => by
    obtain ⟨h1, h2, h3, h4, h5⟩ := hg
    rw [hasL_cons, Bool.or_eq_true, inR_iff] at h
    rcases h with h | h
    · omega
    · exact h5.num n h
theorem GoodFrom.mono {l : List Rg} {a b : Int} (h : GoodFrom a l) (hb : b ≤ a) : GoodFrom b l := by
  cases l with
  | nil => trivial
  | cons r t => exact ⟨h.1, h.2.1, h.2.2.1, by have := h.2.2.2.1; omega, h.2.2.2.2⟩

/-- Two sets with the same numbers are one list. -/
theorem good_unique : ∀ {a b : List Rg} {x y : Int}, GoodFrom x a → GoodFrom y b → (∀ n, hasL a n = hasL b n) → a = b
  | [], [], _, _, _, _, _ => rfl
  | [], r :: t, _, _, _, hb, h => by
    have := h r.1
    rw [hasL_nil, hasL_cons, (inR_iff r r.1).2 ⟨by omega, hb.2.2.1⟩] at this
    cases this
  | r :: t, [], _, _, ha, _, h => by
    have := h r.1
    rw [hasL_nil, hasL_cons, (inR_iff r r.1).2 ⟨by omega, ha.2.2.1⟩] at this
    cases this
  | (p, q) :: t, (p', q') :: t', x, y, ha, hb, h => by
    obtain ⟨_, _, a3, a4, a5⟩ := ha
    obtain ⟨_, _, b3, b4, b5⟩ := hb
    dsimp only at a3 a4 a5 b3 b4 b5
    have ht : ∀ n, hasL t n = true → q + 1 < n := a5.above
    have ht' : ∀ n, hasL t' n = true → q' + 1 < n := b5.above
    have hf : ∀ n, (p ≤ n ∧ n ≤ q ∨ hasL t n = true) ↔ (p' ≤ n ∧ n ≤ q' ∨ hasL t' n = true) := fun n => by
      have := h n
      rw [hasL_cons, hasL_cons, Bool.eq_iff_iff, Bool.or_eq_true, Bool.or_eq_true, inR_iff, inR_iff] at this
      exact this
    have hp : p = p' := by
      have h1 := (hf p).1 (.inl ⟨by omega, a3⟩)
      have h2 := (hf p').2 (.inl ⟨by omega, b3⟩)
      have h3 := fun h => ht' p h
      have h4 := fun h => ht p' h
      rcases h1 with h1 | h1 <;> rcases h2 with h2 | h2 <;> first | omega | (have := h3 h1; omega) | (have := h4 h2; omega) | (have := h3 h1; have := h4 h2; omega)
    subst hp
    have hq : q = q' := by
      rcases Int.lt_trichotomy q q' with hlt | heq | hgt
      · have h1 := (hf (q + 1)).2 (.inl ⟨by omega, by omega⟩)
        rcases h1 with h1 | h1
        · omega
        · have := ht _ h1; omega
      · exact heq
      · have h1 := (hf (q' + 1)).1 (.inl ⟨by omega, by omega⟩)
        rcases h1 with h1 | h1
        · omega
        · have := ht' _ h1; omega
    subst hq
    have : t = t' := by
      refine good_unique a5 b5 fun n => ?_
      have := hf n
      have h3 := fun h => ht' n h
      have h4 := fun h => ht n h
      rw [Bool.eq_iff_iff]
      constructor
      · intro hh
        rcases this.1 (.inr hh) with h1 | h1
        · have := h4 hh; omega
        · exact h1
      · intro hh
        rcases this.2 (.inr hh) with h1 | h1
        · have := h3 hh; omega
        · exact h1
    rw [this]

/-- Clip to the numbers; empty ranges go. -/
def clip (l : List Rg) : List Rg := (l.map fun r => (max r.1 (-MX), min r.2 MX)).filter fun r => decide (r.1 ≤ r.2)

theorem hasL_filter_clip (l : List Rg) (n : Int) : hasL (clip l) n = (isNum n && hasL l n) := by
  induction l with
  | nil => simp [clip, hasL]
  | cons r t ih =>
    have e : clip (r :: t) = (if max r.1 (-MX) ≤ min r.2 MX then [(max r.1 (-MX), min r.2 MX)] else []) ++ clip t := by
      simp only [clip, List.map_cons, List.filter_cons]
      split <;> simp_all
    rw [e, hasL_append, ih, hasL_cons]
    by_cases h1 : max r.1 (-MX) ≤ min r.2 MX
    · rw [if_pos h1, hasL_cons, hasL_nil, Bool.eq_iff_iff]
      cases hasL t n <;> simp [inR, isNum] <;> omega
    · rw [if_neg h1, hasL_nil, Bool.eq_iff_iff]
      cases hasL t n <;> simp [inR, isNum] <;> omega

/-- One step of the merge: the accumulated ranges, then the next one. -/
def mstep (out : List Rg) (r : Rg) : List Rg :=
  match out.getLast? with
  | some x => if r.1 ≤ x.2 + 1 then out.dropLast ++ [(x.1, max x.2 r.2)] else out ++ [r]
  | none => [r]
def merge (l : List Rg) : List Rg := l.foldl mstep []


/-- The accumulated ranges are a set; all begin at or below 'b'. -/
def Acc (b : Int) (l : List Rg) : Prop := GoodFrom (-MX - 2) l ∧ ∀ r ∈ l, r.1 ≤ b

theorem GoodFrom.snoc : ∀ {l : List Rg} {a : Int} {r : Rg}, GoodFrom a l → -MX ≤ r.1 → r.2 ≤ MX → r.1 ≤ r.2 → a + 1 < r.1 → (∀ x ∈ l, x.2 + 1 < r.1) → GoodFrom a (l ++ [r])
  | [], _, _, _, h1, h2, h3, h4, _ => ⟨h1, h2, h3, h4, trivial⟩
  | x :: t, a, r, hg, h1, h2, h3, h4, h5 => ⟨hg.1, hg.2.1, hg.2.2.1, hg.2.2.2.1, GoodFrom.snoc hg.2.2.2.2 h1 h2 h3 (h5 x (by simp)) fun y hy => h5 y (by simp [hy])⟩
theorem GoodFrom.his : ∀ {l : List Rg} {a : Int}, GoodFrom a l → ∀ x ∈ l, a + 1 < x.1 ∧ x.1 ≤ x.2 ∧ -MX ≤ x.1 ∧ x.2 ≤ MX
  | [], _, _, x, hx => by simp at hx
  | y :: t, a, hg, x, hx => by
    obtain ⟨h1, h2, h3, h4, h5⟩ := hg
    rcases List.mem_cons.1 hx with rfl | hx
    · exact ⟨h4, h3, h1, h2⟩
    · have := h5.his x hx
      exact ⟨by omega, this.2⟩
theorem GoodFrom.init : ∀ {l : List Rg} {a : Int} {r : Rg}, GoodFrom a (l ++ [r]) → GoodFrom a l ∧ (∀ x ∈ l, x.2 + 1 < r.1) ∧ a + 1 < r.1 ∧ -MX ≤ r.1 ∧ r.2 ≤ MX ∧ r.1 ≤ r.2
  | [], _, _, h => ⟨trivial, by simp, h.2.2.2.1, h.1, h.2.1, h.2.2.1⟩
  | x :: t, a, r, h => by
    obtain ⟨h1, h2, h3, h4, h5⟩ := h
    obtain ⟨k1, k2, k3, k4, k5, k6⟩ := GoodFrom.init (l := t) (r := r) h5
    refine ⟨⟨h1, h2, h3, h4, k1⟩, ?_, by omega, k4, k5, k6⟩
    intro y hy
    rcases List.mem_cons.1 hy with rfl | hy
    · exact k3
    · exact k2 y hy

theorem mstep_acc {b : Int} {out : List Rg} {r : Rg} (h : Acc b out) (hb : b ≤ r.1) (h1 : -MX ≤ r.1) (h2 : r.2 ≤ MX) (h3 : r.1 ≤ r.2) :
    Acc r.1 (mstep out r) ∧ ∀ n, hasL (mstep out r) n = (hasL out n || inR r n) := by
  rcases List.eq_nil_or_concat out with rfl | ⟨l, x, rfl⟩
  · have e : mstep [] r = [r] := rfl
    rw [e]
    exact ⟨⟨⟨h1, h2, h3, by omega, trivial⟩, by simp⟩, fun n => by simp [hasL]⟩
  · rw [List.concat_eq_append] at h ⊢
    obtain ⟨hg, hl⟩ := h
    obtain ⟨k1, k2, k3, k4, k5, k6⟩ := hg.init
    have hx := hl x (by simp)
    have e : mstep (l ++ [x]) r = if r.1 ≤ x.2 + 1 then l ++ [(x.1, max x.2 r.2)] else l ++ [x] ++ [r] := by simp [mstep]
    rw [e]
    split
    · refine ⟨⟨GoodFrom.snoc k1 (by dsimp only; omega) (by dsimp only; omega) (by dsimp only; omega) (by dsimp only; omega) k2, ?_⟩, fun n => ?_⟩
      · intro y hy
        rcases List.mem_append.1 hy with hy | hy
        · have := hl y (by simp [hy]); omega
        · obtain rfl : y = (x.1, max x.2 r.2) := by simpa using hy
          dsimp only; omega
      · rw [hasL_append, hasL_append]
        rw [Bool.eq_iff_iff]
        cases hasL l n <;> simp [hasL, inR] <;> omega
    · refine ⟨⟨GoodFrom.snoc hg h1 h2 h3 (by omega) ?_, ?_⟩, fun n => by rw [hasL_append]; simp [hasL]⟩
      · intro y hy
        rcases List.mem_append.1 hy with hy | hy
        · have := k2 y hy; omega
        · obtain rfl : y = x := by simpa using hy
          omega
      · intro y hy
        rcases List.mem_append.1 hy with hy | hy
        · have := hl y hy; omega
        · obtain rfl : y = r := by simpa using hy
          omega

theorem foldl_mstep : ∀ (l : List Rg) (b : Int) (out : List Rg), Acc b out → (∀ r ∈ l, b ≤ r.1 ∧ -MX ≤ r.1 ∧ r.2 ≤ MX ∧ r.1 ≤ r.2) → l.Pairwise (fun x y => x.1 ≤ y.1) →
    GoodS (l.foldl mstep out) ∧ ∀ n, hasL (l.foldl mstep out) n = (hasL out n || hasL l n)
  | [], _, out, h, _, _ => ⟨h.1, fun n => by simp [hasL]⟩
  | r :: t, b, out, h, hl, hp => by
    obtain ⟨k0, k1, k2, k3⟩ := hl r (by simp)
    obtain ⟨ha, hh⟩ := mstep_acc h k0 k1 k2 k3
    obtain ⟨hp1, hp2⟩ := List.pairwise_cons.1 hp
    obtain ⟨g1, g2⟩ := foldl_mstep t r.1 (mstep out r) ha (fun x hx => ⟨hp1 x hx, (hl x (by simp [hx])).2⟩) hp2
    exact ⟨g1, fun n => by rw [List.foldl_cons, g2, hh, hasL_cons, Bool.or_assoc]⟩

/-- The merge of a rising list of ranges is the set of their numbers. -/
theorem merge_good {l : List Rg} (hl : ∀ r ∈ l, -MX ≤ r.1 ∧ r.2 ≤ MX ∧ r.1 ≤ r.2) (hp : l.Pairwise (fun x y => x.1 ≤ y.1)) :
    GoodS (merge l) ∧ ∀ n, hasL (merge l) n = hasL l n := by
  obtain ⟨g, h⟩ := foldl_mstep l (-MX) [] ⟨trivial, by simp⟩ (fun r hr => ⟨(hl r hr).1, hl r hr⟩) hp
  exact ⟨g, fun n => by rw [merge, h, hasL_nil, Bool.false_or]⟩

theorem hasL_perm {a b : List Rg} (h : a.Perm b) (n : Int) : hasL a n = hasL b n := by
  rw [Bool.eq_iff_iff]; simp only [hasL, List.any_eq_true]
  constructor <;> rintro ⟨x, hx, hn⟩
  · exact ⟨x, h.mem_iff.1 hx, hn⟩
  · exact ⟨x, h.mem_iff.2 hx, hn⟩

theorem clip_num (l : List Rg) : ∀ r ∈ clip l, -MX ≤ r.1 ∧ r.2 ≤ MX ∧ r.1 ≤ r.2 := by
  intro r hr
  simp only [clip, List.mem_filter, List.mem_map, decide_eq_true_eq] at hr
  obtain ⟨⟨x, _, rfl⟩, h⟩ := hr
  dsimp only at h ⊢
  omega

/-- The normal form: the set of the numbers from -MX to MX that are in some range of l. -/
def normS (l : List Rg) : List Rg := merge ((clip l).mergeSort fun x y => decide (x.1 ≤ y.1))

theorem normS_good (l : List Rg) : GoodS (normS l) ∧ ∀ n, hasL (normS l) n = (isNum n && hasL l n) := by
  have hperm := List.mergeSort_perm (clip l) (fun x y => decide (x.1 ≤ y.1))
  have hp : ((clip l).mergeSort fun x y => decide (x.1 ≤ y.1)).Pairwise (fun x y => x.1 ≤ y.1) := by
    have := List.pairwise_mergeSort (le := fun (x y : Rg) => decide (x.1 ≤ y.1)) (fun a b c h1 h2 => by simp at *; omega) (fun a b => by simp; omega) (clip l)
    exact this.imp fun h => by simpa using h
  obtain ⟨g, h⟩ := merge_good (fun r hr => clip_num l r (hperm.mem_iff.1 hr)) hp
  exact ⟨g, fun n => by rw [normS, h, hasL_perm hperm, hasL_filter_clip]⟩

/-- Whatever rising permutation the sort gives, the merge of it is the normal form. -/
theorem merge_sorted {l s : List Rg} (hs : s.Perm (clip l)) (hp : s.Pairwise (fun x y => x.1 ≤ y.1)) : merge s = normS l := by
  obtain ⟨g, h⟩ := merge_good (fun r hr => clip_num l r (hs.mem_iff.1 hr)) hp
  obtain ⟨g', h'⟩ := normS_good l
  exact good_unique g g' fun n => by rw [h, h', hasL_perm hs, hasL_filter_clip]

/-- A set with the right numbers is the normal form. -/
theorem normS_of {s l : List Rg} (hg : GoodS s) (h : ∀ n, hasL s n = (isNum n && hasL l n)) : s = normS l :=
  good_unique hg (normS_good l).1 fun n => by rw [h, (normS_good l).2]

theorem normS_id {l : List Rg} (hg : GoodS l) : normS l = l :=
  (normS_of hg fun n => by
    cases hh : hasL l n
    · simp
    · have := hg.num n hh
      simp [isNum, this]).symm


/-- Is it a set, asked range by range? -/
def isSetB : Int → List Rg → Bool
  | _, [] => true
  | a, r :: t => isNum r.1 && isNum r.2 && decide (r.1 ≤ r.2) && decide (a + 1 < r.1) && isSetB r.2 t
theorem isSetB_iff : ∀ (l : List Rg) (a : Int), isSetB a l = true ↔ GoodFrom a l
  | [], a => by simp [isSetB, GoodFrom]
  | r :: t, a => by
    simp only [isSetB, GoodFrom, Bool.and_eq_true, isNum_iff, decide_eq_true_iff, isSetB_iff t]
    unfold MX
    constructor
    · rintro ⟨⟨⟨⟨⟨h1, h2⟩, h3, h4⟩, h5⟩, h6⟩, h7⟩; exact ⟨h1, h4, h5, h6, h7⟩
    · rintro ⟨h1, h2, h3, h4, h5⟩; exact ⟨⟨⟨⟨⟨h1, by omega⟩, by omega, h2⟩, h3⟩, h4⟩, h5⟩
def isSet (l : List Rg) : Bool := isSetB (-1000002) l
theorem isSet_iff (l : List Rg) : isSet l = true ↔ GoodS l := isSetB_iff l _

end Go.Proofs.YtlopccnehgolnabGreatDoor.Rb

/- Plain mathematics of the reference's sets: 'made' over 'edges' is the normal form. -/
namespace Go.Proofs.YtlopccnehgolnabGreatDoor.Rb

/-- One more range at the end; two that touch are one. -/
def pushM (out : List Rg) (n e : Int) : List Rg :=
  match out.getLast? with
  | some x => if x.2 = n - 1 then out.dropLast ++ [(x.1, e)] else out ++ [(n, e)]
  | none => [(n, e)]
def endOf : List Int → Int
  | [] => MX
  | m :: _ => m - 1
def madeL (p : Int → Bool) : List Int → List Rg → List Rg
  | [], out => out
  | n :: t, out => madeL p t (if p n then pushM out n (endOf t) else out)

/-- p is the same from each edge on up to the next one. -/
def Resp (p : Int → Bool) : List Int → Prop
  | [] => True
  | n :: t => (∀ k, n ≤ k → k ≤ endOf t → p k = p n) ∧ Resp p t

theorem pushM_good {out : List Rg} {n e : Int} (hg : GoodS out) (hl : ∀ x ∈ out, x.2 < n) (h1 : -MX ≤ n) (h2 : n ≤ e) (h3 : e ≤ MX) :
    GoodS (pushM out n e) ∧ (∀ x ∈ pushM out n e, x.2 ≤ e) ∧ ∀ k, hasL (pushM out n e) k = (hasL out k || inR (n, e) k) := by
  rcases List.eq_nil_or_concat out with rfl | ⟨l, x, rfl⟩
  · have e' : pushM [] n e = [(n, e)] := rfl
    rw [e']
    exact ⟨⟨h1, h3, h2, by dsimp only; omega, trivial⟩, by simp, fun k => by simp [hasL]⟩
  · rw [List.concat_eq_append] at hg hl ⊢
    obtain ⟨k1, k2, k3, k4, k5, k6⟩ := GoodFrom.init hg
    have hx := hl x (by simp)
    have e' : pushM (l ++ [x]) n e = if x.2 = n - 1 then l ++ [(x.1, e)] else l ++ [x] ++ [(n, e)] := by simp [pushM]
    rw [e']
    split
    · refine ⟨GoodFrom.snoc k1 (by dsimp only; omega) (by dsimp only; omega) (by dsimp only; omega) (by dsimp only; omega) k2, ?_, fun k => ?_⟩
      · intro y hy
        rcases List.mem_append.1 hy with hy | hy
        · have := hl y (by simp [hy]); omega
        · obtain rfl : y = (x.1, e) := by simpa using hy
          dsimp only; omega
      · rw [hasL_append, hasL_append, Bool.eq_iff_iff]
        cases hasL l k <;> simp [hasL, inR] <;> omega
    · refine ⟨GoodFrom.snoc hg h1 h3 h2 (by dsimp only; omega) ?_, ?_, fun k => by rw [hasL_append]; simp [hasL]⟩
      · intro y hy
        rcases List.mem_append.1 hy with hy | hy
        · have := k2 y hy; dsimp only; omega
        · obtain rfl : y = x := by simpa using hy
          dsimp only; omega
      · intro y hy
        rcases List.mem_append.1 hy with hy | hy
        · have := hl y hy; omega
        · obtain rfl : y = (n, e) := by simpa using hy
          dsimp only; omega

theorem madeL_good (p : Int → Bool) : ∀ (l : List Int) (out : List Rg) (a : Int), GoodS out → (∀ x ∈ out, x.2 ≤ endOf l) → l.Pairwise (· < ·) → (∀ n ∈ l, -MX ≤ n ∧ n ≤ MX) → Resp p l →
    (∀ n, l.head? = some n → a = n) → GoodS (madeL p l out) ∧ ∀ k, hasL (madeL p l out) k = (hasL out k || (!l.isEmpty && decide (a ≤ k) && decide (k ≤ MX) && p k))
  | [], out, a, hg, _, _, _, _, _ => ⟨hg, fun k => by simp [madeL]⟩
  | n :: t, out, a, hg, hl, hp, hb, hr, ha => by
    obtain rfl : a = n := ha n rfl
    obtain ⟨hp1, hp2⟩ := List.pairwise_cons.1 hp
    obtain ⟨hr1, hr2⟩ := hr
    have hn := hb a (by simp)
    have he : a ≤ endOf t ∧ endOf t ≤ MX := by
      cases t with
      | nil => exact ⟨hn.2, Int.le_refl _⟩
      | cons m t =>
        have h1 := hp1 m (by simp)
        have h2 := hb m (by simp)
        exact ⟨by show a ≤ m - 1; omega, by show m - 1 ≤ MX; omega⟩
    have hl' : ∀ x ∈ out, x.2 < a := fun x hx => by have := hl x hx; simp only [endOf] at this; omega
    obtain ⟨g1, g2, g3⟩ := pushM_good (e := endOf t) hg hl' hn.1 he.1 he.2
    have hstep : GoodS (if p a then pushM out a (endOf t) else out) ∧ (∀ x ∈ (if p a then pushM out a (endOf t) else out), x.2 ≤ endOf t) ∧
        ∀ k, hasL (if p a then pushM out a (endOf t) else out) k = (hasL out k || (p a && inR (a, endOf t) k)) := by
      cases hpa : p a
      · exact ⟨by simpa using hg, fun x hx => by have := hl' x (by simpa using hx); omega, fun k => by simp⟩
      · exact ⟨by simpa using g1, fun x hx => g2 x (by simpa using hx), fun k => by simpa using g3 k⟩
    obtain ⟨s1, s2, s3⟩ := hstep
    obtain ⟨r1, r2⟩ := madeL_good p t _ (t.head?.getD 0) s1 s2 hp2 (fun x hx => hb x (by simp [hx])) hr2 (fun m hm => by simp [hm])
    refine ⟨r1, fun k => ?_⟩
    rw [madeL, r2, s3]
    have hk := hr1 k
    cases t with
    | nil =>
      simp only [endOf, inR, List.isEmpty_nil, List.isEmpty_cons, Bool.not_true, Bool.not_false, Bool.false_and, Bool.true_and, Bool.or_false] at hk ⊢
      by_cases h1 : a ≤ k <;> by_cases h2 : k ≤ MX <;> simp [h1, h2]
      rw [hk h1 h2]
    | cons m t =>
      have hm := hp1 m (by simp)
      have hm2 := hb m (by simp)
      simp only [endOf, inR, List.isEmpty_cons, Bool.not_false, Bool.true_and, List.head?_cons, Option.getD_some] at hk ⊢
      by_cases h1 : a ≤ k <;> by_cases h2 : k ≤ MX <;> by_cases h3 : m ≤ k
      · simp [h1, h2, h3, show ¬ k ≤ m - 1 by omega]
      · have := hk h1 (by omega)
        simp [h1, h2, h3, show k ≤ m - 1 by omega, this]
      · simp [h1, h2, h3, show ¬ k ≤ m - 1 by omega]
      · omega
      · omega
      · simp [h1, h3]
      · omega
      · simp [h1, h2]

/-- One more edge, in its place, once. -/
def insE (n : Int) : List Int → List Int
  | [] => [n]
  | x :: t => if n < x then n :: x :: t else if n = x then x :: t else x :: insE n t
def addE (n : Int) (l : List Int) : List Int := if isNum n then insE n l else l

theorem mem_insE (n x : Int) : ∀ l : List Int, x ∈ insE n l ↔ x = n ∨ x ∈ l
  | [] => by simp [insE]
  | y :: t => by
    unfold insE
    split
    · simp
    · split
      · subst n; simp
      · simp [mem_insE n x t]; grind
theorem insE_sorted (n : Int) : ∀ l : List Int, l.Pairwise (· < ·) → (insE n l).Pairwise (· < ·)
  | [], _ => by simp [insE]
  | y :: t, h => by
    obtain ⟨h1, h2⟩ := List.pairwise_cons.1 h
    unfold insE
    split
    · rename_i hlt
      refine List.pairwise_cons.2 ⟨fun x hx => ?_, h⟩
      rcases List.mem_cons.1 hx with rfl | hx
      · exact hlt
      · have := h1 x hx; omega
    · split
      · exact h
      · refine List.pairwise_cons.2 ⟨fun x hx => ?_, insE_sorted n t h2⟩
        rcases (mem_insE n x t).1 hx with rfl | hx
        · omega
        · exact h1 x hx
theorem mem_addE (n x : Int) (l : List Int) : x ∈ addE n l ↔ (isNum n = true ∧ x = n) ∨ x ∈ l := by
  unfold addE
  split
  · rename_i h; simp [mem_insE, h]
  · rename_i h; simp [h]
theorem addE_sorted (n : Int) (l : List Int) (h : l.Pairwise (· < ·)) : (addE n l).Pairwise (· < ·) := by
  unfold addE
  split
  · exact insE_sorted n l h
  · exact h

/-- The edges of one range, of a set, of sets. -/
def edgeR (l : List Int) (r : Rg) : List Int := if r.2 < MX then addE (r.2 + 1) (addE r.1 l) else addE r.1 l
def edgeS (l : List Int) (s : List Rg) : List Int := s.foldl edgeR l
def edgesL (sets : List (List Rg)) : List Int := sets.foldl edgeS (addE (-MX) [])

/-- A list of edges: rising, numbers. -/
def IsE (l : List Int) : Prop := l.Pairwise (· < ·) ∧ ∀ n ∈ l, -MX ≤ n ∧ n ≤ MX
theorem addE_is (n : Int) {l : List Int} (h : IsE l) : IsE (addE n l) :=
  ⟨addE_sorted n l h.1, fun x hx => by
    rcases (mem_addE n x l).1 hx with ⟨h1, rfl⟩ | hx
    · simpa [isNum] using h1
    · exact h.2 x hx⟩
theorem edgeR_is {l : List Int} (h : IsE l) (r : Rg) : IsE (edgeR l r) := by
  unfold edgeR; split
  · exact addE_is _ (addE_is _ h)
  · exact addE_is _ h
theorem edgeR_sub {l : List Int} (r : Rg) {x : Int} (h : x ∈ l) : x ∈ edgeR l r := by
  unfold edgeR; split <;> simp [mem_addE, h]
theorem edgeR_lo {l : List Int} (r : Rg) (h : isNum r.1 = true) : r.1 ∈ edgeR l r := by
  unfold edgeR; split <;> simp [mem_addE, h]
theorem edgeR_hi {l : List Int} (r : Rg) (h1 : r.2 < MX) (h2 : isNum (r.2 + 1) = true) : r.2 + 1 ∈ edgeR l r := by
  unfold edgeR; rw [if_pos h1]; simp [mem_addE, h2]
theorem edgeS_is : ∀ (s : List Rg) {l : List Int}, IsE l → IsE (edgeS l s)
  | [], _, h => h
  | r :: t, _, h => edgeS_is t (edgeR_is h r)
theorem edgeS_sub : ∀ (s : List Rg) {l : List Int} {x : Int}, x ∈ l → x ∈ edgeS l s
  | [], _, _, h => h
  | r :: t, _, _, h => edgeS_sub t (edgeR_sub r h)
theorem edgeS_mem : ∀ (s : List Rg) {l : List Int} {r : Rg}, r ∈ s → (isNum r.1 = true → r.1 ∈ edgeS l s) ∧ (r.2 < MX → isNum (r.2 + 1) = true → r.2 + 1 ∈ edgeS l s)
  | x :: t, l, r, h => by
    rcases List.mem_cons.1 h with rfl | h
    · exact ⟨fun h1 => edgeS_sub t (edgeR_lo r h1), fun h1 h2 => edgeS_sub t (edgeR_hi r h1 h2)⟩
    · exact edgeS_mem t h
theorem foldE_is : ∀ (ss : List (List Rg)) {l : List Int}, IsE l → IsE (ss.foldl edgeS l)
  | [], _, h => h
  | s :: t, _, h => foldE_is t (edgeS_is s h)
theorem foldE_sub : ∀ (ss : List (List Rg)) {l : List Int} {x : Int}, x ∈ l → x ∈ ss.foldl edgeS l
  | [], _, _, h => h
  | s :: t, _, _, h => foldE_sub t (edgeS_sub s h)
theorem foldE_mem : ∀ (ss : List (List Rg)) {l : List Int} {s : List Rg} {r : Rg}, s ∈ ss → r ∈ s →
    (isNum r.1 = true → r.1 ∈ ss.foldl edgeS l) ∧ (r.2 < MX → isNum (r.2 + 1) = true → r.2 + 1 ∈ ss.foldl edgeS l)
  | x :: t, l, s, r, h, hr => by
    rcases List.mem_cons.1 h with rfl | h
    · have := edgeS_mem s (l := l) hr
      exact ⟨fun h1 => foldE_sub t (this.1 h1), fun h1 h2 => foldE_sub t (this.2 h1 h2)⟩
    · exact foldE_mem t h hr

theorem edgesL_is (ss : List (List Rg)) : IsE (edgesL ss) := foldE_is ss (addE_is _ ⟨by simp, by simp⟩)
theorem edgesL_min (ss : List (List Rg)) : -MX ∈ edgesL ss := foldE_sub ss (by simp [mem_addE, isNum, MX])
theorem edgesL_head (ss : List (List Rg)) : ∃ t, edgesL ss = -MX :: t := by
  have h := edgesL_is ss
  have hm := edgesL_min ss
  cases he : edgesL ss with
  | nil => rw [he] at hm; simp at hm
  | cons x t =>
    rw [he] at h hm
    rcases List.mem_cons.1 hm with hx | hx
    · exact ⟨t, by rw [hx]⟩
    · have h1 := (List.pairwise_cons.1 h.1).1 _ hx
      have h2 := h.2 x (by simp)
      omega

/-- What turns at edges alone. -/
def Turns (p : Int → Bool) (E : List Int) : Prop := ∀ a k, -MX ≤ a → a ≤ k → k ≤ MX → (∀ e ∈ E, ¬ (a < e ∧ e ≤ k)) → p k = p a

theorem Turns.inSet {ss : List (List Rg)} {s : List Rg} (h : s ∈ ss) : Turns (fun n => hasL s n) (edgesL ss) := by
  intro a k h1 h2 h3 hE
  rw [Bool.eq_iff_iff]
  simp only [hasL, List.any_eq_true, inR_iff]
  constructor
  · rintro ⟨r, hr, hn⟩
    refine ⟨r, hr, ?_, by omega⟩
    rcases Int.lt_or_le a r.1 with hlt | hle
    · exact absurd ⟨hlt, hn.1⟩ (hE r.1 ((foldE_mem ss h hr).1 (by simp [isNum]; omega)))
    · exact hle
  · rintro ⟨r, hr, hn⟩
    refine ⟨r, hr, by omega, ?_⟩
    rcases Int.lt_or_le r.2 k with hlt | hle
    · exact absurd ⟨by omega, by omega⟩ (hE (r.2 + 1) ((foldE_mem ss h hr).2 (by omega) (by simp [isNum]; omega)))
    · exact hle
theorem Turns.comb {E : List Int} {p q : Int → Bool} (f : Bool → Bool → Bool) (hp : Turns p E) (hq : Turns q E) : Turns (fun n => f (p n) (q n)) E :=
  fun a k h1 h2 h3 hE => by dsimp only; rw [hp a k h1 h2 h3 hE, hq a k h1 h2 h3 hE]
theorem Turns.const (E : List Int) (b : Bool) : Turns (fun _ => b) E := fun _ _ _ _ _ _ => rfl

theorem Turns.resp {p : Int → Bool} : ∀ (t : List Int) {E : List Int} (pre : List Int), E = pre ++ t → IsE E → Turns p E → Resp p t
  | [], _, _, _, _, _ => trivial
  | n :: t, E, pre, he, hE, ht => by
    refine ⟨fun k h1 h2 => ?_, Turns.resp t (pre ++ [n]) (by simp [he]) hE ht⟩
    have hn := hE.2 n (by simp [he])
    have hp := hE.1
    rw [he] at hp
    obtain ⟨_, hp2, hp3⟩ := List.pairwise_append.1 hp
    have hp4 := (List.pairwise_cons.1 hp2)
    refine ht n k hn.1 h1 ?_ ?_
    · cases t with
      | nil => exact h2
      | cons m t =>
        have := hE.2 m (by simp [he])
        simp only [endOf] at h2; omega
    · intro e hme ⟨h3, h4⟩
      rw [he] at hme
      rcases List.mem_append.1 hme with hme | hme
      · have := hp3 e hme n (by simp); omega
      · rcases List.mem_cons.1 hme with rfl | hme
        · omega
        · cases t with
          | nil => simp at hme
          | cons m t =>
            simp only [endOf] at h2
            rcases List.mem_cons.1 hme with rfl | hme
            · omega
            · have := (List.pairwise_cons.1 hp4.2).1 e hme; omega

/-- The reference's 'made' over its 'edges': the set of the numbers of which p holds. -/
theorem made_good {p : Int → Bool} {ss : List (List Rg)} (h : Turns p (edgesL ss)) :
    GoodS (madeL p (edgesL ss) []) ∧ ∀ k, hasL (madeL p (edgesL ss) []) k = (isNum k && p k) := by
  obtain ⟨t, ht⟩ := edgesL_head ss
  have hE := edgesL_is ss
  obtain ⟨g, hh⟩ := madeL_good p (edgesL ss) [] (-MX) trivial (by simp) hE.1 hE.2 (h.resp _ [] rfl hE) (fun n hn => by rw [ht] at hn; simpa using hn)
  exact ⟨g, fun k => by rw [hh, ht]; simp [hasL_nil, isNum]⟩

theorem made_norm (l : List Rg) : madeL (fun n => hasL l n) (edgesL [l]) [] = normS l := by
  obtain ⟨g, h⟩ := made_good (Turns.inSet (ss := [l]) (s := l) (by simp))
  exact normS_of g h


theorem insE_at (n : Int) : ∀ (l : List Int) (k : Nat), (∀ x ∈ l.take k, x < n) → (∀ x ∈ l.drop k, n < x) → insE n l = l.take k ++ n :: l.drop k
  | [], k, _, _ => by simp [insE]
  | y :: t, 0, _, h => by
    have := h y (by simp)
    simp [insE, this]
  | y :: t, k + 1, h, h' => by
    have h1 := h y (by simp)
    have h2 := insE_at n t k (fun x hx => h x (by simp [hx])) (fun x hx => h' x (by simpa using hx))
    simp only [insE, List.take_succ_cons, List.drop_succ_cons, List.cons_append]
    rw [if_neg (by omega), if_neg (by omega), h2]
theorem insE_mem (n : Int) : ∀ (l : List Int), l.Pairwise (· < ·) → n ∈ l → insE n l = l
  | [], _, h => by simp at h
  | y :: t, hp, h => by
    obtain ⟨h1, h2⟩ := List.pairwise_cons.1 hp
    unfold insE
    rcases List.mem_cons.1 h with rfl | h
    · rw [if_neg (by omega), if_pos rfl]
    · have := h1 n h
      rw [if_neg (by omega), if_neg (by omega), insE_mem n t h2 h]
theorem sorted_take {l : List Int} {k : Nat} {y n : Int} (hp : l.Pairwise (· < ·)) (hk : l[k]? = some y) (h : y < n) : ∀ x ∈ l.take (k + 1), x < n := by
  intro x hx
  obtain ⟨i, hi, rfl⟩ := List.mem_take_iff_getElem.1 hx
  obtain ⟨hk', rfl⟩ := List.getElem?_eq_some_iff.1 hk
  rcases Nat.lt_or_ge i k with hlt | hge
  · have := List.pairwise_iff_getElem.1 hp i k (by omega) hk' hlt
    omega
  · have : i = k := by omega
    subst this
    exact h
theorem addE_len (n : Int) (l : List Int) : (addE n l).length ≤ l.length + 1 := by
  have h : ∀ l : List Int, (insE n l).length ≤ l.length + 1 := by
    intro l
    induction l with
    | nil => simp [insE]
    | cons y t ih => unfold insE; split <;> (try split) <;> simp <;> omega
  unfold addE
  split
  · exact h l
  · omega
/-- Rising numbers from -MX to MX are few. -/
theorem IsE_len {l : List Int} (h : IsE l) : l.length ≤ 2000001 := by
  have key : ∀ (l : List Int) (a : Int), l.Pairwise (· < ·) → (∀ n ∈ l, a ≤ n ∧ n ≤ MX) → (l.length : Int) ≤ max 0 (MX - a + 1) := by
    intro l
    induction l with
    | nil => intro a _ _; simp; omega
    | cons y t ih =>
      intro a hp hb
      obtain ⟨h1, h2⟩ := List.pairwise_cons.1 hp
      have h3 := hb y (by simp)
      have h4 := ih (y + 1) h2 (fun n hn => ⟨by have := h1 n hn; omega, (hb n (by simp [hn])).2⟩)
      simp only [List.length_cons]
      omega
  have := key l (-MX) h.1 h.2
  unfold MX at this
  omega

end Go.Proofs.YtlopccnehgolnabGreatDoor.Rb

namespace Go.Proofs.YtlopccnehgolnabGreatDoor.Rb

/-- What is in two sets; what is in the one and not in the other: the one good list that has these numbers. -/
def bothS (a b : List Rg) : List Rg := madeL (fun n => hasL a n && hasL b n) (edgesL [a, b]) []
def lessS (a b : List Rg) : List Rg := madeL (fun n => hasL a n && !hasL b n) (edgesL [a, b]) []

theorem bothS_good (a b : List Rg) : GoodS (bothS a b) ∧ ∀ n, hasL (bothS a b) n = (isNum n && (hasL a n && hasL b n)) :=
  made_good (Turns.comb (fun x y => x && y) (Turns.inSet (ss := [a, b]) (s := a) (by simp)) (Turns.inSet (ss := [a, b]) (s := b) (by simp)))
theorem lessS_good (a b : List Rg) : GoodS (lessS a b) ∧ ∀ n, hasL (lessS a b) n = (isNum n && (hasL a n && !hasL b n)) :=
  made_good (Turns.comb (fun x y => x && !y) (Turns.inSet (ss := [a, b]) (s := a) (by simp)) (Turns.inSet (ss := [a, b]) (s := b) (by simp)))

theorem normS_both {a b out : List Rg} (h : ∀ n, hasL out n = (hasL a n && hasL b n)) : normS out = bothS a b :=
  (normS_of (bothS_good a b).1 fun n => by rw [(bothS_good a b).2, h]).symm
theorem normS_less {a b out : List Rg} (h : ∀ n, hasL out n = (hasL a n && !hasL b n)) : normS out = lessS a b :=
  (normS_of (lessS_good a b).1 fun n => by rw [(lessS_good a b).2, h]).symm

theorem GoodS.isNum {a : List Rg} (h : GoodS a) (n : Int) : (isNum n && hasL a n) = hasL a n := by
  by_cases hn : hasL a n = true
  · have := GoodFrom.num h n hn
    unfold Rb.isNum
    simp [this, hn]
  · simp [hn]
theorem bothS_has {a b : List Rg} (ha : GoodS a) (n : Int) : hasL (bothS a b) n = (hasL a n && hasL b n) := by
  rw [(bothS_good a b).2, ← Bool.and_assoc, ha.isNum]
theorem lessS_has {a b : List Rg} (ha : GoodS a) (n : Int) : hasL (lessS a b) n = (hasL a n && !hasL b n) := by
  rw [(lessS_good a b).2, ← Bool.and_assoc, ha.isNum]
theorem bothS_comm (a b : List Rg) : bothS a b = bothS b a :=
  good_unique (bothS_good a b).1 (bothS_good b a).1 fun n => by rw [(bothS_good a b).2, (bothS_good b a).2, Bool.and_comm (hasL a n)]

theorem GoodFrom.tail {r : Rg} {l : List Rg} {a : Int} (h : GoodFrom a (r :: l)) : GoodFrom r.2 l := h.2.2.2.2
theorem GoodFrom.drop : ∀ {l : List Rg} {a : Int} (k : Nat), GoodFrom a l → ∃ u, GoodFrom u (l.drop k)
  | _, a, 0, h => ⟨a, h⟩
  | [], a, _ + 1, _ => ⟨a, trivial⟩
  | _ :: _, _, k + 1, h => GoodFrom.drop k h.tail

theorem GoodS_length {l : List Rg} (h : GoodS l) : l.length ≤ 2000002 := by
  have key : ∀ {l : List Rg} {a : Int}, GoodFrom a l → a ≤ MX → (l.length : Int) ≤ MX - a := by
    intro l
    induction l with
    | nil => intro a _ _; simp; omega
    | cons r t ih =>
      intro a h ha
      obtain ⟨h1, h2, h3, h4, h5⟩ := h
      have := ih h5 h2
      simp only [List.length_cons]
      omega
  have := key h (by unfold MX; omega)
  unfold MX at this
  omega

/-- A range that is put behind others, if there is something in it. -/
def putR (out : List Rg) (m : Rg) : List Rg := if m.1 ≤ m.2 then out ++ [m] else out
theorem hasL_putR (out : List Rg) (m : Rg) (n : Int) : hasL (putR out m) n = (hasL out n || inR m n) := by
  unfold putR
  split
  · rw [hasL_append]; simp [hasL]
  · have : inR m n = false := by
      rw [Bool.eq_false_iff]; intro h; have := (inR_iff m n).1 h; omega
    simp [this]
theorem putR_len (out : List Rg) (m : Rg) : (putR out m).length ≤ out.length + 1 := by
  unfold putR; split <;> simp

def InvB (a b as bs out : List Rg) : Prop := ∀ n, (hasL a n && hasL b n) = (hasL out n || (hasL as n && hasL bs n))

theorem InvB.stepA {a b as bs out : List Rg} {x y m : Rg} {v : Int} (h : InvB a b (x :: as) (y :: bs) out) (gb : GoodFrom v (y :: bs)) (hm : m.1 = max x.1 y.1 ∧ m.2 = min x.2 y.2) (hlt : x.2 < y.2) :
    InvB a b as (y :: bs) (putR out m) := by
  intro n
  rw [h n, hasL_putR]
  simp only [hasL_cons]
  have h1 := gb.tail.above n
  rw [Bool.eq_iff_iff]
  simp only [Bool.or_eq_true, Bool.and_eq_true, inR_iff]
  constructor
  · rintro (h | ⟨h | h, h' | h'⟩)
    · exact .inl (.inl h)
    · exact .inl (.inr (by omega))
    · exact absurd (h1 h') (by omega)
    · exact .inr ⟨h, .inl h'⟩
    · exact .inr ⟨h, .inr h'⟩
  · rintro ((h | h) | h)
    · exact .inl h
    · exact .inr ⟨.inl (by omega), .inl (by omega)⟩
    · exact .inr ⟨.inr h.1, h.2⟩

theorem InvB.stepB {a b as bs out : List Rg} {x y m : Rg} {u : Int} (h : InvB a b (x :: as) (y :: bs) out) (ga : GoodFrom u (x :: as)) (hm : m.1 = max x.1 y.1 ∧ m.2 = min x.2 y.2) (hlt : ¬ x.2 < y.2) :
    InvB a b (x :: as) bs (putR out m) := by
  intro n
  rw [h n, hasL_putR]
  simp only [hasL_cons]
  have h1 := ga.tail.above n
  rw [Bool.eq_iff_iff]
  simp only [Bool.or_eq_true, Bool.and_eq_true, inR_iff]
  constructor
  · rintro (h | ⟨h | h, h' | h'⟩)
    · exact .inl (.inl h)
    · exact .inl (.inr (by omega))
    · exact .inr ⟨.inl h, h'⟩
    · exact absurd (h1 h) (by omega)
    · exact .inr ⟨.inr h, h'⟩
  · rintro ((h | h) | h)
    · exact .inl h
    · exact .inr ⟨.inl (by omega), .inl (by omega)⟩
    · exact .inr ⟨h.1, .inr h.2⟩

theorem InvB.endA {a b bs out : List Rg} (h : InvB a b [] bs out) : normS out = bothS a b := normS_both fun n => by rw [h n]; simp [hasL]
theorem InvB.endB {a b as out : List Rg} (h : InvB a b as [] out) : normS out = bothS a b := normS_both fun n => by rw [h n]; simp [hasL]

def InvL (out0 b : List Rg) (r0 : Rg) (bs out : List Rg) (lo : Int) : Prop :=
  ∀ n, (hasL out0 n || (inR r0 n && !hasL b n)) = (hasL out n || (inR (lo, r0.2) n && !hasL bs n))

theorem InvL.skip {out0 b bs out : List Rg} {r0 s : Rg} {lo : Int} (h : InvL out0 b r0 (s :: bs) out lo) (hs : s.2 < lo ∨ r0.2 < s.1) : InvL out0 b r0 bs out lo := by
  intro n
  rw [h n, hasL_cons]
  have : inR (lo, r0.2) n = true → inR s n = false := fun h => by
    rw [Bool.eq_false_iff]; intro h'
    have h1 := (inR_iff _ n).1 h
    have h2 := (inR_iff _ n).1 h'
    dsimp only at h1
    omega
  cases h1 : inR (lo, r0.2) n
  · simp
  · simp [this h1]

theorem InvL.cut {out0 b bs out : List Rg} {r0 s : Rg} {lo : Int} {v : Int} (h : InvL out0 b r0 (s :: bs) out lo) (gb : GoodFrom v (s :: bs)) (hs1 : lo ≤ s.2) (hs2 : s.1 ≤ r0.2) :
    InvL out0 b r0 bs (putR out (lo, s.1 - 1)) (s.2 + 1) := by
  intro n
  rw [h n, hasL_cons, hasL_putR]
  have h1 := gb.tail.above n
  have h3 := gb.2.2.1
  have h4 : s.1 ≤ s.2 := by
    have := GoodFrom.his gb s (by simp)
    omega
  rw [Bool.eq_iff_iff]
  simp only [Bool.or_eq_true, Bool.and_eq_true, inR_iff, Bool.not_eq_true', Bool.or_eq_false_iff]
  have hs : inR s n = false ↔ ¬ (s.1 ≤ n ∧ n ≤ s.2) := by rw [← inR_iff, Bool.not_eq_true]
  rw [hs]
  constructor
  · rintro (h | ⟨h, h', h2⟩)
    · exact .inl (.inl h)
    · by_cases hn : n < s.1
      · exact .inl (.inr (by omega))
      · exact .inr ⟨by omega, h2⟩
  · rintro ((h | h) | ⟨h, h2⟩)
    · exact .inl h
    · refine .inr ⟨by omega, by omega, ?_⟩
      rw [Bool.eq_false_iff]; intro hb
      have := h1 hb; omega
    · exact .inr ⟨by omega, by omega, h2⟩

theorem InvL.fin {out0 b bs out : List Rg} {r0 : Rg} {lo : Int} (h : InvL out0 b r0 bs out lo) (hs : bs = [] ∨ r0.2 < lo) (n : Int) :
    hasL (putR out (lo, r0.2)) n = (hasL out0 n || (inR r0 n && !hasL b n)) := by
  rw [h n, hasL_putR]
  rcases hs with rfl | hs
  · simp [hasL]
  · have : inR (lo, r0.2) n = false := by
      rw [Bool.eq_false_iff]; intro h; have := (inR_iff _ n).1 h; dsimp only at this; omega
    simp [this]

def InvO (b as out : List Rg) : Prop := ∀ n, hasL out n = (hasL as n && !hasL b n)
theorem InvO.start (b : List Rg) : InvO b [] [] := fun n => by simp [hasL]
theorem InvO.begin {b as out : List Rg} (_h : InvO b as out) (r : Rg) : InvL out b r b out r.1 := fun _ => rfl
theorem InvO.step {b as out out' : List Rg} {r : Rg} (h : InvO b as out) (h' : ∀ n, hasL out' n = (hasL out n || (inR r n && !hasL b n))) : InvO b (as ++ [r]) out' := by
  intro n
  rw [h', h n, hasL_append]
  cases hasL as n <;> cases hb : hasL b n <;> simp [hasL]

/-- How many of m numbers from b on there are of which p holds. -/
def cnt (p : Int → Bool) (b : Int) : Nat → Nat
  | 0 => 0
  | m + 1 => cnt p b m + (if p (b + m) then 1 else 0)
theorem cnt_congr {p q : Int → Bool} (b : Int) (h : ∀ n, p n = q n) : ∀ m, cnt p b m = cnt q b m
  | 0 => rfl
  | m + 1 => by simp only [cnt, cnt_congr b h m, h]
theorem cnt_or {p q : Int → Bool} (b : Int) (h : ∀ n, p n = true → q n = false) : ∀ m, cnt (fun n => p n || q n) b m = cnt p b m + cnt q b m
  | 0 => rfl
  | m + 1 => by
    simp only [cnt, cnt_or b h m]
    have hn := h (b + m)
    by_cases hp : p (b + m) = true
    · simp [hp, hn hp]; omega
    · by_cases hq : q (b + m) = true
      · simp [hp, hq]; omega
      · simp [hp, hq]
theorem cnt_none (b : Int) : ∀ m, cnt (fun _ => false) b m = 0
  | 0 => rfl
  | m + 1 => by simp [cnt, cnt_none b m]
theorem cnt_rg (r : Rg) (b : Int) (h : r.1 ≤ r.2) (hb : b ≤ r.1) : ∀ m : Nat, (cnt (inR r) b m : Int) = if b + m ≤ r.1 then 0 else if b + m ≤ r.2 then b + m - r.1 else r.2 - r.1 + 1
  | 0 => by simp only [cnt]; rw [if_pos (by omega)]; rfl
  | m + 1 => by
    have ih := cnt_rg r b h hb m
    simp only [cnt]
    have : inR r (b + m) = true ↔ r.1 ≤ b + m ∧ b + m ≤ r.2 := inR_iff _ _
    by_cases hin : inR r (b + m) = true
    · have h2 := this.1 hin
      rw [if_pos hin]
      push_cast
      rw [ih]
      split <;> split <;> (try split) <;> omega
    · rw [if_neg hin]
      have h2 : ¬ (r.1 ≤ b + m ∧ b + m ≤ r.2) := fun h => hin (this.2 h)
      push_cast
      rw [ih]
      split <;> split <;> (try split) <;> (try split) <;> omega

end Go.Proofs.YtlopccnehgolnabGreatDoor.Rb
