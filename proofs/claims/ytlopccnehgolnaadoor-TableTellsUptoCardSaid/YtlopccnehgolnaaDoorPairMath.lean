
/- Sets of numbers as lists of ranges: what is in both of two, and in the one alone. Plain, no program. -/
import Derived.Test.YtlopccnehgolnaaDoorRefMath
namespace Go.Proofs.YtlopccnehgolnaaDoor.Rb

/-- What is in two sets; what is in the one and not in the other: the one good list that has these numbers. -/
def bothS (a b : List Rg) : List Rg := madeL (fun n => hasL a n && hasL b n) (edgesL [a, b]) []
def lessS (a b : List Rg) : List Rg := madeL (fun n => hasL a n && !hasL b n) (edgesL [a, b]) []

theorem bothS_good (a b : List Rg) : GoodS (bothS a b) ∧ ∀ n, hasL (bothS a b) n = (isNum n && (hasL a n && hasL b n)) :=
  made_good (Turns.comb (fun x y => x && y) (Turns.inSet (ss := [a, b]) (s := a) (by simp)) (Turns.inSet (ss := [a, b]) (s := b) (by simp)))
theorem lessS_good (a b : List Rg) : GoodS (lessS a b) ∧ ∀ n, hasL (lessS a b) n = (isNum n && (hasL a n && !hasL b n)) :=
  made_good (Turns.comb (fun x y => x && !y) (Turns.inSet (ss := [a, b]) (s := a) (by simp)) (Turns.inSet (ss := [a, b]) (s := b) (by simp)))

theorem normS_both {a b out : List Rg} (h : ∀ n, hasL out n = (hasL a n && hasL b n)) : normS out = bothS a b :=
  (normS_of (bothS_good a b).1 fun n => by rw [(bothS_good a b).2, h]).symm
theorem normS_less {a b out : List Rg} (h : ∀ n, hasL out n = (hasL a n && !hasL b n)) : normS out = lessS a b :=
  (normS_of (lessS_good a b).1 fun n => by rw [(lessS_good a b).2, h]).symm

theorem GoodS.isNum {a : List Rg} (h : GoodS a) (n : Int) : (isNum n && hasL a n) = hasL a n := by
  by_cases hn : hasL a n = true
  · have := GoodFrom.num h n hn
    unfold Rb.isNum
    simp [this, hn]
  · simp [hn]
theorem bothS_has {a b : List Rg} (ha : GoodS a) (n : Int) : hasL (bothS a b) n = (hasL a n && hasL b n) := by
  rw [(bothS_good a b).2, ← Bool.and_assoc, ha.isNum]
theorem lessS_has {a b : List Rg} (ha : GoodS a) (n : Int) : hasL (lessS a b) n = (hasL a n && !hasL b n) := by
  rw [(lessS_good a b).2, ← Bool.and_assoc, ha.isNum]
theorem bothS_comm (a b : List Rg) : bothS a b = bothS b a :=
  good_unique (bothS_good a b).1 (bothS_good b a).1 fun n => by rw [(bothS_good a b).2, (bothS_good b a).2, Bool.and_comm (hasL a n)]

theorem GoodFrom.tail {r : Rg} {l : List Rg} {a : Int} (h : GoodFrom a (r :: l)) : GoodFrom r.2 l := h.2.2.2.2
theorem GoodFrom.drop : ∀ {l : List Rg} {a : Int} (k : Nat), GoodFrom a l → ∃ u, GoodFrom u (l.drop k)
  | _, a, 0, h => ⟨a, h⟩
  | [], a, _ + 1, _ => ⟨a, trivial⟩
  | _ :: _, _, k + 1, h => GoodFrom.drop k h.tail

theorem GoodS_length {l : List Rg} (h : GoodS l) : l.length ≤ 2000002 := by
  have key : ∀ {l : List Rg} {a : Int}, GoodFrom a l → a ≤ MX → (l.length : Int) ≤ MX - a := by
    intro l
    induction l with
    | nil => intro a _ _; simp; omega
    | cons r t ih =>
      intro a h ha
      obtain ⟨h1, h2, h3, h4, h5⟩ := h
      have := ih h5 h2
      simp only [List.length_cons]
      omega
  have := key h (by unfold MX; omega)
  unfold MX at this
  omega

/-- A range that is put behind others, if there is something in it. -/
def putR (out : List Rg) (m : Rg) : List Rg := if m.1 ≤ m.2 then out ++ [m] else out
theorem hasL_putR (out : List Rg) (m : Rg) (n : Int) : hasL (putR out m) n = (hasL out n || inR m n) := by
  unfold putR
  split
  · rw [hasL_append]; simp [hasL]
  · have : inR m n = false := by
      rw [Bool.eq_false_iff]; intro h; have := (inR_iff m n).1 h; omega
    simp [this]
theorem putR_len (out : List Rg) (m : Rg) : (putR out m).length ≤ out.length + 1 := by
  unfold putR; split <;> simp

def InvB (a b as bs out : List Rg) : Prop := ∀ n, (hasL a n && hasL b n) = (hasL out n || (hasL as n && hasL bs n))

theorem InvB.stepA {a b as bs out : List Rg} {x y m : Rg} {v : Int} (h : InvB a b (x :: as) (y :: bs) out) (gb : GoodFrom v (y :: bs)) (hm : m.1 = max x.1 y.1 ∧ m.2 = min x.2 y.2) (hlt : x.2 < y.2) :
    InvB a b as (y :: bs) (putR out m) := by
  intro n
  rw [h n, hasL_putR]
  simp only [hasL_cons]
  have h1 := gb.tail.above n
  rw [Bool.eq_iff_iff]
  simp only [Bool.or_eq_true, Bool.and_eq_true, inR_iff]
  constructor
  · rintro (h | ⟨h | h, h' | h'⟩)
    · exact .inl (.inl h)
    · exact .inl (.inr (by omega))
    · exact absurd (h1 h') (by omega)
    · exact .inr ⟨h, .inl h'⟩
    · exact .inr ⟨h, .inr h'⟩
  · rintro ((h | h) | h)
    · exact .inl h
    · exact .inr ⟨.inl (by omega), .inl (by omega)⟩
    · exact .inr ⟨.inr h.1, h.2⟩

theorem InvB.stepB {a b as bs out : List Rg} {x y m : Rg} {u : Int} (h : InvB a b (x :: as) (y :: bs) out) (ga : GoodFrom u (x :: as)) (hm : m.1 = max x.1 y.1 ∧ m.2 = min x.2 y.2) (hlt : ¬ x.2 < y.2) :
    InvB a b (x :: as) bs (putR out m) := by
  intro n
  rw [h n, hasL_putR]
  simp only [hasL_cons]
  have h1 := ga.tail.above n
  rw [Bool.eq_iff_iff]
  simp only [Bool.or_eq_true, Bool.and_eq_true, inR_iff]
  constructor
  · rintro (h | ⟨h | h, h' | h'⟩)
    · exact .inl (.inl h)
    · exact .inl (.inr (by omega))
    · exact .inr ⟨.inl h, h'⟩
    · exact absurd (h1 h) (by omega)
    · exact .inr ⟨.inr h, h'⟩
  · rintro ((h | h) | h)
    · exact .inl h
    · exact .inr ⟨.inl (by omega), .inl (by omega)⟩
    · exact .inr ⟨h.1, .inr h.2⟩

theorem InvB.endA {a b bs out : List Rg} (h : InvB a b [] bs out) : normS out = bothS a b := normS_both fun n => by rw [h n]; simp [hasL]
theorem InvB.endB {a b as out : List Rg} (h : InvB a b as [] out) : normS out = bothS a b := normS_both fun n => by rw [h n]; simp [hasL]

def InvL (out0 b : List Rg) (r0 : Rg) (bs out : List Rg) (lo : Int) : Prop :=
  ∀ n, (hasL out0 n || (inR r0 n && !hasL b n)) = (hasL out n || (inR (lo, r0.2) n && !hasL bs n))

theorem InvL.skip {out0 b bs out : List Rg} {r0 s : Rg} {lo : Int} (h : InvL out0 b r0 (s :: bs) out lo) (hs : s.2 < lo ∨ r0.2 < s.1) : InvL out0 b r0 bs out lo := by
  intro n
  rw [h n, hasL_cons]
  have : inR (lo, r0.2) n = true → inR s n = false := fun h => by
    rw [Bool.eq_false_iff]; intro h'
    have h1 := (inR_iff _ n).1 h
    have h2 := (inR_iff _ n).1 h'
    dsimp only at h1
    omega
  cases h1 : inR (lo, r0.2) n
  · simp
  · simp [this h1]

theorem InvL.cut {out0 b bs out : List Rg} {r0 s : Rg} {lo : Int} {v : Int} (h : InvL out0 b r0 (s :: bs) out lo) (gb : GoodFrom v (s :: bs)) (hs1 : lo ≤ s.2) (hs2 : s.1 ≤ r0.2) :
    InvL out0 b r0 bs (putR out (lo, s.1 - 1)) (s.2 + 1) := by
  intro n
  rw [h n, hasL_cons, hasL_putR]
  have h1 := gb.tail.above n
  have h3 := gb.2.2.1
  have h4 : s.1 ≤ s.2 := by
    have := GoodFrom.his gb s (by simp)
    omega
  rw [Bool.eq_iff_iff]
  simp only [Bool.or_eq_true, Bool.and_eq_true, inR_iff, Bool.not_eq_true', Bool.or_eq_false_iff]
  have hs : inR s n = false ↔ ¬ (s.1 ≤ n ∧ n ≤ s.2) := by rw [← inR_iff, Bool.not_eq_true]
  rw [hs]
  constructor
  · rintro (h | ⟨h, h', h2⟩)
    · exact .inl (.inl h)
    · by_cases hn : n < s.1
      · exact .inl (.inr (by omega))
      · exact .inr ⟨by omega, h2⟩
  · rintro ((h | h) | ⟨h, h2⟩)
    · exact .inl h
    · refine .inr ⟨by omega, by omega, ?_⟩
      rw [Bool.eq_false_iff]; intro hb
      have := h1 hb; omega
    · exact .inr ⟨by omega, by omega, h2⟩

theorem InvL.fin {out0 b bs out : List Rg} {r0 : Rg} {lo : Int} (h : InvL out0 b r0 bs out lo) (hs : bs = [] ∨ r0.2 < lo) (n : Int) :
    hasL (putR out (lo, r0.2)) n = (hasL out0 n || (inR r0 n && !hasL b n)) := by
  rw [h n, hasL_putR]
  rcases hs with rfl | hs
  · simp [hasL]
  · have : inR (lo, r0.2) n = false := by
      rw [Bool.eq_false_iff]; intro h; have := (inR_iff _ n).1 h; dsimp only at this; omega
    simp [this]

def InvO (b as out : List Rg) : Prop := ∀ n, hasL out n = (hasL as n && !hasL b n)
theorem InvO.start (b : List Rg) : InvO b [] [] := fun n => by simp [hasL]
theorem InvO.begin {b as out : List Rg} (_h : InvO b as out) (r : Rg) : InvL out b r b out r.1 := fun _ => rfl
theorem InvO.step {b as out out' : List Rg} {r : Rg} (h : InvO b as out) (h' : ∀ n, hasL out' n = (hasL out n || (inR r n && !hasL b n))) : InvO b (as ++ [r]) out' := by
  intro n
  rw [h', h n, hasL_append]
  cases hasL as n <;> cases hb : hasL b n <;> simp [hasL]

/-- How many of m numbers from b on there are of which p holds. -/
def cnt (p : Int → Bool) (b : Int) : Nat → Nat
  | 0 => 0
  | m + 1 => cnt p b m + (if p (b + m) then 1 else 0)
theorem cnt_congr {p q : Int → Bool} (b : Int) (h : ∀ n, p n = q n) : ∀ m, cnt p b m = cnt q b m
  | 0 => rfl
  | m + 1 => by simp only [cnt, cnt_congr b h m, h]
theorem cnt_or {p q : Int → Bool} (b : Int) (h : ∀ n, p n = true → q n = false) : ∀ m, cnt (fun n => p n || q n) b m = cnt p b m + cnt q b m
  | 0 => rfl
  | m + 1 => by
    simp only [cnt, cnt_or b h m]
    have hn := h (b + m)
    by_cases hp : p (b + m) = true
    · simp [hp, hn hp]; omega
    · by_cases hq : q (b + m) = true
      · simp [hp, hq]; omega
      · simp [hp, hq]
theorem cnt_none (b : Int) : ∀ m, cnt (fun _ => false) b m = 0
  | 0 => rfl
  | m + 1 => by simp [cnt, cnt_none b m]
theorem cnt_rg (r : Rg) (b : Int) (h : r.1 ≤ r.2) (hb : b ≤ r.1) : ∀ m : Nat, (cnt (inR r) b m : Int) = if b + m ≤ r.1 then 0 else if b + m ≤ r.2 then b + m - r.1 else r.2 - r.1 + 1
  | 0 => by simp only [cnt]; rw [if_pos (by omega)]; rfl
  | m + 1 => by
    have ih := cnt_rg r b h hb m
    simp only [cnt]
    have : inR r (b + m) = true ↔ r.1 ≤ b + m ∧ b + m ≤ r.2 := inR_iff _ _
    by_cases hin : inR r (b + m) = true
    · have h2 := this.1 hin
      rw [if_pos hin]
      push_cast
      rw [ih]
      split <;> split <;> (try split) <;> omega
    · rw [if_neg hin]
      have h2 : ¬ (r.1 ≤ b + m ∧ b + m ≤ r.2) := fun h => hin (this.2 h)
      push_cast
      rw [ih]
      split <;> split <;> (try split) <;> (try split) <;> omega

end Go.Proofs.YtlopccnehgolnaaDoor.Rb
