
/- Plain laws of boxes: what Less and Rest leave, counted and measured. -/
import Derived.Test.YtlopccnehgolnabDoorBoxL
namespace Go.Proofs.YtlopccnehgolnabDoor
open Go.RowKit Rb

theorem sizeN_cntM : ∀ {l : List Rg} {a : Int}, GoodFrom a l → -1000002 ≤ a → sizeN l = (cnt (hasL l) (-1000000) 2000001 : Nat)
  | [], _, _, _ => by
    have : cnt (hasL []) (-1000000) 2000001 = 0 := (cnt_congr _ (fun n => hasL_nil n) _).trans (cnt_none _ _)
    rw [this]; rfl
  | r :: l, a, h, ha => by
    have hg : a + 1 < r.1 ∧ r.1 ≤ r.2 ∧ -MX ≤ r.1 ∧ r.2 ≤ MX := GoodFrom.his h r (by simp)
    unfold MX at hg
    have ih := sizeN_cntM h.tail (by omega)
    have h1 : cnt (hasL (r :: l)) (-1000000) 2000001 = cnt (inR r) (-1000000) 2000001 + cnt (hasL l) (-1000000) 2000001 := by
      rw [← cnt_or _ fun n hn => by
        have h1 := (inR_iff r n).1 hn
        rw [Bool.eq_false_iff]; intro h2
        have := h.tail.above n h2
        omega]
      exact cnt_congr _ (fun n => hasL_cons r l n) _
    have h2 := cnt_rg r (-1000000) hg.2.1 hg.2.2.1 2000001
    rw [if_neg (by omega)] at h2
    rw [sizeN_cons, ih, h1]
    push_cast
    rw [h2]
    split <;> omega
theorem sizeN_splitM {a b : List Rg} (ga : GoodS a) : sizeN (bothS a b) + sizeN (lessS a b) = sizeN a := by
  rw [sizeN_cntM (bothS_good a b).1 (by unfold MX; omega), sizeN_cntM (lessS_good a b).1 (by unfold MX; omega), sizeN_cntM ga (by unfold MX; omega)]
  have : cnt (hasL a) (-1000000) 2000001 = cnt (hasL (bothS a b)) (-1000000) 2000001 + cnt (hasL (lessS a b)) (-1000000) 2000001 := by
    rw [← cnt_or _ fun n hn => by
      rw [bothS_has ga] at hn; rw [lessS_has ga]
      cases h1 : hasL a n <;> cases h2 : hasL b n <;> simp_all]
    exact cnt_congr _ (fun n => by rw [bothS_has ga, lessS_has ga]; cases hasL a n <;> cases hasL b n <;> rfl) _
  rw [this]; push_cast; rfl

theorem inBx_append : ∀ {p : Bx} {ms : List Int} {q : Bx} {ns : List Int}, p.length = ms.length → inBx (p ++ q) (ms ++ ns) = (inBx p ms && inBx q ns)
  | [], [], _, _, _ => by simp [inBx]
  | s :: p, m :: ms, q, ns, h => by
    simp only [List.cons_append, inBx]
    rw [inBx_append (by simpa using h), Bool.and_assoc]
  | [], _ :: _, _, _, h => by simp at h
  | _ :: _, [], _, _, h => by simp at h

/-- In how many boxes an input is; how many inputs they have. -/
def cntIn (l : List Bx) (ns : List Int) : Nat := (l.filter (inBx · ns)).length
def sumSz (l : List Bx) : Int := l.foldr (fun b n => sizeBx b + n) 0
def sumP (l : List Bx) : Int := l.foldr (fun b n => prodS b + n) 0
theorem cntIn_nil (ns : List Int) : cntIn [] ns = 0 := rfl
theorem cntIn_cons (b : Bx) (l : List Bx) (ns : List Int) : cntIn (b :: l) ns = (if inBx b ns then 1 else 0) + cntIn l ns := by
  unfold cntIn
  rw [List.filter_cons]
  split <;> simp; omega
theorem cntIn_append (l m : List Bx) (ns : List Int) : cntIn (l ++ m) ns = cntIn l ns + cntIn m ns := by
  unfold cntIn; rw [List.filter_append, List.length_append]
theorem sumSz_append (l m : List Bx) : sumSz (l ++ m) = sumSz l + sumSz m := by
  induction l with
  | nil => simp [sumSz]
  | cons b l ih =>
    show sizeBx b + sumSz (l ++ m) = sizeBx b + sumSz l + sumSz m
    rw [ih]; omega

def Sets (b : Bx) : Prop := ∀ s ∈ b, 0 < s.length ∧ GoodS s

theorem lessGo_count : ∀ {a b pre : Bx} {ms ns : List Int}, Sets a → Sets b → a.length = b.length → a.length = ns.length → pre.length = ms.length →
    cntIn (lessGo pre a b) (ms ++ ns) = if inBx pre ms && (inBx a ns && !inBx b ns) then 1 else 0
  | [], [], pre, ms, [], _, _, _, _, _ => by simp [lessGo, cntIn_nil, inBx]
  | s :: a, t :: b, pre, ms, n :: ns, ha, hb, h1, h2, h3 => by
    have gs := (ha s (by simp)).2
    have ih := lessGo_count (a := a) (b := b) (pre := pre ++ [bothS s t]) (ms := ms ++ [n]) (ns := ns) (fun x hx => ha x (by simp [hx])) (fun x hx => hb x (by simp [hx])) (by simpa using h1) (by simpa using h2) (by simp [h3])
    have e1 : cntIn (if (lessS s t).length = 0 then [] else [pre ++ lessS s t :: a]) (ms ++ n :: ns) = if inBx pre ms && ((hasL s n && !hasL t n) && inBx a ns) then 1 else 0 := by
      rw [← lessS_has gs]
      split
      · rename_i h
        rw [List.eq_nil_of_length_eq_zero h]; simp [cntIn_nil, hasL_nil]
      · rw [cntIn_cons, cntIn_nil, inBx_append h3]; simp [inBx]
    have e2 : cntIn (if (bothS s t).length = 0 then [] else lessGo (pre ++ [bothS s t]) a b) (ms ++ n :: ns) = if inBx pre ms && ((hasL s n && hasL t n) && (inBx a ns && !inBx b ns)) then 1 else 0 := by
      split
      · rename_i h
        have : (hasL s n && hasL t n) = false := by rw [← bothS_has gs, List.eq_nil_of_length_eq_zero h]; rfl
        rw [this]; simp [cntIn_nil]
      · have e : ms ++ n :: ns = (ms ++ [n]) ++ ns := by simp
        rw [e, ih, inBx_append h3]
        simp [inBx, bothS_has gs, Bool.and_assoc]
    rw [lessGo, cntIn_append, e1, e2]
    simp only [inBx]
    rcases Bool.eq_false_or_eq_true (inBx pre ms) with q1 | q1 <;> rcases Bool.eq_false_or_eq_true (hasL s n) with q2 | q2 <;> rcases Bool.eq_false_or_eq_true (hasL t n) with q3 | q3 <;>
      rcases Bool.eq_false_or_eq_true (inBx a ns) with q4 | q4 <;> rcases Bool.eq_false_or_eq_true (inBx b ns) with q5 | q5 <;> simp [q1, q2, q3, q4, q5]
  | [], _ :: _, _, _, _, _, _, h, _, _ => by simp at h
  | _ :: _, [], _, _, _, _, _, h, _, _ => by simp at h
  | [], [], _, _, _ :: _, _, _, _, h, _ => by simp at h
  | _ :: _, _ :: _, _, _, [], _, _, _, h, _ => by simp at h

theorem prodS_append : ∀ (p q : Bx), prodS (p ++ q) = prodS p * prodS q
  | [], q => by simp [prodS]
  | s :: p, q => by simp only [List.cons_append, prodS, prodS_append p q, Int.mul_assoc]
/-- How many inputs two boxes have in common. -/
def prodBoth : Bx → Bx → Int
  | s :: a, t :: b => sizeN (bothS s t) * prodBoth a b
  | _, _ => 1
theorem sumP_append (l m : List Bx) : sumP (l ++ m) = sumP l + sumP m := by
  induction l with
  | nil => simp [sumP]
  | cons b l ih =>
    show prodS b + sumP (l ++ m) = prodS b + sumP l + sumP m
    rw [ih]; omega
theorem lessGo_size : ∀ {a b pre : Bx}, Sets a → a.length = b.length → sumP (lessGo pre a b) + prodS pre * prodBoth a b = prodS pre * prodS a
  | [], [], pre, _, _ => by simp [lessGo, sumP, prodBoth, prodS]
  | s :: a, t :: b, pre, ha, h1 => by
    have gs := (ha s (by simp)).2
    have ih := lessGo_size (a := a) (b := b) (pre := pre ++ [bothS s t]) (fun x hx => ha x (by simp [hx])) (by simpa using h1)
    have hs := sizeN_splitM (b := t) gs
    have e1 : sumP (if (lessS s t).length = 0 then [] else [pre ++ lessS s t :: a]) = prodS pre * (sizeN (lessS s t) * prodS a) := by
      split
      · rename_i h
        rw [List.eq_nil_of_length_eq_zero h]; simp [sumP, sizeN]
      · show prodS (pre ++ lessS s t :: a) + 0 = _
        rw [prodS_append, Int.add_zero]; rfl
    have e2 : sumP (if (bothS s t).length = 0 then [] else lessGo (pre ++ [bothS s t]) a b) + prodS pre * (sizeN (bothS s t) * prodBoth a b) = prodS pre * (sizeN (bothS s t) * prodS a) := by
      split
      · rename_i h
        rw [List.eq_nil_of_length_eq_zero h]; simp [sumP, sizeN]
      · rw [prodS_append] at ih
        simp only [prodS, Int.mul_one, Int.mul_assoc] at ih
        exact ih
    rw [lessGo, sumP_append, e1]
    simp only [prodS, prodBoth]
    rw [← hs, Int.add_mul, Int.mul_add]
    omega
  | [], _ :: _, _, _, h => by simp at h
  | _ :: _, [], _, _, h => by simp at h

theorem lessGo_sets : ∀ {a b pre : Bx}, Sets pre → Sets a → ∀ x ∈ lessGo pre a b, Sets x ∧ (a.length = b.length → x.length = pre.length + a.length)
  | s :: a, t :: b, pre, hp, ha, x, hx => by
    rw [lessGo, List.mem_append] at hx
    rcases hx with hx | hx
    · split at hx
      · simp at hx
      · rename_i h
        simp at hx
        subst hx
        refine ⟨fun y hy => ?_, fun _ => by simp⟩
        simp only [List.mem_append, List.mem_cons] at hy
        rcases hy with hy | rfl | hy
        · exact hp y hy
        · exact ⟨by omega, (lessS_good _ _).1⟩
        · exact ha y (by simp [hy])
    · split at hx
      · simp at hx
      · rename_i h
        have := lessGo_sets (a := a) (b := b) (pre := pre ++ [bothS s t]) (fun y hy => by
          simp only [List.mem_append, List.mem_singleton] at hy
          rcases hy with hy | rfl
          · exact hp y hy
          · exact ⟨by omega, (bothS_good _ _).1⟩) (fun y hy => ha y (by simp [hy])) x hx
        exact ⟨this.1, fun hl => by have := this.2 (by simpa using hl); simp at this ⊢; omega⟩
  | [], [], _, _, _, x, hx => by simp [lessGo] at hx
  | [], _ :: _, _, _, _, x, hx => by simp [lessGo] at hx
  | _ :: _, [], _, _, _, x, hx => by simp [lessGo] at hx

theorem zipBoth_size : ∀ (a b : Bx), (match zipBoth a b with | some x => prodS x | none => 0) = prodBoth a b ∧ ∀ x, zipBoth a b = some x → Sets x ∧ (a.length = b.length → x.length = a.length)
  | s :: a, t :: b => by
    have ih := zipBoth_size a b
    rw [zipBoth]
    by_cases h : (bothS s t).length = 0
    · rw [if_pos h]
      refine ⟨?_, fun x hx => by cases hx⟩
      simp only [prodBoth]
      rw [List.eq_nil_of_length_eq_zero h]; simp [sizeN]
    · rw [if_neg h]
      cases hz : zipBoth a b with
      | none =>
        rw [hz] at ih
        refine ⟨?_, fun x hx => by cases hx⟩
        simp only [Option.map_none, prodBoth]
        rw [← ih.1]; simp
      | some y =>
        rw [hz] at ih
        refine ⟨?_, fun x hx => ?_⟩
        · simp only [Option.map_some, prodBoth, prodS]
          rw [← ih.1]
        · simp at hx
          subst hx
          have := ih.2 y rfl
          refine ⟨fun z hzz => ?_, fun hl => by have := this.2 (by simpa using hl); simp [this]⟩
          simp only [List.mem_cons] at hzz
          rcases hzz with rfl | hzz
          · exact ⟨by omega, (bothS_good _ _).1⟩
          · exact this.1 z hzz
  | [], [] => ⟨rfl, fun x hx => by cases hx; exact ⟨fun _ h => by simp at h, fun _ => rfl⟩⟩
  | [], _ :: _ => ⟨rfl, fun x hx => by cases hx; exact ⟨fun _ h => by simp at h, fun h => by simp at h⟩⟩
  | _ :: _, [] => ⟨rfl, fun x hx => by cases hx; exact ⟨fun _ h => by simp at h, fun h => by simp at h⟩⟩

theorem goodBx_of {x : Bx} {n : Nat} (h : Sets x) (hl : x.length = n) (hn : n ≤ 3) : goodBx x (n : Int) = true := goodBx_iff.2 ⟨h, by omega, by omega⟩
theorem sizeBx_of {x : Bx} (h : Sets x) (hn : x.length ≤ 3) : sizeBx x = prodS x := by unfold sizeBx; rw [if_pos (goodBx_of h rfl hn)]
theorem sumSz_of {l : List Bx} (h : ∀ x ∈ l, Sets x ∧ x.length ≤ 3) : sumSz l = sumP l := by
  induction l with
  | nil => rfl
  | cons b l ih =>
    show sizeBx b + sumSz l = prodS b + sumP l
    rw [sizeBx_of (h b (by simp)).1 (h b (by simp)).2, ih fun x hx => h x (by simp [hx])]
theorem prodS_bd : ∀ {b : Bx}, Sets b → 0 ≤ prodS b ∧ prodS b ≤ 2000002 ^ b.length
  | [], _ => by simp [prodS]
  | s :: b, h => by
    have h1 := sizeN_bd2 (h s (by simp)).2
    have h2 := prodS_bd (b := b) fun x hx => h x (by simp [hx])
    have h3 := mul_bd h1.1 h1.2 h2.1 h2.2
    simp only [prodS, List.length_cons]
    rw [Int.pow_succ, Int.mul_comm ((2000002 : Int) ^ b.length)]
    exact h3
theorem sizeBx_bd (b : Bx) : 0 ≤ sizeBx b ∧ sizeBx b ≤ 8000024000024000008 := by
  unfold sizeBx
  split
  · rename_i h
    obtain ⟨h1, _, h3⟩ := goodBx_iff.1 h
    have h2 := prodS_bd h1
    refine ⟨h2.1, Int.le_trans h2.2 ?_⟩
    have : b.length = 0 ∨ b.length = 1 ∨ b.length = 2 ∨ b.length = 3 := by omega
    rcases this with h | h | h | h <;> rw [h] <;> decide
  · decide

/-- The least input of a box is in it. -/
theorem point_in : ∀ {b : Bx}, Sets b → inBx b (pointBx b) = true
  | [], _ => rfl
  | s :: b, h => by
    have ih := point_in (b := b) fun x hx => h x (by simp [hx])
    have hs := h s (by simp)
    match s, hs with
    | r :: t, hs =>
      have h1 : pointBx ((r :: t) :: b) = r.1 :: pointBx b := rfl
      rw [h1, inBx, ih, hasL_cons]
      have : inR r r.1 = true := (inR_iff _ _).2 ⟨Int.le_refl _, hs.2.2.2.1⟩
      rw [this]; rfl

end Go.Proofs.YtlopccnehgolnabDoor
