
/- The contract of less, and the plain law of least inputs. -/
import Derived.Test.YtlopccnehgolnabGapMath
import Derived.BigQuiet
namespace Go.Proofs.Ytlopccnehgolnab
open Go.RowKit Rb

def lessL : List Int → List Int → Bool
  | x :: a, y :: b => if x = y then lessL a b else decide (x < y)
  | _, _ => false
theorem lessL_at {a b : List Int} {k : Nat} {x y : Int} (hx : a[k]? = some x) (hy : b[k]? = some y) : lessL (a.drop k) (b.drop k) = if x = y then lessL (a.drop (k + 1)) (b.drop (k + 1)) else decide (x < y) := by
  rw [drop_cons hx, drop_cons hy]; rfl
theorem lessL_nil (a : List Int) : lessL a [] = false := by cases a <;> rfl

theorem nl_refl : ∀ a : List Int, lessL a a = false
  | [] => rfl
  | x :: a => by rw [lessL, if_pos rfl]; exact nl_refl a
theorem nl_asym : ∀ a b : List Int, lessL a b = true → lessL b a = false
  | [], _, h => by cases h
  | _ :: _, [], _ => rfl
  | x :: a, y :: b, h => by
    rw [lessL] at h ⊢
    by_cases e : x = y
    · rw [if_pos e] at h; rw [if_pos e.symm]; exact nl_asym a b h
    · rw [if_neg e] at h; rw [if_neg (Ne.symm e)]
      have := of_decide_eq_true h
      exact decide_eq_false (by omega)
theorem nl_trans : ∀ a b c : List Int, a.length = b.length → b.length = c.length → lessL a b = false → lessL b c = false → lessL a c = false
  | [], _, _, _, _, _, _ => by simp [lessL]
  | x :: a, [], _, h, _, _, _ => by simp at h
  | x :: a, y :: b, [], _, h, _, _ => by simp at h
  | x :: a, y :: b, z :: c, h1, h2, h3, h4 => by
    have ih := nl_trans a b c (by simpa using h1) (by simpa using h2)
    rw [lessL] at h3 h4 ⊢
    by_cases e : x = y
    · subst e
      rw [if_pos rfl] at h3
      by_cases f : x = z
      · subst f
        rw [if_pos rfl] at h4 ⊢
        exact ih h3 h4
      · rw [if_neg f] at h4 ⊢
        exact h4
    · rw [if_neg e] at h3
      have h3' := of_decide_eq_false h3
      by_cases f : y = z
      · subst f
        rw [if_neg e]
        exact h3
      · rw [if_neg f] at h4
        have h4' := of_decide_eq_false h4
        rw [if_neg (by omega)]
        exact decide_eq_false (by omega)
theorem cmp_less : ∀ a b : List Int, a.length = b.length → (cmpL a b < 0 ↔ lessL a b = true)
  | [], [], _ => by simp [cmpL, lessL]
  | [], _ :: _, h => by simp at h
  | _ :: _, [], h => by simp at h
  | x :: a, y :: b, h => by
    have ih := cmp_less a b (by simpa using h)
    rw [cmpL, lessL]
    by_cases h1 : x < y
    · rw [if_pos h1, if_neg (by omega)]; simp [h1]
    · rw [if_neg h1]
      by_cases h2 : y < x
      · rw [if_pos h2, if_neg (by omega)]; simp [h1]
      · rw [if_neg h2, if_pos (by omega)]; exact ih

theorem fold_least (n : Nat) : ∀ (l : List Bx) (o : List Int), o.length = n → (∀ x ∈ l, (pointBx x).length = n) →
    (l.foldl leastStep o).length = n ∧ lessL o (l.foldl leastStep o) = false ∧ ∀ x ∈ l, lessL (pointBx x) (l.foldl leastStep o) = false
  | [], o, ho, _ => ⟨ho, nl_refl o, fun x h => by simp at h⟩
  | y :: l, o, ho, hl => by
    have hy := hl y (by simp)
    have h1 : (leastStep o y).length = n ∧ lessL o (leastStep o y) = false ∧ lessL (pointBx y) (leastStep o y) = false := by
      unfold leastStep
      by_cases hc : cmpL (pointBx y) o < 0
      · rw [if_pos hc]
        exact ⟨hy, nl_asym _ _ ((cmp_less _ _ (by omega)).1 hc), nl_refl _⟩
      · rw [if_neg hc]
        refine ⟨ho, nl_refl _, ?_⟩
        cases h : lessL (pointBx y) o
        · rfl
        · exact absurd ((cmp_less _ _ (by omega)).2 h) hc
    obtain ⟨i1, i2, i3⟩ := fold_least n l (leastStep o y) h1.1 fun x hx => hl x (by simp [hx])
    rw [List.foldl_cons]
    refine ⟨i1, nl_trans _ _ _ (by omega) (by omega) h1.2.1 i2, fun x hx => ?_⟩
    rcases List.mem_cons.1 hx with rfl | hx
    · exact nl_trans _ _ _ (by omega) (by omega) h1.2.2 i2
    · exact i3 x hx
theorem leastB_le {n : Nat} {l : List Bx} (hl : ∀ x ∈ l, (pointBx x).length = n) {x : Bx} (hx : x ∈ l) : (leastB l).length = n ∧ lessL (pointBx x) (leastB l) = false := by
  cases l with
  | nil => simp at hx
  | cons y l =>
    obtain ⟨i1, i2, i3⟩ := fold_least n l (pointBx y) (hl y (by simp)) fun x hx => hl x (by simp [hx])
    refine ⟨i1, ?_⟩
    rcases List.mem_cons.1 hx with rfl | hx
    · exact i2
    · exact i3 x hx

theorem head_le : ∀ {s : List Rg} {a : Int}, GoodFrom a s → ∀ n, hasL s n = true → ∀ r t, s = r :: t → r.1 ≤ n
  | [], _, _, _, _, _, _, e => by cases e
  | r :: t, a, h, n, hn, r', t', e => by
    obtain ⟨rfl, rfl⟩ : r = r' ∧ t = t' := by simpa using e
    rw [hasL_cons, Bool.or_eq_true] at hn
    rcases hn with hn | hn
    · exact ((inR_iff _ _).1 hn).1
    · have h1 := GoodFrom.above h.tail n hn
      have h2 := h.his r (by simp)
      omega
/-- No input of a box is less than its point. -/
theorem point_le : ∀ {b : Bx} {ns : List Int}, Sets b → inBx b ns = true → lessL ns (pointBx b) = false
  | [], [], _, _ => rfl
  | [], _ :: _, _, h => by simp [inBx] at h
  | _ :: _, [], _, h => by simp [inBx] at h
  | s :: b, n :: ns, hg, h => by
    simp only [inBx, Bool.and_eq_true] at h
    have ih := point_le (b := b) (ns := ns) (fun x hx => hg x (by simp [hx])) h.2
    have hs := hg s (by simp)
    match s, hs, h with
    | r :: t, hs, h =>
      have h1 : pointBx ((r :: t) :: b) = r.1 :: pointBx b := rfl
      have h2 := head_le hs.2 n h.1 r t rfl
      rw [h1, lessL]
      by_cases e : n = r.1
      · rw [if_pos e]; exact ih
      · rw [if_neg e]; exact decide_eq_false (by omega)

theorem box_least {n : Nat} {l : List Bx} (hs : ∀ x ∈ l, Sets x) (hl : ∀ x ∈ l, x.length = n) {x : Bx} (hx : x ∈ l) {ns : List Int} (h : inBx x ns = true) : lessL ns (leastB l) = false := by
  have hp : ∀ x ∈ l, (pointBx x).length = n := fun x hx => by rw [← inBx_len (point_in (hs x hx)), hl x hx]
  obtain ⟨h1, h2⟩ := leastB_le hp hx
  have h3 := inBx_len h
  have h4 := hl x hx
  have h5 := hp x hx
  exact nl_trans _ _ _ (by omega) (by omega) (point_le (hs x hx) h) h2

theorem gap_len {t : Tb} {all : Bx} (hb : goodBx all (t.ins.length : Int) = true) : ∀ x ∈ gapB t all, x.length = all.length := by
  intro x hx
  have h6 : (all.length : Int) = t.ins.length := (goodBx_iff.1 hb).2.1
  unfold gapB at hx
  split at hx
  · exact ((restB_law (by rw [h6]; exact hb) _ []).1 x hx).2
  · simp at hx
theorem clash_len {t : Tb} {all : Bx} : ∀ x ∈ clashB t all, x.length = all.length := by
  intro x h
  unfold clashB at h
  split at h
  case isFalse => simp at h
  case isTrue hc =>
    obtain ⟨i, j, r, s, _, _, _, _, hxc⟩ := mem_clashTo.1 h
    obtain ⟨a, b, ha, hb', _, hxb⟩ := clashOf_eq hxc
    have h1 := (areaB_some ha).2.2
    have h2 := (areaB_some hb').2.2
    unfold bothBx at hxb
    split at hxb
    · rw [((zipBoth_size a b).2 x hxb).2 (by omega), h1]
    · cases hxb

set_option maxRecDepth 100000 in
set_option maxHeartbeats 800000 in
theorem less_any {S T : Nat → Prop} {v u : Value} {a b : List Int} (w : World) (hl : (rSl rInt).rel w S [v] a) (hm : (rSl rInt).rel w T [u] b) :
    Calls Try.prog 15 #[v, u] w fun e w' => e = .returned (.bool (lessL a b)) ∧ Below w.heap.size w w' := by
  have hal := rSl.lenle hl (by decide)
  have hbl := rSl.lenle hm (by decide)
  obtain ⟨A, c, rfl, _, _, _, hE⟩ := rSl.elems hl
  obtain ⟨B, d, rfl, _, _, _, hF⟩ := rSl.elems hm
  clear hl hm
  go_enter Try.func15, Try.ntmps15
  go_wp2
  go_loopw [8] (fun i wr => ∃ k : Nat, k ≤ a.length ∧ i = .int .i64 k ∧ Hid (lessL a b = lessL (a.drop k) (b.drop k)) ∧ Below w.heap.size w wr) (fun i _ => a.length - (intOf i).toNat)
  case atStart => exact ⟨0, Nat.zero_le _, rfl, Lib.hid rfl, Below.refl _ _⟩
  case round =>
    obtain ⟨k, hk, rfl, HI, hb⟩ := hrel
    by_cases hlt : k < a.length
    · obtain ⟨p, off, x, rfl, _, hp, hx, hxi, g1⟩ := hE.intAt hlt
      rw [← hb.cell (p := ⟨p, _, none⟩) hp] at g1
      have hik : (k : Int) < (a.length : Int) := by omega
      by_cases hlt2 : k < b.length
      · obtain ⟨q, off', y, rfl, _, hq, hy, hyi, g2⟩ := hF.intAt hlt2
        rw [← hb.cell (p := ⟨q, _, none⟩) hq] at g2
        have HAT := Lib.hid (lessL_at hx hy)
        have hik2 : (k : Int) < (b.length : Int) := by omega
        have hd1 : decide ((b.length : Int) ≤ (k : Int)) = false := decide_eq_false (by omega)
        have hd2 : decide ((k : Int) < (b.length : Int)) = true := decide_eq_true (by omega)
        clear hx hy hE hF
        by_cases h1 : x = y
        · have HF' := Lib.hid (HI.out.trans (by rw [HAT.out, if_pos h1]))
          have hne : (x != y) = false := by rw [bne_eq_false_iff_eq]; exact h1
          clear h1
          go_wp2
          go_quiet (fail)
          go_wp2
          go_roundw
          case rel => exact ⟨k + 1, by omega, by go_num, HF', drewN_below hb _⟩
          case measure => simp [intOf]; omega
        · have HF' : Hid (lessL a b = decide (x < y)) := Lib.hid (by rw [HI.out, HAT.out, if_neg h1])
          have hne : (x != y) = true := by rw [bne_iff_ne]; exact h1
          clear h1
          go_wp2
          go_quiet (fail)
          go_wp2
          go_quiet (fail)
          go_wp2
          go_ret
          exact ⟨by rw [HF'.out]; rfl, drewN_below (drewN_below hb _) _⟩
      · have HF' : Hid (lessL a b = false) := Lib.hid (by rw [HI.out, show b.drop k = [] from List.drop_eq_nil_of_le (by omega)]; exact lessL_nil _)
        have hd1 : decide ((b.length : Int) ≤ (k : Int)) = true := decide_eq_true (by omega)
        have hd2 : decide ((k : Int) < (b.length : Int)) = false := decide_eq_false (by omega)
        clear hx hE hF
        go_wp2
        go_quiet (fail)
        go_wp2
        go_quiet (fail)
        go_wp2
        go_ret
        exact ⟨by rw [HF'.out]; rfl, drewN_below (drewN_below hb _) _⟩
    · have HF' : Hid (lessL a b = false) := Lib.hid (by rw [HI.out, show a.drop k = [] from List.drop_eq_nil_of_le (by omega)]; rfl)
      go_wp2
      go_ret
      exact ⟨by rw [HF'.out]; rfl, hb⟩

end Go.Proofs.Ytlopccnehgolnab
