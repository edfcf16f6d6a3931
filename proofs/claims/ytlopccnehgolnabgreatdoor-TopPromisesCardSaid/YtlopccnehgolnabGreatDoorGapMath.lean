import Derived.Test.YtlopccnehgolnabGreatDoorGPromises29
import Derived.Test.YtlopccnehgolnabGreatDoorGPromises19
namespace Go.Proofs.YtlopccnehgolnabGreatDoor
open Go.RowKit Rb
open List renaming mem_filter -> jA
theorem Z71 {all : Bx} {n : Nat} (hb : Z0j all (n : Int) = true) (ns : List Int) (hin : inBx all ns = true) : ∀ {rs : List Rl}, (∀ r ∈ rs, r.cells.length = n) ->
  (Z1l rs all).any (fun b => Z0j b (all.length : Int) && inBx b ns) = rs.any (Z0i · ns)
 | [], _ => rfl
 | r :: rs, h => by
  have h6 : (all.length : Int) = n := (goodBx_iff.1 hb).2.1
  have hl3 := (goodBx_iff.1 hb).2.2
  have ih := Z71 hb ns hin (rs := rs) fun x hx => h x (by simp [hx])
  have e : Z1l (r :: rs) all = (if Z1b (Z1f r all) then [Z19 (Z1f r all)] else []) ++ Z1l rs all := rfl
  have hgb : Z0j all (all.length : Int) = true := by rw [h6]; exact hb
  have hr := h r (by simp)
  rw [e, List.any_append, List.any_cons, ih]
  congr 1
  cases ha : Z1f r all with
  | none =>
   have := Z7j ha (by omega) hgb ns
   rw [hin, Bool.true_and] at this
   rw [this]; rfl
  | some a =>
   obtain ⟨a1, a2, a3⟩ := Z7k ha
   show ([a].any _) = _
   simp only [List.any_cons, List.any_nil, Bool.or_false]
   rw [show (all.length : Int) = (a.length : Int) by omega, Z3l a2 rfl (by omega), a1, hin]
   rfl
theorem Y8f {l : List Bx} {ns : List Int} : 0 < Z4c l ns ↔ ∃ x ∈ l, inBx x ns = true := by
 unfold Z4c
 rw [List.length_pos_iff_exists_mem]
 simp only [jA]
section
variable {t : Tb} {all : Bx} (hg : Z0s t = true) (hb : Z0j all (t.ins.length : Int) = true)
include hg hb
theorem X0q : (∀ x ∈ gapB t all, Sets x) /\ (t.pol ≠ 7 -> ∀ ns, (∃ x ∈ gapB t all, inBx x ns = true) ↔ inBx all ns = true /\ t.rules.any (Z0i · ns) = false) /\ (t.pol = 7 -> gapB t all = []) := by
 have h6 : (all.length : Int) = t.ins.length := (goodBx_iff.1 hb).2.1
 have hgb : Z0j all (all.length : Int) = true := by rw [h6]; exact hb
 have hlw := Y9c hgb (Z1l t.rules all)
 refine ⟨fun x hx => ?_, fun h7 ns => ?_, fun h7 => ?_⟩
 ·unfold gapB at hx
  split at hx
  ·exact ((hlw []).1 x hx).1
  ·simp at hx
 ·have e : gapB t all = Z6i all (Z1l t.rules all) := by unfold gapB; rw [hg, hb, decide_eq_false h7]; rfl
  rw [e, <- Y8f, (hlw ns).2.2]
  unfold X39
  cases hin : inBx all ns
  ·simp
  ·rw [Z71 hb ns hin fun r hr => Z6c hg hr]
   cases t.rules.any (Z0i · ns) <;> simp
 ·unfold gapB; rw [decide_eq_true h7, Bool.not_true, Bool.and_false]; rfl
omit hg hb in
theorem Y06 (pol : Int) : ∀ (l : List Int) (n : Int), (Z0e pol n l).2.2 = 0 -> (Z0e pol n l).2.1 = true
 | [], n, _ => rfl
 | o :: l, n, h => by
  have ih := Y06 pol l
  simp only [Z0e] at h ⊢
  by_cases h1 : pol = 1
  ·rw [if_pos h1] at h; cases h
  rw [if_neg h1] at h ⊢
  by_cases h2 : pol = 2
  ·rw [if_pos h2] at h ⊢
   split at h
   ·cases h
   ·rename_i hx; rw [if_neg hx]; exact ih _ h
  rw [if_neg h2] at h ⊢
  split at h
  ·rename_i h4; rw [if_pos h4]; exact ih _ h
  ·rename_i h4
   rw [if_neg h4]
   split at h
   ·rename_i h5; rw [if_pos h5]; exact ih _ h
   ·rename_i h5
    rw [if_neg h5]
    split at h
    ·rename_i h6; rw [if_pos h6]; exact ih _ h
    ·rename_i h6; rw [if_neg h6]; exact ih _ h
omit hb in
theorem Z9x {ns : List Int} (hl : ns.length = t.ins.length) : Z03 t ns = if t.pol = 7 then (((Z2t t.rules ns).length : Int), true, 0) else sayO t.pol (Z2t t.rules ns) := by
 unfold Z03; rw [if_pos ⟨hg, hl⟩, Y9f]
omit hg hb in
theorem X08 {rs : List Rl} {ns : List Int} : Z2t rs ns = [] ↔ rs.any (Z0i · ns) = false := by
 unfold Z2t
 rw [List.map_eq_nil_iff, List.filter_eq_nil_iff, List.any_eq_false]
theorem X0r (ns : List Int) (hin : inBx all ns = true) (h7 : t.pol ≠ 7) : ((Z03 t ns).2.1 = false /\ (Z03 t ns).2.2 = 0) ↔ t.rules.any (Z0i · ns) = false := by
 have h6 : (all.length : Int) = t.ins.length := (goodBx_iff.1 hb).2.1
 have hlen := Z61 hin
 rw [Z9x hg (by omega), if_neg h7, <- X08]
 cases Z2t t.rules ns with
 | nil => simp [sayO]
 | cons o l =>
  constructor
  ·rintro ⟨h1, h2⟩
   have := Y06 t.pol l o h2
   rw [show (sayO t.pol (o :: l)).2.1 = (Z0e t.pol o l).2.1 from rfl, this] at h1
   cases h1
  ·intro h; cases h
theorem X33 (ns : List Int) (hin : inBx all ns = true) (h0 : (Z03 t ns).2.1 = false) (he : (Z03 t ns).2.2 = 0) : ∃ x ∈ gapB t all, inBx x ns = true := by
 obtain ⟨h1, h2, h3⟩ := X0q hg hb
 have h6 : (all.length : Int) = t.ins.length := (goodBx_iff.1 hb).2.1
 have hlen := Z61 hin
 have h7 : t.pol ≠ 7 := fun e => by rw [Z9x hg (by omega), if_pos e] at h0; cases h0
 exact (h2 h7 ns).2 ⟨hin, (X0r hg hb ns hin h7).1 ⟨h0, he⟩⟩
end
theorem Y05 (pol : Int) (h6 : pol ≠ 6) (lo hi : Int) : ∀ (l : List Int) (n : Int), (lo <= n /\ n <= hi) -> (∀ o ∈ l, lo <= o /\ o <= hi) -> (Z0e pol n l).2.1 = true -> lo <= (Z0e pol n l).1 /\ (Z0e pol n l).1 <= hi
 | [], n, hn, _, _ => hn
 | o :: l, n, hn, hl, h => by
  have ih := Y05 pol h6 lo hi l
  have ho := hl o (by simp)
  have hl' : ∀ o ∈ l, lo <= o /\ o <= hi := fun x hx => hl x (by simp [hx])
  simp only [Z0e] at h ⊢
  by_cases h1 : pol = 1
  ·rw [if_pos h1] at h; cases h
  rw [if_neg h1] at h ⊢
  by_cases h2 : pol = 2
  ·rw [if_pos h2] at h ⊢
   split at h
   ·cases h
   ·rename_i hx; rw [if_neg hx]; exact ih _ hn hl' h
  rw [if_neg h2] at h ⊢
  split at h
  ·rename_i h4; rw [if_pos h4]; exact ih _ (by omega) hl' h
  ·rename_i h4
   rw [if_neg h4]
   split at h
   ·rename_i h5; rw [if_pos h5]; exact ih _ (by omega) hl' h
   ·rename_i h5
    rw [if_neg h5, if_neg h6]
    exact ih _ hn hl' (by first | exact h | (rw [if_neg h6] at h; exact h))
theorem Z9w : ∀ (l : List Int) (n : Int), Z0e 6 n l = (n + l.sum, true, 0)
 | [], n => by simp [Z0e]
 | o :: l, n => by
  have ih := Z9w l
  simp only [Z0e, show ¬ (6 : Int) = 1 by omega, show ¬ (6 : Int) = 2 by omega, show ¬ (6 : Int) = 4 by omega, show ¬ (6 : Int) = 5 by omega, if_true, if_false]
  rw [ih, List.sum_cons]
  congr 1
  omega
theorem Y31 (pol : Int) (h6 : pol ≠ 6) : ∀ (l : List Rl) (k : Nat) (r : Int × Int), ((0 < k -> (Z1c pol k l r).1 <= r.1 /\ r.2 <= (Z1c pol k l r).2) /\ ∀ x ∈ l, (Z1c pol k l r).1 <= x.out /\ x.out <= (Z1c pol k l r).2)
 | [], _, r => ⟨fun _ => ⟨Int.le_refl _, Int.le_refl _⟩, fun x h => by simp at h⟩
 | x :: l, k, r => by
  obtain ⟨i1, i2⟩ := Y31 pol h6 l (k + 1) (Z0v pol k r x.out)
  have e : Z1c pol k (x :: l) r = Z1c pol (k + 1) l (Z0v pol k r x.out) := rfl
  rw [e]
  have hs : Z0v pol k r x.out = if k = 0 then (x.out, x.out) else (min r.1 x.out, max r.2 x.out) := by unfold Z0v; rw [if_neg h6]
  have hi := i1 (by omega)
  generalize hz : Z1c pol (k + 1) l (Z0v pol k r x.out) = z at *
  rw [hs] at hi
  by_cases hk : k = 0
  ·rw [if_pos hk] at hi
   refine ⟨fun h => by omega, fun y hy => ?_⟩
   rcases List.mem_cons.1 hy with rfl | hy
   ·exact hi
   ·exact i2 y hy
  ·rw [if_neg hk] at hi
   dsimp only at hi
   refine ⟨fun _ => by omega, fun y hy => ?_⟩
   rcases List.mem_cons.1 hy with rfl | hy
   ·omega
   ·exact i2 y hy
theorem Y09 (ns : List Int) : ∀ (l : List Rl) (k : Nat) (r : Int × Int), (∀ x ∈ l, -1000000 <= x.out /\ x.out <= 1000000) -> (Z1c 6 k l r).1 <= r.1 + (Z2t l ns).sum /\ r.2 + (Z2t l ns).sum <= (Z1c 6 k l r).2 /\ (Z1c 6 k l r).1 <= r.1 /\ r.2 <= (Z1c 6 k l r).2
 | [], _, r, _ => by simp [Z1c, Z2t]
 | x :: l, k, r, h => by
  obtain ⟨i1, i2, i3, i4⟩ := Y09 ns l (k + 1) (Z0v 6 k r x.out) fun y hy => h y (by simp [hy])
  have e : Z1c 6 k (x :: l) r = Z1c 6 (k + 1) l (Z0v 6 k r x.out) := rfl
  have hx := h x (by simp)
  have ho : (Z2t (x :: l) ns).sum = (if Z0i x ns then x.out else 0) + (Z2t l ns).sum := by
   unfold Z2t
   rw [List.filter_cons]
   cases Z0i x ns <;> simp
  rw [e, ho]
  generalize Z1c 6 (k + 1) l (Z0v 6 k r x.out) = z at *
  have hs : Z0v 6 k r x.out = if x.out < 0 then (r.1 + max x.out (-1000000), r.2) else (r.1, r.2 + min x.out 1000000) := by unfold Z0v; rw [if_pos rfl]
  rw [hs] at i1 i2 i3 i4
  generalize (Z2t l ns).sum = m at *
  cases Z0i x ns
  ·simp only [Bool.false_eq_true, if_false]
   split at i1 <;> rename_i hc <;> simp only [hc, if_true, if_false] at i2 i3 i4 <;> dsimp only at * <;> omega
  ·simp only [if_true]
   split at i1 <;> rename_i hc <;> simp only [hc, if_true, if_false] at i2 i3 i4 <;> dsimp only at * <;> omega
theorem X3e {t : Tb} {ns : List Int} (hg : Z0s t = true) (hl : ns.length = t.ins.length) (hok : (Z03 t ns).2.1 = true) : (Z3p t).1 <= (Z03 t ns).1 /\ (Z03 t ns).1 <= (Z3p t).2 := by
 have hf := Z9x hg hl
 unfold Z3p
 by_cases h7 : t.pol = 7
 ·rw [if_pos h7] at hf ⊢
  rw [hf]
  have : (Z2t t.rules ns).length <= t.rules.length := by unfold Z2t; rw [List.length_map]; exact List.length_filter_le _ _
  dsimp only
  omega
 ·rw [if_neg h7] at hf ⊢
  rw [hf] at hok ⊢
  by_cases h6 : t.pol = 6
  ·rw [h6] at hok ⊢
   have hs := Y09 ns t.rules 0 (0, 0) fun x hx => Z6z hg hx
   cases ho : Z2t t.rules ns with
   | nil => rw [ho] at hok; cases hok
   | cons o l =>
    rw [ho] at hs
    show _ <= (Z0e 6 o l).1 /\ (Z0e 6 o l).1 <= _
    rw [Z9w]
    simp only [List.sum_cons] at hs
    dsimp only at hs ⊢
    omega
  ·have hs := (Y31 t.pol h6 t.rules 0 (0, 0)).2
   have hm : ∀ o ∈ Z2t t.rules ns, (Z1c t.pol 0 t.rules (0, 0)).1 <= o /\ o <= (Z1c t.pol 0 t.rules (0, 0)).2 := by
    intro o ho
    unfold Z2t at ho
    rw [List.mem_map] at ho
    obtain ⟨x, hx, rfl⟩ := ho
    exact hs x (jA.1 hx).1
   cases ho : Z2t t.rules ns with
   | nil => rw [ho] at hok; cases hok
   | cons o l =>
    rw [ho] at hok hm
    exact Y05 t.pol h6 _ _ l o (hm o (by simp)) (fun x hx => hm x (by simp [hx])) hok
end Go.Proofs.YtlopccnehgolnabGreatDoor
