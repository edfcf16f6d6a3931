import Derived.Sort.LotA
namespace Go.Proofs.YtlopccnehgolnacGreatDoor
open Go.Sort
open Nat renaming le_refl -> nR, add_mul -> jA, div_eq_of_lt -> jB, div_eq_of_lt_le -> jC, lt_or_ge -> jD, lt_trichotomy -> jE, one_mul -> jF
variable {α : Type} [Inhabited α] {lt : α -> α -> Bool}
def Y4i (a b n p : Nat) : Nat := if a <= p /\ p < a + n then p + (b - a) else if b <= p /\ p < b + n then p - (b - a) else p
def SwpR (a b n : Nat) (d d' : Array α) : Prop :=
 d'.size = d.size /\ (∀ p, d'[p]! = d[Y4i a b n p]!) /\ ∀ lo hi, lo <= a -> a <= b -> b + n <= hi -> hi <= d.size -> PermIn lo hi d d'
theorem SwpR.zero (a b : Nat) (d : Array α) : SwpR a b 0 d d := by
 refine ⟨rfl, fun p => ?_, fun lo hi _ _ _ _ => permIn_refl _ _ _⟩
 congr 1; unfold Y4i; split
 ·omega
 split
 ·omega
 rfl
theorem SwpR.step {a b n i : Nat} {d dk : Array α} (h : SwpR a b i d dk) (hin : i < n) (hab : a + n <= b) (hb : b + n <= d.size) : SwpR a b (i + 1) d (swp dk (a + i) (b + i)) := by
 obtain ⟨h1, h2, h3⟩ := h
 refine ⟨by rw [size_swp, h1], fun p => ?_, fun lo hi k1 k2 k3 k4 => ?_⟩
 ·rw [swp_get dk (by omega) (by omega), h2, h2, h2]
  by_cases e1 : p = b + i
  ·subst e1
   rw [if_pos rfl]; congr 1; unfold Y4i; repeat' split
   all_goals omega
  rw [if_neg e1]
  by_cases e2 : p = a + i
  ·subst e2
   rw [if_pos rfl]; congr 1; unfold Y4i; repeat' split
   all_goals omega
  rw [if_neg e2]; congr 1; unfold Y4i; repeat' split
  all_goals omega
 exact permIn_trans _ _ _ _ _ (h3 lo hi k1 k2 (by omega) k4) (swp_permIn dk lo hi (a + i) (b + i) (by omega) (by omega) (by omega) (by omega) (by rw [h1]; exact k4))
def Z5w (a m b p : Nat) : Nat := if a <= p /\ p < b then (if p < a + (b - m) then p + (m - a) else p - (b - m)) else p
def Rot (a m b : Nat) (d d' : Array α) : Prop := (∀ p, d'[p]! = d[Z5w a m b p]!) /\ PermIn a b d d'
def RotTo (a m b i j : Nat) (d dk : Array α) : Prop := (∀ p, d[Z5w a m b p]! = dk[Z5w (m - i) m (m + j) p]!) /\ PermIn a b d dk
theorem RotTo.start {a m b : Nat} (d : Array α) (ham : a <= m) (hmb : m <= b) : RotTo a m b (m - a) (b - m) d d := by
 refine ⟨fun p => ?_, permIn_refl _ _ _⟩
 rw [show m - (m - a) = a by omega, show m + (b - m) = b by omega]
theorem RotTo.left {a m b i j : Nat} {d dk dk' : Array α} (h : RotTo a m b i j d dk) (hj : j < i) (hi : i <= m - a) (hjb : j <= b - m) (ham : a <= m) (hmb : m <= b) (hb : b <= d.size) (hs : SwpR (m - i) m j dk dk') : RotTo a m b (i - j) j d dk' := by
 have hsz : dk.size = d.size := h.2.1
 refine ⟨fun p => ?_, permIn_trans _ _ _ _ _ h.2 (hs.2.2 a b (by omega) (by omega) (by omega) (by rw [hsz]; exact hb))⟩
 rw [h.1, hs.2.1]
 congr 1
 unfold Y4i Z5w
 repeat' split
 all_goals omega
theorem RotTo.right {a m b i j : Nat} {d dk dk' : Array α} (h : RotTo a m b i j d dk) (hij : i < j) (hi : i <= m - a) (hjb : j <= b - m) (ham : a <= m) (hmb : m <= b) (hb : b <= d.size) (hs : SwpR (m - i) (m + j - i) i dk dk') : RotTo a m b i (j - i) d dk' := by
 have hsz : dk.size = d.size := h.2.1
 refine ⟨fun p => ?_, permIn_trans _ _ _ _ _ h.2 (hs.2.2 a b (by omega) (by omega) (by omega) (by rw [hsz]; exact hb))⟩
 rw [h.1, hs.2.1]
 congr 1
 unfold Y4i Z5w
 repeat' split
 all_goals omega
theorem RotTo.last {a m b i : Nat} {d dk dk' : Array α} (h : RotTo a m b i i d dk) (hi : i <= m - a) (hjb : i <= b - m) (ham : a <= m) (hmb : m <= b) (hb : b <= d.size) (hs : SwpR (m - i) m i dk dk') : Rot a m b d dk' := by
 have hsz : dk.size = d.size := h.2.1
 refine ⟨fun p => ?_, permIn_trans _ _ _ _ _ h.2 (hs.2.2 a b (by omega) (by omega) (by omega) (by rw [hsz]; exact hb))⟩
 rw [h.1, hs.2.1]
 congr 1
 unfold Y4i Z5w
 repeat' split
 all_goals omega
theorem Rot.none (a m b : Nat) (d : Array α) (h : a = m \/ m = b) : Rot a m b d d := by
 refine ⟨fun p => ?_, permIn_refl _ _ _⟩
 congr 1
 unfold Z5w
 repeat' split
 all_goals omega
def Merged (lt : α -> α -> Bool) (a b : Nat) (d d' : Array α) : Prop := PermIn a b d d' /\ SortedIn lt a b d'
structure FindL (lt : α -> α -> Bool) (a m b i j : Nat) (d : Array α) : Prop where
 hi : m <= i
 hij : i <= j
 hj : j <= b
 lo : ∀ q, m <= q -> q < i -> lt d[q]! d[a]! = true
 up : ∀ q, j <= q -> q < b -> lt d[q]! d[a]! = false
theorem FindL.start {a m b : Nat} (d : Array α) (hmb : m <= b) : FindL lt a m b m b d := ⟨nR _, hmb, nR _, fun q _ _ => by omega, fun q _ _ => by omega⟩
theorem FindL.yes {a m b i j h : Nat} {d : Array α} (hS : SWO lt) (hf : FindL lt a m b i j d) (hs : SortedIn lt m b d) (h1 : i <= h) (h2 : h < j) (hl : lt d[h]! d[a]! = true) : FindL lt a m b (h + 1) j d := by
 have := hf.hi; have := hf.hj
 refine ⟨by omega, by omega, hf.hj, fun q q1 q2 => ?_, hf.up⟩
 rcases jD q h with hq | hq
 ·have hns := hs q h q1 hq (by omega)
  cases e : lt d[q]! d[a]! with
  | true => rfl
  | false => rw [hS.ntrans _ _ _ hns e] at hl; cases hl
 obtain rfl : q = h := by omega
 exact hl
theorem FindL.no {a m b i j h : Nat} {d : Array α} (hS : SWO lt) (hf : FindL lt a m b i j d) (hs : SortedIn lt m b d) (h1 : i <= h) (h2 : h < j) (hl : lt d[h]! d[a]! = false) : FindL lt a m b i h d := by
 have := hf.hi; have := hf.hj
 refine ⟨hf.hi, h1, by omega, hf.lo, fun q q1 q2 => ?_⟩
 rcases jD h q with hq | hq
 ·exact hS.ntrans _ _ _ (hs h q (by omega) hq q2) hl
 obtain rfl : q = h := by omega
 exact hl
def Z4g (a k p : Nat) : Nat := if a <= p /\ p < k then p + 1 else if p = k then a else p
def MvR (a k b : Nat) (d dk : Array α) : Prop := (∀ p, dk[p]! = d[Z4g a k p]!) /\ PermIn a b d dk
theorem MvR.start (a b : Nat) (d : Array α) : MvR a a b d d := by
 refine ⟨fun p => ?_, permIn_refl _ _ _⟩
 congr 1; unfold Z4g; repeat' split
 all_goals omega
theorem MvR.step {a k b : Nat} {d dk : Array α} (h : MvR a k b d dk) (hak : a <= k) (hkb : k + 1 < b) (hb : b <= d.size) : MvR a (k + 1) b d (swp dk k (k + 1)) := by
 have hsz : dk.size = d.size := h.2.1
 refine ⟨fun p => ?_, permIn_trans _ _ _ _ _ h.2 (swp_permIn dk a b k (k + 1) hak (by omega) (by omega) hkb (by omega))⟩
 rw [swp_get dk (by omega) (by omega), h.1, h.1, h.1]
 by_cases e1 : p = k + 1
 ·subst e1
  rw [if_pos rfl]; congr 1; unfold Z4g; repeat' split
  all_goals omega
 rw [if_neg e1]
 by_cases e2 : p = k
 ·subst e2
  rw [if_pos rfl]; congr 1; unfold Z4g; repeat' split
  all_goals omega
 rw [if_neg e2]; congr 1; unfold Z4g; repeat' split
 all_goals omega
theorem FindL.done {a b i : Nat} {d dk : Array α} (hS : SWO lt) (hf : FindL lt a (a + 1) b i i d) (hs : SortedIn lt (a + 1) b d) (hm : MvR a (i - 1) b d dk) (_hab : a + 1 < b) : Merged lt a b d dk := by
 have hi := hf.hi; have hj := hf.hj
 refine ⟨hm.2, fun x y h1 h2 h3 => ?_⟩
 rw [hm.1, hm.1]
 rcases jE y (i - 1) with hy | hy | hy
 ·have e1 : Z4g a (i - 1) y = y + 1 := by unfold Z4g; rw [if_pos ⟨by omega, hy⟩]
  have e2 : Z4g a (i - 1) x = x + 1 := by unfold Z4g; rw [if_pos ⟨by omega, by omega⟩]
  rw [e1, e2]; exact hs (x + 1) (y + 1) (by omega) (by omega) (by omega)
 ·have e1 : Z4g a (i - 1) y = a := by unfold Z4g; rw [if_neg (by omega), if_pos hy]
  have e2 : Z4g a (i - 1) x = x + 1 := by unfold Z4g; rw [if_pos ⟨by omega, by omega⟩]
  rw [e1, e2]; exact hS.asymmA (hf.lo (x + 1) (by omega) (by omega))
 have e1 : Z4g a (i - 1) y = y := by unfold Z4g; rw [if_neg (by omega), if_neg (by omega)]
 rw [e1]
 rcases jE x (i - 1) with hx | hx | hx
 ·have e2 : Z4g a (i - 1) x = x + 1 := by unfold Z4g; rw [if_pos ⟨by omega, by omega⟩]
  rw [e2]
  exact hs (x + 1) y (by omega) (by omega) (by omega)
 ·have e2 : Z4g a (i - 1) x = a := by unfold Z4g; rw [if_neg (by omega), if_pos hx]
  rw [e2]; exact hf.up y (by omega) (by omega)
 have e2 : Z4g a (i - 1) x = x := by unfold Z4g; rw [if_neg (by omega), if_neg (by omega)]
 rw [e2]; exact hs x y (by omega) h2 h3
structure FindR (lt : α -> α -> Bool) (a m i j : Nat) (d : Array α) : Prop where
 hi : a <= i
 hij : i <= j
 hj : j <= m
 lo : ∀ q, a <= q -> q < i -> lt d[m]! d[q]! = false
 up : ∀ q, j <= q -> q < m -> lt d[m]! d[q]! = true
theorem FindR.start {a m : Nat} (d : Array α) (hmb : a <= m) : FindR lt a m a m d := ⟨nR _, hmb, nR _, fun q _ _ => by omega, fun q _ _ => by omega⟩
theorem FindR.yes {a m i j h : Nat} {d : Array α} (hS : SWO lt) (hf : FindR lt a m i j d) (hs : SortedIn lt a m d) (h1 : i <= h) (h2 : h < j) (hl : lt d[m]! d[h]! = false) : FindR lt a m (h + 1) j d := by
 have := hf.hi; have := hf.hj
 refine ⟨by omega, by omega, hf.hj, fun q q1 q2 => ?_, hf.up⟩
 rcases jD q h with hq | hq
 ·exact hS.ntrans _ _ _ hl (hs q h q1 hq (by omega))
 obtain rfl : q = h := by omega
 exact hl
theorem FindR.no {a m i j h : Nat} {d : Array α} (hS : SWO lt) (hf : FindR lt a m i j d) (hs : SortedIn lt a m d) (h1 : i <= h) (h2 : h < j) (hl : lt d[m]! d[h]! = true) : FindR lt a m i h d := by
 have := hf.hi; have := hf.hj
 refine ⟨hf.hi, h1, by omega, hf.lo, fun q q1 q2 => ?_⟩
 rcases jD h q with hq | hq
 ·cases e : lt d[m]! d[q]! with
  | true => rfl
  | false => rw [hS.ntrans _ _ _ e (hs h q (by omega) hq (by omega))] at hl; cases hl
 obtain rfl : q = h := by omega
 exact hl
def Z4h (k m p : Nat) : Nat := if k < p /\ p <= m then p - 1 else if p = k then m else p
def MwR (a k m : Nat) (d dk : Array α) : Prop := (∀ p, dk[p]! = d[Z4h k m p]!) /\ PermIn a (m + 1) d dk
theorem MwR.start (a m : Nat) (d : Array α) : MwR a m m d d := by
 refine ⟨fun p => ?_, permIn_refl _ _ _⟩
 congr 1; unfold Z4h; repeat' split
 all_goals omega
theorem MwR.step {a k m : Nat} {d dk : Array α} (h : MwR a k m d dk) (hak : a < k) (hkm : k <= m) (hb : m < d.size) : MwR a (k - 1) m d (swp dk k (k - 1)) := by
 have hsz : dk.size = d.size := h.2.1
 refine ⟨fun p => ?_, permIn_trans _ _ _ _ _ h.2 (swp_permIn dk a (m + 1) k (k - 1) (by omega) (by omega) (by omega) (by omega) (by omega))⟩
 rw [swp_get dk (by omega) (by omega), h.1, h.1, h.1]
 by_cases e1 : p = k - 1
 ·subst e1
  rw [if_pos rfl]; congr 1; unfold Z4h; repeat' split
  all_goals omega
 rw [if_neg e1]
 by_cases e2 : p = k
 ·subst e2
  rw [if_pos rfl]; congr 1; unfold Z4h; repeat' split
  all_goals omega
 rw [if_neg e2]; congr 1; unfold Z4h; repeat' split
 all_goals omega
theorem FindR.done {a m i : Nat} {d dk : Array α} (hS : SWO lt) (hf : FindR lt a m i i d) (hs : SortedIn lt a m d) (hm : MwR a i m d dk) : Merged lt a (m + 1) d dk := by
 have hi := hf.hi; have hj := hf.hj
 refine ⟨hm.2, fun x y h1 h2 h3 => ?_⟩
 rw [hm.1, hm.1]
 rcases jE y i with hy | hy | hy
 ·have e1 : Z4h i m y = y := by unfold Z4h; rw [if_neg (by omega), if_neg (by omega)]
  have e2 : Z4h i m x = x := by unfold Z4h; rw [if_neg (by omega), if_neg (by omega)]
  rw [e1, e2]; exact hs x y h1 h2 (by omega)
 ·have e1 : Z4h i m y = m := by unfold Z4h; rw [if_neg (by omega), if_pos hy]
  have e2 : Z4h i m x = x := by unfold Z4h; rw [if_neg (by omega), if_neg (by omega)]
  rw [e1, e2]; exact hf.lo x h1 (by omega)
 have e1 : Z4h i m y = y - 1 := by unfold Z4h; rw [if_pos ⟨hy, by omega⟩]
 rw [e1]
 rcases jE x i with hx | hx | hx
 ·have e2 : Z4h i m x = x := by unfold Z4h; rw [if_neg (by omega), if_neg (by omega)]
  rw [e2]; exact hs x (y - 1) h1 (by omega) (by omega)
 ·have e2 : Z4h i m x = m := by unfold Z4h; rw [if_neg (by omega), if_pos hx]
  rw [e2]; exact hS.asymmA (hf.up (y - 1) (by omega) (by omega))
 have e2 : Z4h i m x = x - 1 := by unfold Z4h; rw [if_pos ⟨hx, by omega⟩]
 rw [e2]; exact hs (x - 1) (y - 1) (by omega) (by omega) (by omega)
structure Cut (lt : α -> α -> Bool) (n s0 r0 s r : Nat) (d : Array α) : Prop where
 hs : s0 <= s
 hsr : s <= r
 hr : r <= r0
 lo : ∀ c, s0 <= c -> c < s -> lt d[n - 1 - c]! d[c]! = false
 up : ∀ c, r <= c -> c < r0 -> lt d[n - 1 - c]! d[c]! = true
theorem Cut.start {n s0 r0 : Nat} (d : Array α) (h : s0 <= r0) : Cut lt n s0 r0 s0 r0 d := ⟨nR _, h, nR _, fun c _ _ => by omega, fun c _ _ => by omega⟩
section
variable {a m b n mid s0 r0 : Nat} {d : Array α}
structure Mid (a m b mid n s0 r0 : Nat) : Prop where
 ham : a < m
 hmb : m < b
 h1 : m ≠ a + 1
 h2 : b ≠ m + 1
 hmid : mid = (a + b) / 2
 hn : n = mid + m
 hs : if mid < m then s0 = n - b /\ r0 = mid else s0 = a /\ r0 = m
theorem Cut.yes (hS : SWO lt) (M : Mid a m b mid n s0 r0) {s r c : Nat} (hc : Cut lt n s0 r0 s r d) (hA : SortedIn lt a m d) (hB : SortedIn lt m b d) (h1 : s <= c) (h2 : c < r) (hl : lt d[n - 1 - c]! d[c]! = false) : Cut lt n s0 r0 (c + 1) r d := by
 have := hc.hs; have := hc.hr; have := M.ham; have := M.hmb; have := M.hmid; have := M.hn; have := M.h1; have := M.h2
 refine ⟨by omega, by omega, hc.hr, fun q q1 q2 => ?_, hc.up⟩
 rcases jD q c with hq | hq
 ·have hM := M.hs
  split at hM
  ·exact hS.ntrans _ _ _ (hS.ntrans _ _ _ (hB (n - 1 - c) (n - 1 - q) (by omega) (by omega) (by omega)) hl) (hA q c (by omega) hq (by omega))
  exact hS.ntrans _ _ _ (hS.ntrans _ _ _ (hB (n - 1 - c) (n - 1 - q) (by omega) (by omega) (by omega)) hl) (hA q c (by omega) hq (by omega))
 obtain rfl : q = c := by omega
 exact hl
omit [Inhabited α] in
theorem Y85 (hS : SWO lt) {x y z : α} (h1 : lt y x = false) (h2 : lt y z = true) : lt x z = true := by
 cases e : lt x z with
 | true => rfl
 | false => rw [hS.ntrans _ _ _ h1 e] at h2; cases h2
omit [Inhabited α] in
theorem Y6d (hS : SWO lt) {x y z : α} (h1 : lt x y = true) (h2 : lt z y = false) : lt x z = true := by
 cases e : lt x z with
 | true => rfl
 | false => rw [hS.ntrans _ _ _ e h2] at h1; cases h1
theorem Cut.no (hS : SWO lt) (M : Mid a m b mid n s0 r0) {s r c : Nat} (hc : Cut lt n s0 r0 s r d) (hA : SortedIn lt a m d) (hB : SortedIn lt m b d) (h1 : s <= c) (h2 : c < r) (hl : lt d[n - 1 - c]! d[c]! = true) : Cut lt n s0 r0 s c d := by
 have := hc.hs; have := hc.hr; have := M.ham; have := M.hmb; have := M.hmid; have := M.hn; have := M.h1; have := M.h2
 refine ⟨hc.hs, h1, by omega, hc.lo, fun q q1 q2 => ?_⟩
 rcases jD c q with hq | hq
 ·have hM := M.hs
  split at hM
  ·exact Y6d hS (Y85 hS (hB (n - 1 - q) (n - 1 - c) (by omega) (by omega) (by omega)) hl) (hA c q (by omega) hq (by omega))
  exact Y6d hS (Y85 hS (hB (n - 1 - q) (n - 1 - c) (by omega) (by omega) (by omega)) hl) (hA c q (by omega) hq (by omega))
 obtain rfl : q = c := by omega
 exact hl
theorem Mid.bounds (M : Mid a m b mid n s0 r0) {s : Nat} (h1 : s0 <= s) (h2 : s <= r0) : a <= s /\ s <= m /\ s <= mid /\ m <= n - s /\ n - s <= b /\ mid <= n - s /\ a < mid /\ mid < b /\ s + ((n - s) - m) = mid /\ a <= s0 /\ r0 <= m := by
 have := M.ham; have := M.hmb; have := M.hmid; have := M.hn; have hM := M.hs; have := M.h1; have := M.h2
 split at hM <;> omega
theorem Mid.rotated (hS : SWO lt) (M : Mid a m b mid n s0 r0) {s : Nat} (hc : Cut lt n s0 r0 s s d) (hA : SortedIn lt a m d) (hB : SortedIn lt m b d) {d1 : Array α} (hR : Rot s m (n - s) d d1) :
  SortedIn lt a s d1 /\ SortedIn lt s mid d1 /\ SortedIn lt mid (n - s) d1 /\ SortedIn lt (n - s) b d1 /\ ∀ p q, a <= p -> p < mid -> mid <= q -> q < b -> lt d1[q]! d1[p]! = false := by
 obtain ⟨b1, b2, b3, b4, b5, b6, b7, b8, b9, b10, b11⟩ := M.bounds hc.hs hc.hr
 have hM := M.hs; have hn := M.hn; have hmid := M.hmid
 have g1 : ∀ p, p < s -> d1[p]! = d[p]! := fun p hp => by rw [hR.1]; congr 1; unfold Z5w; rw [if_neg (by omega)]
 have g2 : ∀ p, s <= p -> p < mid -> d1[p]! = d[p + (m - s)]! := fun p h1 h2 => by rw [hR.1]; congr 1; unfold Z5w; rw [if_pos (by omega), if_pos (by omega)]
 have g3 : ∀ p, mid <= p -> p < n - s -> d1[p]! = d[p - (mid - s)]! := fun p h1 h2 => by rw [hR.1]; congr 1; unfold Z5w; rw [if_pos (by omega), if_neg (by omega)]; omega
 have g4 : ∀ p, n - s <= p -> d1[p]! = d[p]! := fun p hp => by rw [hR.1]; congr 1; unfold Z5w; rw [if_neg (by omega)]
 have nle : ∀ x y, a <= x -> x <= y -> y < m -> lt d[y]! d[x]! = false := fun x y h1 h2 h3 => by
  rcases jD x y with h | h
  ·exact hA x y h1 h h3
  obtain rfl : x = y := by omega
  exact hS.irrefl _
 have nle' : ∀ x y, m <= x -> x <= y -> y < b -> lt d[y]! d[x]! = false := fun x y h1 h2 h3 => by
  rcases jD x y with h | h
  ·exact hB x y h1 h h3
  obtain rfl : x = y := by omega
  exact hS.irrefl _
 -- the left run's beginning against the right run's end
 have c1 : ∀ x y, a <= x -> x < s -> n - s <= y -> y < b -> lt d[y]! d[x]! = false := fun x y h1 h2 h3 h4 => by
  have hs0 : s0 < s := by split at hM <;> omega
  have h := hc.lo (s - 1) (by omega) (by omega)
  rw [show n - 1 - (s - 1) = n - s by omega] at h
  exact hS.ntrans _ _ _ (hS.ntrans _ _ _ (nle' (n - s) y (by omega) h3 h4) h) (nle x (s - 1) h1 (by omega) (by omega))
 -- the right run's beginning against the left run's end
 have c2 : ∀ x y, m <= x -> x < n - s -> s <= y -> y < m -> lt d[y]! d[x]! = false := fun x y h1 h2 h3 h4 => by
  have hs0 : s < r0 := by split at hM <;> omega
  have h := hS.asymmA (hc.up s (by omega) hs0)
  rw [show n - 1 - s = n - s - 1 by omega] at h
  exact hS.ntrans _ _ _ (hS.ntrans _ _ _ (nle s y (by omega) h3 h4) h) (nle' x (n - s - 1) h1 (by omega) (by omega))
 refine ⟨fun x y h1 h2 h3 => ?_, fun x y h1 h2 h3 => ?_, fun x y h1 h2 h3 => ?_, fun x y h1 h2 h3 => ?_, fun p q h1 h2 h3 h4 => ?_⟩
 ·rw [g1 x (by omega), g1 y h3]; exact hA x y h1 h2 (by omega)
 ·rw [g2 x h1 (by omega), g2 y (by omega) h3]; exact hB _ _ (by omega) (by omega) (by omega)
 ·rw [g3 x h1 (by omega), g3 y (by omega) h3]; exact hA _ _ (by omega) (by omega) (by omega)
 ·rw [g4 x h1, g4 y (by omega)]; exact hB _ _ (by omega) h2 h3
 rcases jD p s with hp | hp <;> rcases jD q (n - s) with hq | hq
 ·rw [g1 p hp, g3 q h3 hq]; exact nle _ _ h1 (by omega) (by omega)
 ·rw [g1 p hp, g4 q hq]; exact c1 _ _ h1 hp hq h4
 ·rw [g2 p hp h2, g3 q h3 hq]; exact c2 _ _ (by omega) (by omega) (by omega) (by omega)
 rw [g2 p hp h2, g4 q hq]; exact nle' _ _ (by omega) (by omega) h4
end
theorem Merged.sorted {a b : Nat} {d : Array α} (h : SortedIn lt a b d) : Merged lt a b d d := ⟨permIn_refl _ _ _, h⟩
theorem SortedIn.part {a b a' b' : Nat} {d : Array α} (h : SortedIn lt a b d) (h1 : a <= a') (h2 : b' <= b) : SortedIn lt a' b' d := fun x y k1 k2 k3 => h x y (by omega) k2 (by omega)
theorem SortedIn.same {a b : Nat} {d d' : Array α} (h : SortedIn lt a b d) (he : ∀ i, a <= i -> i < b -> d'[i]! = d[i]!) : SortedIn lt a b d' := fun x y k1 k2 k3 => by rw [he x k1 (by omega), he y (by omega) k3]; exact h x y k1 k2 k3
theorem Merged.halves {a mid b lo hi : Nat} {d d1 d2 d3 : Array α} (h0 : lo <= hi /\ a <= lo /\ hi <= b /\ a <= mid /\ mid <= b /\ b <= d.size) (hp : PermIn lo hi d d1) (hx : ∀ p q, a <= p -> p < mid -> mid <= q -> q < b -> lt d1[q]! d1[p]! = false)
  (h1 : Merged lt a mid d1 d2) (h2 : Merged lt mid b d2 d3) : Merged lt a b d d3 := by
 obtain ⟨k1, k2, k3, k4, k5, k6⟩ := h0
 have s1 : d1.size = d.size := hp.1
 have s2 : d2.size = d1.size := h1.1.1
 have s3 : d3.size = d2.size := h2.1.1
 refine ⟨permIn_trans _ _ _ _ _ (permIn_mono _ _ lo hi a b k2 k3 k6 hp) (permIn_trans _ _ _ _ _ (permIn_mono _ _ a mid a b (nR _) k5 (by omega) h1.1) (permIn_mono _ _ mid b a b k4 (nR _) (by omega) h2.1)), fun x y y1 y2 y3 => ?_⟩
 have e1 : ∀ p, p < mid -> d3[p]! = d2[p]! := fun p h => h2.1.2.1 p (.inl h)
 have e2 : ∀ p, mid <= p -> d2[p]! = d1[p]! := fun p h => h1.1.2.1 p (.inr h)
 rcases jD y mid with hy | hy
 ·rw [e1 x (by omega), e1 y hy]; exact h1.2 x y y1 y2 hy
 rcases jD x mid with hx' | hx'
 ·rw [e1 x hx']
  have hq : ∀ i, mid <= i -> i < b -> lt d3[i]! d2[x]! = false := by
   refine permIn_all d2 d3 mid b (fun z => lt z d2[x]! = false) (by omega) h2.1 fun q q1 q2 => ?_
   rw [e2 q q1]
   have := permIn_all d1 d2 a mid (fun z => lt d1[q]! z = false) (by omega) h1.1 (fun p p1 p2 => hx p q p1 p2 q1 q2)
   exact this x y1 hx'
  exact hq y hy y3
 exact h2.2 x y hx' y2 y3
def Blocks (lt : α -> α -> Bool) (bs a n : Nat) (d : Array α) : Prop := ∀ i j, a <= i -> i < j -> j < n -> i / bs = j / bs -> lt d[j]! d[i]! = false
theorem Blocks.sorted {bs t n e : Nat} {d : Array α} (h : Blocks lt bs (t * bs) n d) (_hb : 0 < bs) (he : e <= (t + 1) * bs) (hn : e <= n) : SortedIn lt (t * bs) e d := by
 intro i j h1 h2 h3
 rw [jA, jF] at he
 refine h i j h1 h2 (by omega) ?_
 have e1 : i / bs = t := jC h1 (by rw [jA, jF]; omega)
 have e2 : j / bs = t := jC (by omega) (by rw [jA, jF]; omega)
 rw [e1, e2]
theorem Blocks.more {bs t e : Nat} {d d' : Array α} (hb : 0 < bs) (h : Blocks lt bs 0 (t * bs) d) (hp : Merged lt (t * bs) e d d') : Blocks lt bs 0 e d' := by
 intro i j _ h2 h3 h4
 have same : ∀ p, p < t * bs -> d'[p]! = d[p]! := fun p hp' => hp.1.2.1 p (.inl hp')
 rcases jD j (t * bs) with hj | hj
 ·rw [same i (by omega), same j hj]; exact h i j (Nat.zero_le _) h2 hj h4
 rcases jD i (t * bs) with hi | hi
 ·have e1 : i / bs < t := by rw [Nat.div_lt_iff_lt_mul hb]; exact hi
  have e2 : t <= j / bs := by rw [Nat.le_div_iff_mul_le hb]; exact hj
  omega
 exact hp.2 i j hi h2 h3
theorem Blocks.rest {bs a a' n : Nat} {d d' : Array α} (h : Blocks lt bs a n d) (haa : a <= a') (hp : ∀ i, a' <= i -> d'[i]! = d[i]!) : Blocks lt bs a' n d' := fun i j h1 h2 h3 h4 => by
 rw [hp i h1, hp j (by omega)]; exact h i j (by omega) h2 h3 h4
theorem Blocks.whole {bs n : Nat} {d : Array α} (h : Blocks lt bs 0 n d) (hn : n <= bs) : SortedIn lt 0 n d := fun i j h1 h2 h3 => h i j h1 h2 h3 (by rw [jB (by omega), jB (by omega)])
theorem Blocks.last {bs t n : Nat} {d : Array α} (hb : 0 < bs) (h : Blocks lt (2 * bs) 0 (t * (2 * bs)) d) (hr : Blocks lt bs (t * (2 * bs)) n d) (hn : n <= t * (2 * bs) + bs) : Blocks lt (2 * bs) 0 n d := by
 refine Blocks.more (t := t) (by omega) h ⟨permIn_refl _ _ _, ?_⟩
 have e : t * (2 * bs) = (t * 2) * bs := (Nat.mul_assoc _ _ _).symm
 have hr' : Blocks lt bs (t * 2 * bs) n d := e ▸ hr
 rw [e]
 exact hr'.sorted hb (by rw [jA, jF]; omega) (nR _)
theorem Blocks.pair {bs t n e : Nat} {d : Array α} (hb : 0 < bs) (h : Blocks lt bs (t * (2 * bs)) n d) (h1 : t * (2 * bs) + bs <= n) (he : e <= t * (2 * bs) + 2 * bs) (hn : e <= n) :
  SortedIn lt (t * (2 * bs)) (t * (2 * bs) + bs) d /\ SortedIn lt (t * (2 * bs) + bs) e d := by
 have e1 : t * (2 * bs) = (t * 2) * bs := (Nat.mul_assoc _ _ _).symm
 have e2 : t * (2 * bs) + bs = (t * 2 + 1) * bs := by rw [e1, jA, jF]
 have h' : Blocks lt bs (t * 2 * bs) n d := e1 ▸ h
 have h'' : Blocks lt bs ((t * 2 + 1) * bs) n d := fun i j k1 k2 k3 k4 => h i j (by omega) k2 k3 k4
 constructor
 ·rw [e2, e1]
  exact h'.sorted hb (nR _) (by omega)
 rw [e2]
 exact h''.sorted hb (by rw [jA _ 1, jF]; omega) hn
end Go.Proofs.YtlopccnehgolnacGreatDoor
