import Derived.Test.YtlopccnehgolnacGreatDoorSpanA
import Derived.Lib.QuietBelow
namespace Go.Proofs.YtlopccnehgolnacGreatDoor
open Go.RowKit Rb
abbrev Txt := List UInt8
def Z1e (s : Txt) : Bool := s.all (fun c => decide (97 <= c.toNat) && decide (c.toNat <= 122)) && (decide (1 <= s.length) && decide (s.length <= 8))
structure Cl where
 no : Bool
 rs : List Rg
structure Rl where
 cells : List Cl
 out : Int
structure Tb where
 name : Txt
 pol : Int
 comp : Bool
 ins : List Txt
 rules : List Rl
def Z1f (c : Cl) : Bool := decide (c.rs.length <= 4) && Z3w c.rs && !(c.no && decide (c.rs.length = 0))
def Z0o (n : Nat) (r : Rl) : Bool := Z0z r.out && decide (r.cells.length = n) && r.cells.all Z1f
def Z2x : List Txt -> List Txt -> Bool
 | _, [] => true
 | seen, s :: t => Z1e s && !seen.contains s && Z2x (seen ++ [s]) t
def Z32 (t : Tb) : Bool := Z1e t.name && decide (1 <= t.pol) && decide (t.pol <= 7) && decide (1 <= t.ins.length) && decide (t.ins.length <= 3) && decide (1 <= t.rules.length) && decide (t.rules.length <= 6)
def Z0s (t : Tb) : Bool := Z32 t && Z2x [] t.ins && t.rules.all (Z0o t.ins.length)
def Z5m (c : Cl) (n : Int) : Bool := decide (c.rs.length = 0) && !c.no || (hasL c.rs n != c.no)
def Z1l : List Cl -> List Int -> Bool
 | [], [] => true
 | c :: cs, n :: ns => Z5m c n && Z1l cs ns
 | _, _ => false
def Z26 (r : Rl) (ns : List Int) : Bool := Z1l r.cells ns
def Z9p (rs : List Rl) (ns : List Int) (i : Nat) : Bool := match rs[i]? with | some r => Z26 r ns | none => false
def Z1v (rs : List Rl) (ns : List Int) (k : Nat) : List Int := ((List.range k).filter (Z9p rs ns)).map fun i => ((i : Nat) : Int)
def Z3i (rs : List Rl) (ns : List Int) : List Int := Z1v rs ns rs.length
theorem Z61 : ∀ {cs : List Cl} {ns : List Int}, Z1l cs ns = true -> cs.length = ns.length
 | [], [], _ => rfl
 | c :: cs, n :: ns, h => by
  simp only [Z1l, L0t] at h
  simp [Z61 h.2]
 | [], _ :: _, h => by simp [Z1l] at h
 | _ :: _, [], h => by simp [Z1l] at h
def rCl : Rd Cl where
 k := 2
 bytes := 32
 rel w S cs x := ∃ v, cs = [.bool x.no, v] /\ (rSl rRg).rel w S [v] x.rs
 len h := by obtain ⟨v, rfl, _⟩ := h; rfl
 keep h hk := by obtain ⟨v, e, h⟩ := h; exact ⟨v, e, (rSl rRg).keep h hk⟩
 mono h hk := by obtain ⟨v, e, h⟩ := h; exact ⟨v, e, (rSl rRg).mono h hk⟩
 one h u hu := by
  obtain ⟨v, rfl, h⟩ := h
  simp at hu
  rcases hu with rfl | rfl
  ·rfl
  exact (rSl rRg).one h _ (by simp)
def rRl : Rd Rl where
 k := 2
 bytes := 32
 rel w S cs x := ∃ v, cs = [v, .int .i64 x.out] /\ InI x.out /\ (rSl rCl).rel w S [v] x.cells
 len h := by obtain ⟨v, rfl, _⟩ := h; rfl
 keep h hk := by obtain ⟨v, e, i, h⟩ := h; exact ⟨v, e, i, (rSl rCl).keep h hk⟩
 mono h hk := by obtain ⟨v, e, i, h⟩ := h; exact ⟨v, e, i, (rSl rCl).mono h hk⟩
 one h u hu := by
  obtain ⟨v, rfl, i, h⟩ := h
  simp at hu
  rcases hu with rfl | rfl
  ·exact (rSl rCl).one h _ (by simp)
  rfl
def rTb : Rd Tb where
 k := 5
 bytes := 80
 rel w S cs x := ∃ v u, cs = [sq x.name, .int .i64 x.pol, .bool x.comp, v, u] /\ x.name.length <= 140737488355328 /\ InI x.pol /\ (rSl rStr).rel w S [v] x.ins /\ (rSl rRl).rel w S [u] x.rules
 len h := by obtain ⟨v, u, rfl, _⟩ := h; rfl
 keep h hk := by obtain ⟨v, u, e, i, j, h1, h2⟩ := h; exact ⟨v, u, e, i, j, (rSl rStr).keep h1 hk, (rSl rRl).keep h2 hk⟩
 mono h hk := by obtain ⟨v, u, e, i, j, h1, h2⟩ := h; exact ⟨v, u, e, i, j, (rSl rStr).mono h1 hk, (rSl rRl).mono h2 hk⟩
 one h u hu := by
  obtain ⟨v, u', rfl, i, j, h1, h2⟩ := h
  simp at hu
  rcases hu with rfl | rfl | rfl | rfl | rfl
  ·rfl
  ·rfl
  ·rfl
  ·exact (rSl rStr).one h1 _ (by simp)
  exact (rSl rRl).one h2 _ (by simp)
section
variable {α : Type} {R : Rd α} {w : World} {S : Nat -> Prop} {A : Option Addr} {l : List α}
theorem rSl.elems {v : Value} (h : (rSl R).rel w S [v] l) : ∃ A c, v = .slice A l.length c /\ l.length <= c /\ c <= maxLen /\ l.length * R.bytes <= 140737488355328 /\ Elems R w S A l := by
 obtain ⟨A, c, hv, h1, h2, h3, h4⟩ := h
 simp only [L1f, and_true] at hv
 exact ⟨A, c, hv, h1, h2, h3, h4⟩
theorem Elems.intAt {l : List Int} (h : Elems rInt w S A l) {i : Nat} (hi : i < l.length) : ∃ b off n, A = some (zn b off) /\ S b /\ b < w.heap.size /\ l[i]? = some n /\ InI n /\ w.cell? (zn b (off + i)) = some (.int .i64 n) := by
 obtain ⟨b, off, es, hA, hS, hb, ⟨rfl, h1⟩, hc⟩ := h i l[i] (L0f hi)
 exact ⟨b, off, l[i], hA, hS, hb, L0f hi, h1, by have := hc 0 _ rfl; simpa [rInt] using this⟩
theorem Elems.str {l : List Txt} (h : Elems rStr w S A l) {i : Nat} (hi : i < l.length) : ∃ b off s, A = some (zn b off) /\ S b /\ b < w.heap.size /\ l[i]? = some s /\ s.length <= 140737488355328 /\ w.cell? (zn b (off + i)) = some (sq s) := by
 obtain ⟨b, off, es, hA, hS, hb, ⟨rfl, h1⟩, hc⟩ := h i l[i] (L0f hi)
 exact ⟨b, off, l[i], hA, hS, hb, L0f hi, h1, by have := hc 0 _ rfl; simpa [rStr] using this⟩
theorem Elems.cl {l : List Cl} (h : Elems rCl w S A l) {i : Nat} (hi : i < l.length) : ∃ b off x v, A = some (zn b off) /\ S b /\ b < w.heap.size /\ l[i]? = some x /\ (rSl rRg).rel w S [v] x.rs /\
  w.cell? (zn b (off + i * 2)) = some (.bool x.no) /\ w.cell? (zn b (off + i * 2 + 1)) = some v := by
 obtain ⟨b, off, es, hA, hS, hb, ⟨v, rfl, h1⟩, hc⟩ := h i l[i] (L0f hi)
 exact ⟨b, off, l[i], v, hA, hS, hb, L0f hi, h1, hc 0 _ rfl, hc 1 _ rfl⟩
theorem Elems.rl {l : List Rl} (h : Elems rRl w S A l) {i : Nat} (hi : i < l.length) : ∃ b off x v, A = some (zn b off) /\ S b /\ b < w.heap.size /\ l[i]? = some x /\ InI x.out /\ (rSl rCl).rel w S [v] x.cells /\
  w.cell? (zn b (off + i * 2)) = some v /\ w.cell? (zn b (off + i * 2 + 1)) = some (.int .i64 x.out) := by
 obtain ⟨b, off, es, hA, hS, hb, ⟨v, rfl, h0, h1⟩, hc⟩ := h i l[i] (L0f hi)
 exact ⟨b, off, l[i], v, hA, hS, hb, L0f hi, h0, h1, hc 0 _ rfl, hc 1 _ rfl⟩
end
def Z7w {α : Type} [BEq α] (l : List α) (s : α) : Int := match l.findIdx? (· == s) with | some i => i | none => -1
@[go_sem] theorem X2f {w : World} {a : Addr} (d : Nat) (os : Array Obj) (h : a.block < w.heap.size) : (Go.Sort.grow (redrawn w d) os).cell? a = w.cell? a :=
 (below_regrown w d os).cell h
theorem el_I : ElemOf Tryz.prog rInt 22 3 := .mk' Tryz.underlying22 (z := .int .i64 0) (k := 1) (b := 8) (by kernel_rfl) rfl rfl rfl (by decide) (by decide)
theorem Y57 : Flat rRg := fun _ _ _ _ _ _ h => h
theorem Y0j (rs : List Rl) (ns : List Int) (k : Nat) : Z1v rs ns (k + 1) = Z1v rs ns k ++ (if Z9p rs ns k then [(k : Int)] else []) := by
 unfold Z1v
 rw [List.range_succ, L3b, L1z]
 cases h : Z9p rs ns k <;> simp [h]
theorem Z42 (rs : List Rl) (ns : List Int) (k : Nat) : (Z1v rs ns k).length <= k := by
 unfold Z1v
 rw [L1h]
 exact L0h (L2e _ _) (by simp)
theorem Rd.lit {α : Type} {R : Rd α} {w : World} {S : Nat -> Prop} {xs : List α} {cells : List Value} {n m : Nat} (t : TypeId) (hn : w.heap.size = n) (hm : xs.length = m) (_hk : 0 < R.k) (hl : cells.length = m * R.k) (hb : m * R.bytes <= 140737488355328) (hx : m <= maxLen)
  (h : ∀ i x, xs[i]? = some x -> R.rel w S ((cells.drop (i * R.k)).take R.k) x) : (rSl R).rel (w.alloc (.cells cells.toArray t)) (fun _ => True) [.slice (some (zn n 0)) m m] xs := by
 subst hn; subst hm
 refine ⟨_, _, rfl, L0g _, hx, hb, fun i x hi => ⟨w.heap.size, 0, (cells.drop (i * R.k)).take R.k, rfl, trivial, by simp, R.mono (Rd.alloc (h i x hi) _) fun _ _ _ => trivial, fun j u hu => ?_⟩⟩
 rw [L3a] at hu
 split at hu
 ·rw [L1p] at hu
  rw [L0b]
  simpa using hu
 cases hu
theorem Rd.lit1 {α : Type} {R : Rd α} {w : World} {S : Nat -> Prop} {x : α} {cells : List Value} {n : Nat} (t : TypeId) (hn : w.heap.size = n) (hk : 0 < R.k) (hb : R.bytes <= 140737488355328)
  (h : R.rel w S cells x) : (rSl R).rel (w.alloc (.cells cells.toArray t)) (fun _ => True) [.slice (some (zn n 0)) 1 1] [x] := by
 have hl := R.len h
 refine Rd.lit (S := S) t hn rfl hk (by rw [hl]; omega) (by omega) (by decide) fun i y hy => ?_
 match i, hy with
 | 0, hy =>
  obtain rfl : x = y := by simpa using hy
  rw [Nat.zero_mul, L3h, L0l (by omega)]
  exact h
def rRaw (k bytes : Nat) : Rd (List Value) where
 k := k
 bytes := bytes
 rel _ _ cs x := cs = x /\ x.length = k /\ ∀ u ∈ x, u.oneCell' = true
 len h := by rw [h.1]; exact h.2.1
 keep h _ := h
 mono h _ := h
 one h u hu := by rw [h.1] at hu; exact h.2.2 u hu
theorem X04 (k b : Nat) : Flat (rRaw k b) := fun _ _ _ _ _ _ h => h
section
variable {α : Type} {R : Rd α} {w : World} {S : Nat -> Prop} {A : Option Addr}
theorem Elems.raw {l : List α} (h : Elems R w S A l) : ∃ raws : List (List Value), raws.length = l.length /\ Elems (rRaw R.k R.bytes) w S A raws /\ ∀ (i : Nat) p x, raws[i]? = some p -> l[i]? = some x -> R.rel w S p x := by
 have key : ∀ n, n <= l.length -> ∃ raws : List (List Value), raws.length = n /\ Elems (rRaw R.k R.bytes) w S A raws /\ ∀ (i : Nat) p x, raws[i]? = some p -> l[i]? = some x -> R.rel w S p x := by
  intro n
  induction n with
  | zero => exact fun _ => ⟨[], rfl, fun i x hx => by simp at hx, fun i p x hp => by simp at hp⟩
  | succ n ih =>
   intro hn
   obtain ⟨raws, h1, h2, h3⟩ := ih (by omega)
   obtain ⟨b, off, es, hA, hS, hb, hr, hc⟩ := h n l[n] (L0f (by omega))
   refine ⟨raws ++ [es], by simp [h1], fun i x hx => ?_, fun i p x hp hx => ?_⟩
   ·rcases L1r i raws.length with hi | hi
    ·rw [L1l hi] at hx
     exact h2 i x hx
    have : i = n := by
     have := (L0n.1 hx).1
     simp at this; omega
    subst this
    rw [<- h1] at hx
    obtain rfl : es = x := by simpa using hx
    exact ⟨b, off, es, hA, hS, hb, ⟨rfl, R.len hr, R.one hr⟩, hc⟩
   rcases L1r i raws.length with hi | hi
   ·rw [L1l hi] at hp
    exact h3 i p x hp hx
   have : i = n := by
    have := (L0n.1 hp).1
    simp at this; omega
   subst this
   rw [<- h1] at hp
   obtain rfl : es = p := by simpa using hp
   rw [L0f (by omega)] at hx
   obtain rfl := L0s hx
   exact hr
 exact key l.length (L0g _)
theorem Elems.unraw {l : List α} {raws : List (List Value)} {T : Nat -> Prop} (h : Elems (rRaw R.k R.bytes) w T A raws) (hl : raws.length = l.length) (hr : ∀ (i : Nat) p x, raws[i]? = some p -> l[i]? = some x -> R.rel w S p x) : Elems R w (fun b => S b \/ T b) A l := by
 intro i x hx
 have hi : i < raws.length := by rw [hl]; exact (L0n.1 hx).1
 obtain ⟨b, off, es, hA, hT, hb, ⟨rfl, _, _⟩, hc⟩ := h i raws[i] (L0f hi)
 exact ⟨b, off, raws[i], hA, .inr hT, hb, R.mono (hr i _ x (L0f hi) hx) (fun b hb _ => .inl hb), hc⟩
end
theorem X4k {w w' : World} {row : Option Nat} (hg : w.grownBy w' row) {q : Nat} (hq : q < w.heap.size) (hne : row ≠ some q) (o : Nat) :
  w'.cell? (zn q o) = w.cell? (zn q o) /\ w'.frozen? (zn q o) = w.frozen? (zn q o) :=
 ⟨L1d (w := w) (hg.block q hq fun e => hne e.symm), L1a (w := w) (hg.block q hq fun e => hne e.symm)⟩
theorem X4l (w : World) (p : Addr) (u : Value) : w.grownBy (w.setCell p u) (some p.block) :=
 ⟨rfl, rfl, rfl, by simp [World.setCell], fun k _ hne => L3 _ _ _ _ (fun e => hne (by rw [e]))⟩
theorem Own.keptF {α : Type} {R : Rd α} {e : TypeId} {w w' : World} {base : Nat} {S0 : Nat -> Prop} {v : Value} {xs : List α} {row : Option Nat} (h : Own R e w base S0 v xs) (hF : Flat R) (hg : w.grownBy w' row) (hne : v.ownBlock = none \/ v.ownBlock ≠ row) :
  Own R e w' base (fun _ => False) v xs := by
 obtain ⟨S, ⟨cells, h1, _, h3, h4⟩, _⟩ := h
 exact ⟨fun _ => False, ⟨cells, h1.kept hg hne, fun _ _ h => h, h3, fun i x hx => hF _ _ _ _ _ _ (h4 i x hx)⟩, fun _ h => h.elim⟩
