
/- Words for memory: a value reads as a datum (numbers, texts, lists, structs) out of allowed blocks; a row of the call's own reads as a list. No program is named. -/
import Derived.WalkKit
import Derived.Maps.AppendAt
import Derived.Deep.AppendLies
import Derived.Deep.Draws
namespace Go.Proofs.YtlopccnehgolnabDoor
open Go.RowKit

def InI (x : Int) : Prop := -9223372036854775808 ≤ x ∧ x ≤ 9223372036854775807

/-- The blocks of S that w has are in w' as they were. -/
def Keeps (S : Nat → Prop) (w w' : World) : Prop := ∀ b, S b → b < w.heap.size → w'.heap[b]? = w.heap[b]?

theorem Keeps.cell {S : Nat → Prop} {w w' : World} (h : Keeps S w w') {a : Addr} {u : Value} (hs : S a.block) (hc : w.cell? a = some u) : w'.cell? a = some u :=
  (World.cell?_of_block (h a.block hs (World.block_lt_of_cell? w a hc))).trans hc

/-- How cells read as a datum: by the blocks of S alone. -/
structure Rd (α : Type) where
  k : Nat
  bytes : Nat
  rel : World → (Nat → Prop) → List Value → α → Prop
  len : ∀ {w S cs x}, rel w S cs x → cs.length = k
  keep : ∀ {w w' S cs x}, rel w S cs x → Keeps S w w' → rel w' S cs x
  mono : ∀ {w S S' cs x}, rel w S cs x → (∀ b, S b → b < w.heap.size → S' b) → rel w S' cs x
  one : ∀ {w S cs x}, rel w S cs x → ∀ u ∈ cs, u.oneCell' = true

def rInt : Rd Int where
  k := 1
  bytes := 8
  rel _ _ cs x := cs = [.int .i64 x] ∧ InI x
  len h := by rw [h.1]; rfl
  keep h _ := h
  mono h _ := h
  one h u hu := by rw [h.1] at hu; simp at hu; subst hu; rfl

def rBool : Rd Bool where
  k := 1
  bytes := 1
  rel _ _ cs x := cs = [.bool x]
  len h := by rw [h]; rfl
  keep h _ := h
  mono h _ := h
  one h u hu := by rw [h] at hu; simp at hu; subst hu; rfl

/-- Texts as lists of bytes. -/
def rStr : Rd (List UInt8) where
  k := 1
  bytes := 16
  rel _ _ cs x := cs = [.string ⟨x.toArray⟩] ∧ x.length ≤ 140737488355328
  len h := by rw [h.1]; rfl
  keep h _ := h
  mono h _ := h
  one h u hu := by rw [h.1] at hu; simp at hu; subst hu; rfl

/-- Two data side by side. -/
def rPair {α β : Type} (R : Rd α) (T : Rd β) : Rd (α × β) where
  k := R.k + T.k
  bytes := R.bytes + T.bytes
  rel w S cs x := ∃ as bs, cs = as ++ bs ∧ R.rel w S as x.1 ∧ T.rel w S bs x.2
  len h := by obtain ⟨as, bs, rfl, h1, h2⟩ := h; rw [List.length_append, R.len h1, T.len h2]
  keep h hk := by obtain ⟨as, bs, rfl, h1, h2⟩ := h; exact ⟨as, bs, rfl, R.keep h1 hk, T.keep h2 hk⟩
  mono h hk := by obtain ⟨as, bs, rfl, h1, h2⟩ := h; exact ⟨as, bs, rfl, R.mono h1 hk, T.mono h2 hk⟩
  one h u hu := by
    obtain ⟨as, bs, rfl, h1, h2⟩ := h
    rcases List.mem_append.1 hu with hu | hu
    · exact R.one h1 u hu
    · exact T.one h2 u hu

/-- Another type for the same data; 'b': the bytes of an element in memory. -/
def rMap {α β : Type} (R : Rd α) (b : Nat) (f : β → α) : Rd β where
  k := R.k
  bytes := b
  rel w S cs x := R.rel w S cs (f x)
  len h := R.len h
  keep h hk := R.keep h hk
  mono h hk := R.mono h hk
  one h u hu := R.one h u hu

/-- The elements of a slice: element i's cells at 'off + i * k'. -/
def Elems {α : Type} (R : Rd α) (w : World) (S : Nat → Prop) (A : Option Addr) (xs : List α) : Prop :=
  ∀ i x, xs[i]? = some x → ∃ b off es, A = some ⟨b, off, none⟩ ∧ S b ∧ b < w.heap.size ∧ R.rel w S es x ∧ ∀ j u, es[j]? = some u → w.cell? ⟨b, off + i * R.k + j, none⟩ = some u

def rSl {α : Type} (R : Rd α) : Rd (List α) where
  k := 1
  bytes := 24
  rel w S cs xs := ∃ A c, cs = [.slice A xs.length c] ∧ xs.length ≤ c ∧ c ≤ maxLen ∧ xs.length * R.bytes ≤ 140737488355328 ∧ Elems R w S A xs
  len h := by obtain ⟨A, c, rfl, _⟩ := h; rfl
  keep := by
    rintro w w' S cs xs ⟨A, c, rfl, h1, h2, h3, h4⟩ hk
    refine ⟨A, c, rfl, h1, h2, h3, fun i x hx => ?_⟩
    obtain ⟨b, off, es, hA, hS, hb, hr, hc⟩ := h4 i x hx
    refine ⟨b, off, es, hA, hS, ?_, R.keep hr hk, fun j u hu => hk.cell (a := ⟨b, off + i * R.k + j, none⟩) hS (hc j u hu)⟩
    have := hk b hS hb
    rcases Nat.lt_or_ge b w'.heap.size with hlt | hge
    · exact hlt
    · rw [Array.getElem?_eq_none hge, Array.getElem?_eq_getElem hb] at this; cases this
  mono := by
    rintro w S S' cs xs ⟨A, c, rfl, h1, h2, h3, h4⟩ hk
    refine ⟨A, c, rfl, h1, h2, h3, fun i x hx => ?_⟩
    obtain ⟨b, off, es, hA, hS, hb, hr, hc⟩ := h4 i x hx
    exact ⟨b, off, es, hA, hk b hS hb, hb, R.mono hr hk, hc⟩
  one h u hu := by obtain ⟨A, c, rfl, _⟩ := h; simp at hu; subst hu; rfl

/-- S, and the blocks from N on. -/
def Up (S : Nat → Prop) (N : Nat) : Nat → Prop := fun b => S b ∨ N ≤ b

section
variable {α : Type} {R : Rd α} {w w' : World} {S S' : Nat → Prop} {cs : List Value} {x : α} {N M B : Nat}

theorem Keeps.of_below (h : Below w.heap.size w w') : Keeps S w w' := fun b _ hb => h.block b hb
theorem Keeps.of_belowB (h : Below B w w') (hS : ∀ b, S b → b < B) : Keeps S w w' := fun b hb _ => h.block b (hS b hb)
theorem Keeps.alloc (o : Obj) : Keeps S w (w.alloc o) := fun b _ hb => Below.heap_alloc w o b hb
theorem Keeps.setCell {p : Addr} (hp : ¬ S p.block) (u : Value) : Keeps S w (w.setCell p u) := fun b hb _ => Below.heap_setCell w p u b (fun e => hp (e ▸ hb))
theorem Keeps.grown {row : Option Nat} (h : w.grownBy w' row) (hr : ∀ g, row = some g → ¬ S g) : Keeps S w w' := fun b hb hlt => h.block b hlt (fun e => hr b e.symm hb)
theorem Keeps.trans {w'' : World} (h : Keeps S w w') (k : Keeps S w' w'') : Keeps S w w'' := fun b hb hlt => by
  have h1 := h b hb hlt
  have : b < w'.heap.size := by
    rcases Nat.lt_or_ge b w'.heap.size with hl | hge
    · exact hl
    · rw [Array.getElem?_eq_none hge, Array.getElem?_eq_getElem hlt] at h1; cases h1
  exact (k b hb this).trans h1
theorem Rd.below (h : R.rel w S cs x) (hb : Below w.heap.size w w') : R.rel w' S cs x := R.keep h (.of_below hb)
theorem Rd.alloc (h : R.rel w S cs x) (o : Obj) : R.rel (w.alloc o) S cs x := R.keep h (.alloc o)
theorem Rd.drewN (h : R.rel w S cs x) (n : Nat) : R.rel (w.drewN n) S cs x := R.keep h fun _ _ _ => rfl
theorem Rd.drew (h : R.rel w S cs x) : R.rel w.drew S cs x := R.keep h fun _ _ _ => rfl
theorem Rd.up (h : R.rel w S cs x) : R.rel w (Up S N) cs x := R.mono h fun _ hb _ => .inl hb
theorem Rd.upup (h : R.rel w (Up S N) cs x) (hN : M ≤ N) : R.rel w (Up S M) cs x := R.mono h fun _ hb _ => hb.imp id (Nat.le_trans hN)
end

section
variable {α : Type} {R : Rd α} {e : TypeId}
/-- What the program's tables say of a slice type and its elements. -/
structure ElemOf {α : Type} (P : Program) (R : Rd α) (t e : TypeId) : Prop where
  ht : P.underlying t = some (.slice e)
  hi : ∃ (i : TypeInfo) (z : Value), P.info? e = some i ∧ i.zero = some z ∧ i.size = R.k ∧ i.bytes = R.bytes ∧ z.cells.size = R.k
  hk : 0 < R.k
  hb : 0 < R.bytes

theorem ElemOf.mk' {P : Program} {t : TypeId} (ht : P.underlying t = some (.slice e)) {z : Value} {k b : Nat} (h : (P.info? e).map (fun i => (i.zero, i.size, i.bytes)) = some (some z, k, b))
    (h1 : k = R.k) (h2 : b = R.bytes) (h3 : z.cells.size = R.k) (h4 : 0 < R.k) (h5 : 0 < R.bytes) : ElemOf P R t e := by
  obtain ⟨i, hi, hz, hs, hb⟩ := info_parts h
  exact ⟨ht, ⟨i, z, hi, hz, hs.trans h1, hb.trans h2, h3⟩, h4, h5⟩

end

/-- A row of the call's own, from block 'base' on, reads as xs; the elements by the blocks of S alone, which the row is not one of. -/
def OwnS {α : Type} (R : Rd α) (e : TypeId) (w : World) (base : Nat) (S : Nat → Prop) (v : Value) (xs : List α) : Prop :=
  ∃ cells, w.ownsRow base e R.k v xs.length cells ∧ (∀ g, v.ownBlock = some g → ¬ S g) ∧ (0 < R.k → xs.length * R.bytes ≤ 140737488355328) ∧
    ∀ i x, xs[i]? = some x → R.rel w S ((cells.drop (i * R.k)).take R.k) x
def Own {α : Type} (R : Rd α) (e : TypeId) (w : World) (base : Nat) (S0 : Nat → Prop) (v : Value) (xs : List α) : Prop :=
  ∃ S, OwnS R e w base S v xs ∧ ∀ b, S b → Up S0 base b

section
variable {α : Type} {R : Rd α} {e : TypeId} {w w' : World} {S S' S0 : Nat → Prop} {v : Value} {xs : List α} {x : α} {base : Nat}

theorem Own.nil (R : Rd α) (e : TypeId) (w : World) (base : Nat) (S0 : Nat → Prop) : Own R e w base S0 (.slice none 0 0) [] :=
  ⟨fun _ => False, ⟨[], World.ownsRow_nil w base e R.k, fun _ _ h => h, fun _ => by simp, fun i x h => by simp at h⟩, fun _ h => h.elim⟩

theorem OwnS.kept {row : Option Nat} (h : OwnS R e w base S v xs) (hg : w.grownBy w' row) (hne : v.ownBlock = none ∨ v.ownBlock ≠ row) (hS : ∀ g, row = some g → ¬ S g) : OwnS R e w' base S v xs := by
  obtain ⟨cells, h1, h2, h3, h4⟩ := h
  exact ⟨cells, h1.kept hg hne, h2, h3, fun i x hx => R.keep (h4 i x hx) (.grown hg hS)⟩
theorem Below.grownBy_ {row : Option Nat} (h : Below w.heap.size w w') : w.grownBy w' row := ⟨h.os, h.tape, h.output, h.size, fun k hk _ => h.block k hk⟩
theorem Own.below (h : Own R e w base S0 v xs) (hb : Below w.heap.size w w') : Own R e w' base S0 v xs := by
  obtain ⟨S, h1, h2⟩ := h
  exact ⟨S, h1.kept (Below.grownBy_ (row := none) hb) (by cases v.ownBlock <;> simp) (fun _ h => by cases h), h2⟩
theorem Own.alloc (h : Own R e w base S0 v xs) (o : Obj) : Own R e (w.alloc o) base S0 v xs := h.below ((Below.refl _ _).alloc (Nat.le_refl _) o)
theorem Own.drewN (h : Own R e w base S0 v xs) (n : Nat) : Own R e (w.drewN n) base S0 v xs := h.below ⟨rfl, rfl, rfl, Nat.le_refl _, fun _ _ => rfl⟩
theorem Own.drew (h : Own R e w base S0 v xs) : Own R e w.drew base S0 v xs := h.below ⟨rfl, rfl, rfl, Nat.le_refl _, fun _ _ => rfl⟩

theorem Own.rel (h : Own R e w base S0 v xs) (hk : 0 < R.k) : (rSl R).rel w (Up S0 base) [v] xs := by
  obtain ⟨S, ⟨cells, h1, h2, h3, h4⟩, h5⟩ := h
  rcases h1.2 with ⟨rfl, hn⟩ | ⟨g, cap, cur, rfl, hb, hh, hnc, hcm, hcs, htake⟩
  · obtain rfl : xs = [] := List.eq_nil_of_length_eq_zero hn
    exact ⟨none, 0, rfl, Nat.le_refl _, by simp, by simp, fun i x hx => by simp at hx⟩
  · refine ⟨some ⟨g, 0, none⟩, cap, rfl, hnc, hcm, h3 hk, fun i x hx => ?_⟩
    have hlt : g < w.heap.size := (Array.getElem?_eq_some_iff.1 hh).1
    refine ⟨g, 0, (cells.drop (i * R.k)).take R.k, rfl, .inr hb, hlt, R.mono (h4 i x hx) fun b hb _ => h5 b hb, fun j u hu => ?_⟩
    have hc := h1.cells (g := g) rfl (i * R.k + j) u (by
      rw [List.getElem?_take] at hu
      split at hu
      · rw [← hu, List.getElem?_drop]
      · cases hu)
    have hadd : (⟨g, 0, none⟩ : Addr).add (i * R.k + j) = ⟨g, 0 + i * R.k + j, none⟩ := by unfold Addr.add; split <;> simp_all
    rw [hadd] at hc
    exact hc

theorem Own.form (h : Own R e w base S0 v xs) : (v = .slice none 0 0 ∧ xs = []) ∨ ∃ g cap, v = .slice (some ⟨g, 0, none⟩) xs.length cap ∧ base ≤ g ∧ g < w.heap.size := by
  obtain ⟨S, ⟨cells, h1, _⟩, _⟩ := h
  rcases h1.2 with ⟨rfl, hn⟩ | ⟨g, cap, cur, rfl, hb, hh, _⟩
  · exact .inl ⟨rfl, List.eq_nil_of_length_eq_zero hn⟩
  · exact .inr ⟨g, cap, rfl, hb, (Array.getElem?_eq_some_iff.1 hh).1⟩
theorem Own.value (h : Own R e w base S0 v xs) : ∃ A c, v = .slice A xs.length c := by
  rcases h.form with ⟨rfl, rfl⟩ | ⟨g, cap, rfl, _⟩
  · exact ⟨none, 0, rfl⟩
  · exact ⟨_, _, rfl⟩
theorem Own.lt (h : Own R e w base S0 v xs) : ∀ k, v.ownBlock = some k → base ≤ k ∧ k < w.heap.size := by
  obtain ⟨S, ⟨cells, h1, _⟩, _⟩ := h
  exact h1.lt

theorem drop_take_append {l m : List Value} {k n : Nat} (hl : l.length = n * k) (hm : m.length = k) (i : Nat) :
    (i < n → ((l ++ m).drop (i * k)).take k = (l.drop (i * k)).take k) ∧ (((l ++ m).drop (n * k)).take k = m) := by
  constructor
  · intro hi
    have h1 : i * k + k ≤ l.length := by rw [hl, ← Nat.succ_mul]; exact Nat.mul_le_mul_right k hi
    rw [List.drop_append_of_le_length (by omega), List.take_append_of_le_length (by rw [List.length_drop]; omega)]
  · rw [← hl, List.drop_left, List.take_of_length_le (by omega)]

/-- append of one element: whatever the capacity. -/
theorem run_append_one {P : Program} (t ty : TypeId) (i : TypeInfo) (z : Value) (ht : P.underlying t = some (.slice e)) (hi : P.info? e = some i) (hz : i.zero = some z)
    (hsize : i.size = R.k) (hby : i.bytes = R.bytes) (hzs : z.cells.size = R.k) (hsz : 0 < R.k)
    (hown : Own R e w base S0 v xs) (ad : Addr) (c : Nat) (news : List Value) (S1 : Nat → Prop) (hrel : R.rel w S1 news x)
    (hS1 : ∀ b, S1 b → b < w.heap.size → Up S0 base b ∧ v.ownBlock ≠ some b) (hnews : ∀ j u, news[j]? = some u → w.cell? (ad.add j) = some u)
    (h63 : xs.length + 1 ≤ maxLen) (hbytes : (xs.length + 1) * R.bytes ≤ 140737488355328) (hbase : base ≤ w.heap.size) :
    ∃ v' w', (Builtin.append_ #[t, t] ty #[v, .slice (some ad) 1 c]).run P w = .ok v' w' ∧ Own R e w' base S0 v' (xs ++ [x]) ∧ w.grownBy w' v.ownBlock ∧
      (v'.ownBlock = v.ownBlock ∨ v'.ownBlock = some w.heap.size) := by
  obtain ⟨S, ⟨cells, h1, h2, h3, h4⟩, h5⟩ := hown
  obtain ⟨v', w', hrun, k1, k2, _, k4⟩ := run_append_own_at (P := P) w base t ty e i z R.k R.bytes ht hi hz hsize hby hzs hsz v xs.length cells h1 ad 1 c news (by rw [Nat.one_mul]; exact R.len hrel) hnews (R.one hrel) h63 hbytes hbase
  refine ⟨v', w', hrun, ⟨fun b => (S b ∨ S1 b) ∧ b < w.heap.size ∧ v.ownBlock ≠ some b, ⟨cells ++ news, by rw [List.length_append]; exact k1, ?_, fun _ => by rw [List.length_append]; exact hbytes, ?_⟩, ?_⟩, k2, k4⟩
  · rintro g hg ⟨_, hlt, hne⟩
    rcases k4 with k4 | k4
    · exact hne (k4 ▸ hg)
    · rw [k4] at hg; injection hg with hg; omega
  · intro j y hy
    have hl := h1.1
    obtain ⟨d1, d2⟩ := drop_take_append (k := R.k) hl (R.len hrel) j
    have hK : Keeps (fun b => (S b ∨ S1 b) ∧ b < w.heap.size ∧ v.ownBlock ≠ some b) w w' := .grown k2 fun g hg ⟨_, _, hne⟩ => hne hg
    rcases Nat.lt_or_ge j xs.length with hj | hj
    · rw [d1 hj]
      rw [List.getElem?_append_left hj] at hy
      refine R.keep (R.mono (h4 j y hy) fun b hb hlt => ⟨.inl hb, hlt, fun hg => h2 b hg hb⟩) hK
    · have hj' : j = xs.length := by
        have : j < (xs ++ [x]).length := (List.getElem?_eq_some_iff.1 hy).1
        simp at this; omega
      subst hj'
      rw [d2]
      obtain rfl : x = y := by simpa using hy
      exact R.keep (R.mono hrel fun b hb hlt => ⟨.inr hb, hlt, (hS1 b hb hlt).2⟩) hK
  · rintro b ⟨hb | hb, hlt, _⟩
    · exact h5 b hb
    · exact (hS1 b hb hlt).1

theorem wpList_append_one {P : Program} {ops : Array Oper} {rest : List Oper} {o : Oper} {a : Act} {Q : Exit → Act → World → Prop} (hgd : o.guard = none) (s y : Operand) (t : TypeId)
    (ho : o.op = .call { callee := .builtin .append, args := #[s, y], argTypes := #[t, t] })
    (i : TypeInfo) (z : Value) (ht : P.underlying t = some (.slice e)) (hi : P.info? e = some i) (hz : i.zero = some z)
    (hsize : i.size = R.k) (hby : i.bytes = R.bytes) (hzs : z.cells.size = R.k) (hsz : 0 < R.k) (hs : a.eval s = v) (hown : Own R e w base S0 v xs)
    (ad : Addr) (c : Nat) (news : List Value) (hx : a.eval y = .slice (some ad) 1 c) (S1 : Nat → Prop) (hrel : R.rel w S1 news x)
    (hS1 : ∀ b, S1 b → b < w.heap.size → Up S0 base b ∧ v.ownBlock ≠ some b) (hnews : ∀ j u, news[j]? = some u → w.cell? (ad.add j) = some u)
    (h63 : xs.length + 1 ≤ maxLen) (hbytes : (xs.length + 1) * R.bytes ≤ 140737488355328) (hbase : base ≤ w.heap.size)
    (h : ∀ v' w', Own R e w' base S0 v' (xs ++ [x]) → w.grownBy w' v.ownBlock → (v'.ownBlock = v.ownBlock ∨ v'.ownBlock = some w.heap.size) → Below base w w' → wpList P ops Q rest (a.put o.dst v') w') :
    wpList P ops Q (o :: rest) a w := by
  obtain ⟨v', w', hr, h2, h3, h4⟩ := run_append_one (P := P) t o.type i z ht hi hz hsize hby hzs hsz hown ad c news S1 hrel hS1 hnews h63 hbytes hbase
  have hlt := hown.lt
  refine wpList_plain hgd fun K hK => ?_
  unfold Oper.wp execOp
  simp only [ho, resolve, invoke, builtin, Sem.run_bind, Sem.run_pure, Result.andThen_ok, List.map_toArray, List.map_cons, List.map_nil, hs, hx, hr]
  exact hK _ _ (h v' w' h2 h3 h4 ((Below.refl base w).grown h3 hbase fun k hk => (hlt k hk).1))
/-- The cells of a slice that reads as a list, in one row. -/
theorem Elems.flat {A : Option Addr} (hE : Elems R w S A xs) (hn : 0 < xs.length) : ∃ (b off : Nat) (news : List Value), A = some ⟨b, off, none⟩ ∧ news.length = xs.length * R.k ∧
    (∀ j u, news[j]? = some u → w.cell? ⟨b, off + j, none⟩ = some u) ∧ ∀ i x, xs[i]? = some x → R.rel w S ((news.drop (i * R.k)).take R.k) x := by
  obtain ⟨b, off, es0, hA, _, _, _, _⟩ := hE 0 xs[0] (List.getElem?_eq_getElem hn)
  have hcell : ∀ i (hi : i < xs.length), ∃ es : List Value, es.length = R.k ∧ R.rel w S es xs[i] ∧ ∀ j u, es[j]? = some u → w.cell? ⟨b, off + i * R.k + j, none⟩ = some u := by
    intro i hi
    obtain ⟨b', off', es, hA', _, _, hr, hc⟩ := hE i xs[i] (List.getElem?_eq_getElem hi)
    rw [hA] at hA'
    obtain ⟨rfl, rfl⟩ : b = b' ∧ off = off' := by simpa using hA'
    exact ⟨es, R.len hr, hr, hc⟩
  have key : ∀ n, n ≤ xs.length → ∃ news : List Value, news.length = n * R.k ∧ (∀ j u, news[j]? = some u → w.cell? ⟨b, off + j, none⟩ = some u) ∧
      ∀ i x, i < n → xs[i]? = some x → R.rel w S ((news.drop (i * R.k)).take R.k) x := by
    intro n
    induction n with
    | zero => intro _; exact ⟨[], by simp, fun j u h => by simp at h, fun i x h => by omega⟩
    | succ n ih =>
      intro hn
      obtain ⟨news, h1, h2, h3⟩ := ih (by omega)
      obtain ⟨es, k1, k2, k3⟩ := hcell n (by omega)
      refine ⟨news ++ es, by rw [List.length_append, h1, k1, Nat.succ_mul], fun j u hu => ?_, fun i x hi hx => ?_⟩
      · rcases Nat.lt_or_ge j news.length with hj | hj
        · rw [List.getElem?_append_left hj] at hu
          exact h2 j u hu
        · rw [List.getElem?_append_right hj] at hu
          have := k3 _ u hu
          rw [h1] at this
          rw [h1] at hj
          have e : off + n * R.k + (j - n * R.k) = off + j := by omega
          rwa [e] at this
      · rcases Nat.lt_or_ge i n with hlt | hge
        · rw [(drop_take_append (k := R.k) h1 k1 i).1 hlt]
          exact h3 i x hlt hx
        · obtain rfl : i = n := by omega
          rw [(drop_take_append (k := R.k) h1 k1 i).2]
          obtain ⟨_, rfl⟩ := List.getElem?_eq_some_iff.1 hx
          exact k2
  obtain ⟨news, h1, h2, h3⟩ := key xs.length (Nat.le_refl _)
  exact ⟨b, off, news, hA, h1, h2, fun i x hx => h3 i x (List.getElem?_eq_some_iff.1 hx).1 hx⟩

/-- The first elements of an own row: 'l[:k]'. -/
theorem Own.take (h : Own R e w base S0 v xs) {A : Option Addr} {n c k : Nat} (hv : v = .slice A n c) (hk : k ≤ xs.length) : Own R e w base S0 (.slice A k c) (xs.take k) := by
  obtain ⟨S, ⟨cells, h1, h2, h3, h4⟩, h5⟩ := h
  have hlen := h1.1
  have htl : (xs.take k).length = k := by rw [List.length_take]; omega
  have hkk : k * R.k ≤ xs.length * R.k := Nat.mul_le_mul_right _ hk
  refine ⟨S, ⟨cells.take (k * R.k), ⟨by rw [htl, List.length_take]; omega, ?_⟩, ?_, ?_, fun i x hx => ?_⟩, h5⟩
  · rcases h1.2 with ⟨hn, h0⟩ | ⟨g, cap, cur, hv', hb, hh, hnc, hcm, hcs, htake⟩
    · rw [hn] at hv
      injection hv with ha hb hc
      subst ha; subst hc
      have : k = 0 := by omega
      subst this
      exact .inl ⟨rfl, by simp⟩
    · rw [hv'] at hv
      injection hv with ha hb' hc
      subst ha; subst hc
      rw [htl]
      refine .inr ⟨g, cap, cur, rfl, hb, hh, by omega, hcm, hcs, ?_⟩
      rw [← htake, List.take_take, Nat.min_eq_left hkk]
  · intro g hg
    refine h2 g ?_
    rw [hv]
    cases A <;> simp_all [Value.ownBlock]
  · intro hk0
    have := h3 hk0
    rw [htl]
    exact Nat.le_trans (Nat.mul_le_mul_right _ hk) this
  · rw [List.getElem?_take] at hx
    split at hx
    · rename_i hik
      have hle : i * R.k + R.k ≤ k * R.k := by rw [← Nat.succ_mul]; exact Nat.mul_le_mul_right _ hik
      rw [List.drop_take, List.take_take, Nat.min_eq_left (by omega)]
      exact h4 i x hx
    · cases hx

/-- append of a whole slice: whatever the capacity. -/
theorem run_append_many {P : Program} {t ty : TypeId} (hT : ElemOf P R t e)
    (hown : Own R e w base S0 v xs) {A : Option Addr} {m c : Nat} {ys : List α} {S2 : Nat → Prop} (S1 : Nat → Prop) (hm : ys.length = m) (hE : Elems R w S2 A ys) (hC : ∀ es y, R.rel w S2 es y → R.rel w S1 es y)
    (hS1 : ∀ b, S1 b → b < w.heap.size → Up S0 base b ∧ v.ownBlock ≠ some b)
    (hbytes : (xs.length + m) * R.bytes ≤ 140737488355328) (hbase : base ≤ w.heap.size) :
    ∃ v' w', (Builtin.append_ #[t, t] ty #[v, .slice A m c]).run P w = .ok v' w' ∧ Own R e w' base S0 v' (xs ++ ys) ∧ w.grownBy w' v.ownBlock ∧
      (v'.ownBlock = v.ownBlock ∨ v'.ownBlock = some w.heap.size) := by
  obtain ⟨i, z, hi, hz, hs1, hs2, hs3⟩ := hT.hi
  rcases Nat.eq_zero_or_pos m with h0 | h0
  · subst h0
    have hys : ys = [] := List.eq_nil_of_length_eq_zero hm
    subst hys
    refine ⟨v, w, ?_, by simpa using hown, ⟨rfl, rfl, rfl, Nat.le_refl _, fun _ _ _ => rfl⟩, .inl rfl⟩
    obtain ⟨S, ⟨cells, h1, _⟩, _⟩ := hown
    rcases h1.2 with ⟨rfl, _⟩ | ⟨g, cap, cur, rfl, _, _, hnc, _⟩
    · cases A <;> simp [Builtin.append_, run_underlying hT.ht, sizeOf, typeInfo, hi, Builtin.lenOf, Builtin.firstCells, loadCells, loadCellsFrom]
    · cases A <;> simp [Builtin.append_, run_underlying hT.ht, sizeOf, typeInfo, hi, Builtin.lenOf, Builtin.firstCells, loadCells, loadCellsFrom, storeCells, hnc]
  · obtain ⟨b1, off1, news, rfl, n1, n2, n3⟩ := hE.flat (by omega)
    obtain ⟨S, ⟨cells, h1, h2, h3, h4⟩, h5⟩ := hown
    have hone : ∀ u ∈ news, u.oneCell' = true := by
      intro u hu
      obtain ⟨j, hj, rfl⟩ := List.getElem_of_mem hu
      have hk := hT.hk
      have hjk : j / R.k < ys.length := by rw [Nat.div_lt_iff_lt_mul hk, ← n1]; exact hj
      refine R.one (n3 (j / R.k) ys[j / R.k] (List.getElem?_eq_getElem hjk)) _ ?_
      rw [List.mem_take_iff_getElem]
      have hmod := Nat.mod_lt j hk
      have hdm := Nat.div_add_mod j R.k
      have hcm : R.k * (j / R.k) = j / R.k * R.k := Nat.mul_comm _ _
      refine ⟨j % R.k, ?_, ?_⟩
      · rw [List.length_drop]; omega
      · rw [List.getElem_drop]
        congr 1
        omega
    have hadd : ∀ j, (⟨b1, off1, none⟩ : Addr).add j = ⟨b1, off1 + j, none⟩ := by intro j; unfold Addr.add; split <;> simp_all
    have h63 : xs.length + m ≤ maxLen := by
      have := Nat.le_mul_of_pos_right (xs.length + m) hT.hb
      unfold maxLen; omega
    obtain ⟨v', w', hrun, k1, k2, _, k4⟩ := run_append_own_at (P := P) w base t ty e i z R.k R.bytes hT.ht hi hz hs1 hs2 hs3 hT.hk v xs.length cells h1 ⟨b1, off1, none⟩ m c news (by rw [n1, hm])
      (fun j u hu => by rw [hadd]; exact n2 j u hu) hone h63 hbytes hbase
    refine ⟨v', w', hrun, ⟨fun b => (S b ∨ S1 b) ∧ b < w.heap.size ∧ v.ownBlock ≠ some b, ⟨cells ++ news, by rw [List.length_append, hm]; exact k1, ?_, fun _ => by rw [List.length_append, hm]; exact hbytes, ?_⟩, ?_⟩, k2, k4⟩
    · rintro g hg ⟨_, hlt, hne⟩
      rcases k4 with k4 | k4
      · exact hne (k4 ▸ hg)
      · rw [k4] at hg; injection hg with hg; omega
    · intro j y hy
      have hl := h1.1
      have hK : Keeps (fun b => (S b ∨ S1 b) ∧ b < w.heap.size ∧ v.ownBlock ≠ some b) w w' := .grown k2 fun g hg ⟨_, _, hne⟩ => hne hg
      rcases Nat.lt_or_ge j xs.length with hj | hj
      · have hjk : j * R.k + R.k ≤ cells.length := by rw [hl, ← Nat.succ_mul]; exact Nat.mul_le_mul_right _ hj
        rw [List.drop_append_of_le_length (by omega), List.take_append_of_le_length (by rw [List.length_drop]; omega)]
        rw [List.getElem?_append_left hj] at hy
        exact R.keep (R.mono (h4 j y hy) fun b hb hlt => ⟨.inl hb, hlt, fun hg => h2 b hg hb⟩) hK
      · rw [List.getElem?_append_right hj] at hy
        have he : (cells ++ news).drop (j * R.k) = news.drop ((j - xs.length) * R.k) := by
          rw [List.drop_append, List.drop_eq_nil_of_le (by rw [hl]; exact Nat.mul_le_mul_right _ hj), List.nil_append, hl, Nat.sub_mul]
        rw [he]
        exact R.keep (R.mono (hC _ _ (n3 _ y hy)) fun b hb hlt => ⟨.inr hb, hlt, (hS1 b hb hlt).2⟩) hK
    · rintro b ⟨hb | hb, hlt, _⟩
      · exact h5 b hb
      · exact (hS1 b hb hlt).1

theorem wp_append_many {P : Program} {o : Oper} {a : Act} {K : Act → World → Prop} {Q : Exit → Act → World → Prop} {t : TypeId} (hT : ElemOf P R t e) (s y : Operand)
    (ho : o.op = .call { callee := .builtin .append, args := #[s, y], argTypes := #[t, t] })
    (hs : a.eval s = v) (hown : Own R e w base S0 v xs) {A : Option Addr} {m c : Nat} (hx : a.eval y = .slice A m c) {ys : List α} {S2 : Nat → Prop} (S1 : Nat → Prop) (hm : ys.length = m) (hE : Elems R w S2 A ys) (hC : ∀ es y, R.rel w S2 es y → R.rel w S1 es y)
    (hS1 : ∀ b, S1 b → b < w.heap.size → Up S0 base b ∧ v.ownBlock ≠ some b)
    (hbytes : (xs.length + m) * R.bytes ≤ 140737488355328) (hbase : base ≤ w.heap.size)
    (h : ∀ v' w', Own R e w' base S0 v' (xs ++ ys) → Below base w w' → w.grownBy w' v.ownBlock → (v'.ownBlock = v.ownBlock ∨ v'.ownBlock = some w.heap.size) → K (a.put o.dst v') w') : o.wp P a w K Q := by
  obtain ⟨v', w', hr, h2, h3, h4⟩ := run_append_many (P := P) (t := t) (ty := o.type) (c := c) hT hown S1 hm hE hC hS1 hbytes hbase
  have hlt := hown.lt
  unfold Oper.wp execOp
  simp only [ho, resolve, invoke, builtin, Sem.run_bind, Sem.run_pure, Result.andThen_ok, List.map_toArray, List.map_cons, List.map_nil, hs, hx, hr]
  exact h v' w' h2 ((Below.refl base w).grown h3 hbase fun k hk => (hlt k hk).1) h3 h4

theorem wpList_append_many {P : Program} {ops : Array Oper} {rest : List Oper} {o : Oper} {a : Act} {Q : Exit → Act → World → Prop} {t : TypeId} (hT : ElemOf P R t e) (hgd : o.guard = none) (s y : Operand)
    (ho : o.op = .call { callee := .builtin .append, args := #[s, y], argTypes := #[t, t] })
    (hs : a.eval s = v) (hown : Own R e w base S0 v xs) {A : Option Addr} {m c : Nat} (hx : a.eval y = .slice A m c) {ys : List α} {S2 : Nat → Prop} (S1 : Nat → Prop) (hm : ys.length = m) (hE : Elems R w S2 A ys) (hC : ∀ es y, R.rel w S2 es y → R.rel w S1 es y)
    (hS1 : ∀ b, S1 b → b < w.heap.size → Up S0 base b ∧ v.ownBlock ≠ some b)
    (hbytes : (xs.length + m) * R.bytes ≤ 140737488355328) (hbase : base ≤ w.heap.size)
    (h : ∀ v' w', Own R e w' base S0 v' (xs ++ ys) → Below base w w' → w.grownBy w' v.ownBlock → (v'.ownBlock = v.ownBlock ∨ v'.ownBlock = some w.heap.size) → wpList P ops Q rest (a.put o.dst v') w') :
    wpList P ops Q (o :: rest) a w :=
  wpList_plain hgd fun _ hK => wp_append_many hT s y ho hs hown hx S1 hm hE hC hS1 hbytes hbase fun v' w' k1 k2 k3 k4 => hK _ _ (h v' w' k1 k2 k3 k4)

theorem step_append_many {P : Program} {ops : Array Oper} {o : Oper} {a : Act} {K : Act → World → Prop} {Q : Exit → Act → World → Prop} {E : Prop} {t : TypeId} (hT : ElemOf P R t e) (hgd : o.guard = none) (s y : Operand)
    (ho : o.op = .call { callee := .builtin .append, args := #[s, y], argTypes := #[t, t] })
    (hs : a.eval s = v) (hown : Own R e w base S0 v xs) {A : Option Addr} {m c : Nat} (hx : a.eval y = .slice A m c) {ys : List α} {S2 : Nat → Prop} (S1 : Nat → Prop) (hm : ys.length = m) (hE : Elems R w S2 A ys) (hC : ∀ es y, R.rel w S2 es y → R.rel w S1 es y)
    (hS1 : ∀ b, S1 b → b < w.heap.size → Up S0 base b ∧ v.ownBlock ≠ some b)
    (hbytes : (xs.length + m) * R.bytes ≤ 140737488355328) (hbase : base ≤ w.heap.size)
    (h : ∀ v' w', Own R e w' base S0 v' (xs ++ ys) → Below base w w' → w.grownBy w' v.ownBlock → (v'.ownBlock = v.ownBlock ∨ v'.ownBlock = some w.heap.size) → K (a.put o.dst v') w') :
    if Region.wanted o (yielded ops a.tmps) = true then Oper.wp P o a w K Q else E := by
  rw [if_pos (by simp [Region.wanted, hgd])]
  exact wp_append_many hT s y ho hs hown hx S1 hm hE hC hS1 hbytes hbase h

/-- Data that lead to no memory. -/
def Flat (R : Rd α) : Prop := ∀ w w' S S' cs x, R.rel w S cs x → R.rel w' S' cs x
theorem Own.flat (h : Own R e w base S0 v xs) (hF : Flat R) : Own R e w base (fun _ => False) v xs := by
  obtain ⟨S, ⟨cells, h1, h2, h3, h4⟩, h5⟩ := h
  exact ⟨fun _ => False, ⟨cells, h1, fun _ _ h => h, h3, fun i x hx => hF _ _ _ _ _ _ (h4 i x hx)⟩, fun _ h => h.elim⟩
/-- A literal of one element, just laid. -/
theorem Own.fresh (_hk : 0 < R.k) (cs : List Value) (hrel : R.rel w S0 cs x) (hb : R.bytes ≤ 140737488355328) {n : Nat} (hn : w.heap.size = n) :
    Own R e (w.alloc (.cells cs.toArray e)) n S0 (.slice (some ⟨n, 0, none⟩) 1 1) [x] := by
  subst hn
  have hl := R.len hrel
  refine ⟨fun b => S0 b ∧ b < w.heap.size, ⟨cs, ⟨by simp [hl], .inr ⟨w.heap.size, 1, cs.toArray, rfl, Nat.le_refl _, heap_alloc_new w _, Nat.le_refl _, by decide, by simp [hl], by simp only [List.length_singleton, Nat.one_mul]; rw [List.take_of_length_le (by omega)]⟩⟩, ?_, fun _ => by simpa using hb, fun i y hy => ?_⟩, fun b hb => .inl hb.1⟩
  · rintro g hg ⟨_, hlt⟩
    simp [Value.ownBlock] at hg
    omega
  · match i, hy with
    | 0, hy =>
      obtain rfl : x = y := by simpa using hy
      have : (cs.drop (0 * R.k)).take R.k = cs := by rw [Nat.zero_mul, List.drop_zero, List.take_of_length_le (by omega)]
      rw [this]
      exact R.keep (R.mono hrel fun b hb hlt => ⟨hb, hlt⟩) (.alloc _)
theorem Elems.keep {A : Option Addr} {w' : World} (hE : Elems R w S A xs) (hk : Keeps S w w') : Elems R w' S A xs := by
  intro i x hx
  obtain ⟨b, off, es, hA, hS, hb, hr, hc⟩ := hE i x hx
  refine ⟨b, off, es, hA, hS, ?_, R.keep hr hk, fun j u hu => hk.cell (a := ⟨b, off + i * R.k + j, none⟩) hS (hc j u hu)⟩
  have := hk b hS hb
  rcases Nat.lt_or_ge b w'.heap.size with hlt | hge
  · exact hlt
  · rw [Array.getElem?_eq_none hge, Array.getElem?_eq_getElem hb] at this; cases this
theorem Elems.mono {A : Option Addr} {S' : Nat → Prop} (hE : Elems R w S A xs) (hk : ∀ b, S b → b < w.heap.size → S' b) : Elems R w S' A xs := by
  intro i x hx
  obtain ⟨b, off, es, hA, hS, hb, hr, hc⟩ := hE i x hx
  exact ⟨b, off, es, hA, hk b hS hb, hb, R.mono hr hk, hc⟩
/-- 's[k:]' (where k is the capacity the address stays; then nothing is left). -/
theorem Elems.drop {A : Option Addr} (hE : Elems R w S A xs) (k : Nat) : Elems R w S (A.map (·.add (k * R.k))) (xs.drop k) := by
  intro i x hx
  rw [List.getElem?_drop] at hx
  obtain ⟨b, off, es, rfl, hS, hb, hr, hc⟩ := hE (k + i) x hx
  have hadd : (⟨b, off, none⟩ : Addr).add (k * R.k) = ⟨b, off + k * R.k, none⟩ := by unfold Addr.add; split <;> simp_all
  refine ⟨b, off + k * R.k, es, by rw [Option.map_some, hadd], hS, hb, hr, fun j u hu => ?_⟩
  have := hc j u hu
  rw [Nat.add_mul, ← Nat.add_assoc off] at this
  exact this

/-- A row owned from a later block on is owned from an earlier one on. -/
theorem Own.lower (h : Own R e w base S0 v xs) {base' : Nat} (hb : base' ≤ base) : Own R e w base' S0 v xs := by
  obtain ⟨S, ⟨cells, h1, h2, h3, h4⟩, h5⟩ := h
  refine ⟨S, ⟨cells, ⟨h1.1, ?_⟩, h2, h3, h4⟩, fun b hb' => (h5 b hb').imp id (Nat.le_trans hb)⟩
  rcases h1.2 with h0 | ⟨g, cap, cur, hv, hg, rest⟩
  · exact .inl h0
  · exact .inr ⟨g, cap, cur, hv, Nat.le_trans hb hg, rest⟩

/-- A store into one cell of an own row. -/
theorem Own.set (h : Own R e w base S0 v xs) {g cap : Nat} (hv : v = .slice (some ⟨g, 0, none⟩) xs.length cap) {i j : Nat} {x' : α} {u : Value} (hi : i < xs.length) (hj : j < R.k)
    (hrel : ∀ es S, R.rel w S es xs[i] → R.rel w S (es.set j u) x') : Own R e (w.setCell ⟨g, i * R.k + j, none⟩ u) base S0 v (xs.set i x') := by
  obtain ⟨S, ⟨cells, h1, h2, h3, h4⟩, h5⟩ := h
  have hlen := h1.1
  have hgS : ¬ S g := h2 g (by rw [hv]; rfl)
  have hK : Keeps S w (w.setCell ⟨g, i * R.k + j, none⟩ u) := .setCell hgS u
  have hik : i * R.k + R.k ≤ xs.length * R.k := by rw [← Nat.succ_mul]; exact Nat.mul_le_mul_right _ hi
  refine ⟨S, ⟨cells.set (i * R.k + j) u, ⟨by simp [hlen], ?_⟩, h2, by simpa using h3, fun m y hy => ?_⟩, h5⟩
  · rcases h1.2 with ⟨hn, h0⟩ | ⟨g', cap', cur, hv', hb, hh, hnc, hcm, hcs, htake⟩
    · omega
    · obtain ⟨rfl, rfl⟩ : g' = g ∧ cap' = cap := by
        rw [hv'] at hv
        injection hv with ha _ hc
        injection ha with ha
        injection ha with hb' _ _
        exact ⟨hb', hc⟩
      refine .inr ⟨g', cap', cur.setIfInBounds (i * R.k + j) u, by simpa using hv', hb, ?_, by simpa using hnc, hcm, by simpa using hcs, ?_⟩
      · have hlt : g' < w.heap.size := (Array.getElem?_eq_some_iff.1 hh).1
        simp only [World.setCell, Array.getElem?_modify, hh, if_pos]
        simp
      · simp only [Array.toList_setIfInBounds, List.length_set]
        rw [List.take_set, htake]
  · rcases Nat.lt_trichotomy m i with hlt | rfl | hgt
    · have hm : ((cells.set (i * R.k + j) u).drop (m * R.k)).take R.k = (cells.drop (m * R.k)).take R.k := by
        have hle : m * R.k + R.k ≤ i * R.k := by rw [← Nat.succ_mul]; exact Nat.mul_le_mul_right _ hlt
        rw [List.drop_set, if_neg (by omega), List.take_set_of_le (by omega)]
      rw [hm]
      rw [List.getElem?_set_ne (by omega)] at hy
      exact R.keep (h4 m y hy) hK
    · obtain rfl : x' = y := by
        rw [List.getElem?_set_self hi] at hy
        exact Option.some.inj hy
      have hm : ((cells.set (m * R.k + j) u).drop (m * R.k)).take R.k = ((cells.drop (m * R.k)).take R.k).set j u := by
        rw [List.drop_set, if_neg (by omega), show m * R.k + j - m * R.k = j by omega, List.take_set]
      rw [hm]
      exact R.keep (hrel _ _ (h4 m xs[m] (List.getElem?_eq_getElem hi))) hK
    · have hm : ((cells.set (i * R.k + j) u).drop (m * R.k)).take R.k = (cells.drop (m * R.k)).take R.k := by
        have hle : i * R.k + R.k ≤ m * R.k := by rw [← Nat.succ_mul]; exact Nat.mul_le_mul_right _ hgt
        rw [List.drop_set, if_pos (by omega)]
      rw [hm]
      rw [List.getElem?_set_ne (by omega)] at hy
      exact R.keep (h4 m y hy) hK

theorem news_at (w : World) (cs : List Value) (t : TypeId) : ∀ j u, cs[j]? = some u → (w.alloc (.cells cs.toArray t)).cell? ((⟨w.heap.size, 0, none⟩ : Addr).add j) = some u := by
  intro j u hu
  have hadd : (⟨w.heap.size, 0, none⟩ : Addr).add j = ⟨w.heap.size, j, none⟩ := by unfold Addr.add; split <;> simp_all
  rw [hadd, World.cell?_alloc_new]
  simpa using hu

/-- append of one new element, just laid by the statement itself: 'out = append(out, x)'. -/
theorem wpList_append_new {P : Program} {ops : Array Oper} {rest : List Oper} {o : Oper} {a : Act} {Q : Exit → Act → World → Prop} {t : TypeId} (hT : ElemOf P R t e) (hgd : o.guard = none) (s y : Operand)
    (ho : o.op = .call { callee := .builtin .append, args := #[s, y], argTypes := #[t, t] })
    (hs : a.eval s = v) (hown : Own R e w base S0 v xs) (cs : List Value) {n : Nat} (hx : a.eval y = .slice (some ⟨n, 0, none⟩) 1 1) (hn : w.heap.size = n) (S1 : Nat → Prop) (hrel : R.rel w S1 cs x)
    (hS1 : ∀ b, S1 b → b < w.heap.size → Up S0 base b ∧ v.ownBlock ≠ some b)
    (hbytes : (xs.length + 1) * R.bytes ≤ 140737488355328) (hbase : base ≤ w.heap.size)
    (h : ∀ v' w', Own R e w' base S0 v' (xs ++ [x]) → Below base w w' → w.grownBy w' v.ownBlock → (v'.ownBlock = v.ownBlock ∨ v'.ownBlock = some (w.heap.size + 1)) → wpList P ops Q rest (a.put o.dst v') w') :
    wpList P ops Q (o :: rest) a (w.alloc (.cells cs.toArray e)) := by
  subst hn
  obtain ⟨i, z, hi, hz, h1, h2, h3⟩ := hT.hi
  have hlt := hown.lt
  refine wpList_append_one hgd s y t ho i z hT.ht hi hz h1 h2 h3 hT.hk hs (hown.alloc _) ⟨w.heap.size, 0, none⟩ 1 cs hx (fun b => S1 b ∧ b < w.heap.size)
    (R.keep (R.mono hrel (fun b hb hlt => ⟨hb, hlt⟩)) (.alloc _)) (fun b hb _ => hS1 b hb.1 hb.2) (news_at w cs e) ?_ hbytes (by simp; omega) ?_
  · have := Nat.le_mul_of_pos_right (xs.length + 1) hT.hb
    unfold maxLen; omega
  · intro v' w' k1 k2 k3 k4
    have hg : w.grownBy w' v.ownBlock := ⟨k2.os, k2.tape, k2.output, Nat.le_trans (by simp) k2.size, fun j hj hne => (k2.block j (by simp; omega) hne).trans (Below.heap_alloc w _ j hj)⟩
    exact h v' w' k1 ((Below.refl base w).grown hg hbase fun g hg' => (hlt g hg').1) hg (by simpa using k3)
theorem Own.free (h : Own R e w base S0 v xs) {g cap n : Nat} (hv : v = .slice (some ⟨g, 0, none⟩) n cap) (off : Nat) : w.frozen? ⟨g, off, none⟩ = false := by
  obtain ⟨S, ⟨cells, h1, _⟩, _⟩ := h
  rcases h1.2 with ⟨hn, _⟩ | ⟨g', cap', cur, hv', hb, hh, _⟩
  · rw [hv] at hn; cases hn
  · rw [hv] at hv'
    injection hv' with ha _ _
    injection ha with ha
    injection ha with hb' _ _
    subst hb'
    simp [World.frozen?, hh]
/-- The cells of an own row. -/
theorem Own.elems (h : Own R e w base S0 v xs) (hk : 0 < R.k) {A : Option Addr} {n c : Nat} (hv : v = .slice A n c) : n = xs.length ∧ Elems R w (Up S0 base) A xs := by
  obtain ⟨A', c', hv', _, _, _, hE⟩ := h.rel hk
  simp only [List.cons.injEq, and_true] at hv'
  rw [hv] at hv'
  injection hv' with h1 h2 h3
  subst h1
  exact ⟨h2, hE⟩
end

/-- What a call that makes memory and writes to no old memory leaves. -/
theorem bcell {W w1 : World} (hb : Below W.heap.size W w1) : (∀ b o, b < W.heap.size → w1.cell? ⟨b, o, none⟩ = W.cell? ⟨b, o, none⟩) ∧ (∀ b o, b < W.heap.size → w1.frozen? ⟨b, o, none⟩ = W.frozen? ⟨b, o, none⟩) :=
  ⟨fun b o h => hb.cell (p := ⟨b, o, none⟩) h, fun b o h => hb.frozen (p := ⟨b, o, none⟩) h⟩

theorem take_snoc_ {α : Type} (l : List α) (k : Nat) (h : k < l.length) : l.take (k + 1) = l.take k ++ [l[k]] := by
  rw [List.take_succ_eq_append_getElem h]

theorem drewN_below {B : Nat} {a w : World} (h : Below B a w) (n : Nat) : Below B a (w.drewN n) := ⟨h.os, h.tape, h.output, h.size, h.block⟩

theorem ret_int {k : IntKind} {a b : Int} (h : a = b) : Ending.returned (.int k a) = .returned (.int k b) := by rw [h]
theorem ret_bool {a b : Bool} (h : a = b) : Ending.returned (.bool a) = .returned (.bool b) := by rw [h]

end Go.Proofs.YtlopccnehgolnabDoor
