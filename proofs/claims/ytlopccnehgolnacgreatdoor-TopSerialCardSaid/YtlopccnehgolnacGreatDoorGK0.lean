import Derived.WalkKit
import Derived.Lib.Hide
import Derived.Maps.AppendAt
import Derived.Deep.AppendLies
import Derived.Deep.Draws
namespace Go.Proofs.YtlopccnehgolnacGreatDoor
open Go.RowKit
theorem cso {w : World} {a : Addr} {v : Value} {b : Addr} (h : a ≠ b := by simp) : (w.setCell a v).cell? b = w.cell? b := World.cell?_setCell_other _ _ _ _ h
abbrev zn (b o : Nat) : Addr := ⟨b, o, none⟩
abbrev nl : Value := .slice none 0 0
abbrev sq (l : List UInt8) : Value := .string ⟨l.toArray⟩
abbrev Bw (w w' : World) : Prop := Below w.heap.size w w'
abbrev L0 := @Lib.hid
abbrev L0a := @World.cell?_setCell_other
abbrev L0b := @World.cell?_alloc_new
abbrev L0c := @Nat.lt_of_lt_of_le
abbrev L0d := @World.block_lt_of_cell?
abbrev L0e := @World.cell?_setCell_same
abbrev L0f := @List.getElem?_eq_getElem
abbrev L0g := @Nat.le_refl
abbrev L0h := @Nat.le_trans
abbrev L0i := @List.length_append
abbrev L0j := @World.cell?_alloc_lt
abbrev L0k := @World.frozen?_setCell
abbrev L0l := @List.take_of_length_le
abbrev L0m := @Below.refl
abbrev L0n := @List.getElem?_eq_some_iff
abbrev L0o := @Nat.zero_le
abbrev L0p := @List.length_singleton
abbrev L0q := @List.setIfInBounds_toArray
abbrev L0r := @List.length_cons
abbrev L0s := @Option.some.inj
abbrev L0t := @Bool.and_eq_true
abbrev L0u := @List.drop_eq_nil_of_le
abbrev L0v := @List.length_nil
abbrev L0w := @Nat.ne_of_gt
abbrev L0x := @List.set_cons_zero
abbrev L0y := @List.set_cons_succ
abbrev L0z := @List.mem_of_getElem?
abbrev L1a := @World.frozen?_of_block
abbrev L1b := @List.length_drop
abbrev L1c := @Nat.mul_le_mul_right
abbrev L1d := @World.cell?_of_block
abbrev L1e := @List.foldl_append
abbrev L1f := @List.cons.injEq
abbrev L1g := @List.eq_nil_of_length_eq_zero
abbrev L1h := @List.length_map
abbrev L1i := @List.length_take
abbrev L1j := @List.take_append_of_le_length
abbrev L1k := @List.take_add_one
abbrev L1l := @List.getElem?_append_left
abbrev L1m := @Nat.le_succ
abbrev L1n := @List.mem_map
abbrev L1o := @List.nil_append
abbrev L1p := @List.getElem?_drop
abbrev L1q := @Int.toNat_natCast
abbrev L1r := @Nat.lt_or_ge
abbrev L1s := @List.mem_of_find?_eq_some
abbrev L1t := @List.all_eq_true
abbrev L1u := @List.getElem_of_mem
abbrev L1v := @Array.getElem?_eq_some_iff
abbrev L1w := @List.mem_cons_of_mem
abbrev L1x := @List.mem_append_left
abbrev L1y := @Array.getElem?_toList
abbrev L1z := @List.map_append
abbrev L2a := @List.mem_append
abbrev L2b := @Nat.le_of_lt
abbrev L2c := @List.getElem_mem
abbrev L2d := @List.mem_cons_self
abbrev L2e := @List.length_filter_le
abbrev L2f := @List.mem_append_right
abbrev L2g := @List.findIdx?_eq_some_iff_getElem
abbrev L2h := @List.findIdx?_eq_none_iff
abbrev L2i := @List.getElem?_take_of_lt
abbrev L2j := @List.mergeSort_perm
abbrev L2k := @List.mem_range
abbrev L2l := @List.append_assoc
abbrev L2m := @List.any_eq_false
abbrev L2n := @List.mem_take_iff_getElem
abbrev L2o := @List.mem_cons
abbrev L2p := @Nat.eq_zero_or_pos
abbrev L2q := @List.map_cons
abbrev L2r := @List.getElem?_set_self
abbrev L2s := @Nat.lt_succ_self
abbrev L2t := @Array.getElem?_eq_getElem
abbrev L2u := @List.take_succ_cons
abbrev L2v := @List.drop_append_of_le_length
abbrev L2w := @Array.getElem?_modify
abbrev L2x := @List.getElem?_eq_none
abbrev L2y := @Nat.succ_mul
abbrev L2z := @List.append_nil
abbrev L3 := @Below.heap_setCell
abbrev L3a := @List.getElem?_take
abbrev L3b := @List.filter_append
abbrev L3c := @List.mem_singleton
abbrev L3d := @List.getElem?_set_ne
abbrev L3e := @List.flatMap_nil
abbrev L3f := @Array.getElem?_eq_none
abbrev L3g := @List.getElem?_append_right
abbrev L3h := @List.drop_zero
abbrev L3i := @List.getElem?_take_eq_none
abbrev L3j := @Option.some.injEq
abbrev L3k := @List.find?_cons_of_neg
abbrev L3l := @List.pairwise_iff_getElem
abbrev L3m := @List.find?_eq_none
abbrev L3n := @List.drop_drop
abbrev L3o := @List.take_zero
abbrev L3p := @Nat.le_mul_of_pos_right
abbrev L3q := @List.ext_getElem?
abbrev L3r := @List.flatMap_cons
abbrev L3s := @List.length_set
abbrev L3t := @Bool.eq_iff_iff
abbrev L3u := @List.mem_filter
abbrev L3v := @Nat.min_eq_left
abbrev L3w := @List.foldl_cons
abbrev L3x := @Nat.add_zero
abbrev L3y := @Nat.lt_irrefl
abbrev L3z := @Below.heap_alloc
abbrev L4 := @List.getD_eq_getElem?_getD
abbrev L4a := @Bool.false_eq_true
abbrev L4b := @List.filter_eq_self
abbrev L4c := @List.length_pos_iff
abbrev L4d := @List.length_take_le
abbrev L4e := @List.map_toArray
abbrev L4f := @List.take_take
abbrev L4g := @Nat.le_of_not_lt
abbrev L4h := @List.map_nil
abbrev L4i := @List.find?_cons_of_pos
abbrev L4j := @Nat.le_antisymm
abbrev L4k := @List.all_cons
abbrev L4l := @List.getElem?_map
abbrev L4m := @Nat.le_succ_of_le
abbrev L4n := @List.mem_of_mem_take
abbrev L4o := @List.any_eq_true
abbrev L4p := @List.cons_append
abbrev L4q := @Nat.succ_le_succ
abbrev L4r := @List.flatMap_append
abbrev L4s := @List.drop_succ_cons
abbrev L4t := @Nat.lt_succ_iff_lt_or_eq
abbrev L4u := @Bool.or_eq_true
abbrev L4v := @Nat.add_sub_cancel
abbrev L4w := @Nat.mul_one
abbrev L4x := @Nat.zero_add
abbrev L4y := @Calls.mono
def InI (x : Int) : Prop := -9223372036854775808 <= x /\ x <= 9223372036854775807
def Keeps (S : Nat -> Prop) (w w' : World) : Prop := ∀ b, S b -> b < w.heap.size -> w'.heap[b]? = w.heap[b]?
theorem Keeps.cell {S : Nat -> Prop} {w w' : World} (h : Keeps S w w') {a : Addr} {u : Value} (hs : S a.block) (hc : w.cell? a = some u) : w'.cell? a = some u :=
 (L1d (h a.block hs (L0d w a hc))).trans hc
structure Rd (α : Type) where
 k : Nat
 bytes : Nat
 rel : World -> (Nat -> Prop) -> List Value -> α -> Prop
 len : ∀ {w S cs x}, rel w S cs x -> cs.length = k
 keep : ∀ {w w' S cs x}, rel w S cs x -> Keeps S w w' -> rel w' S cs x
 mono : ∀ {w S S' cs x}, rel w S cs x -> (∀ b, S b -> b < w.heap.size -> S' b) -> rel w S' cs x
 one : ∀ {w S cs x}, rel w S cs x -> ∀ u ∈ cs, u.oneCell' = true
def rInt : Rd Int where
 k := 1
 bytes := 8
 rel _ _ cs x := cs = [.int .i64 x] /\ InI x
 len h := by rw [h.1]; rfl
 keep h _ := h
 mono h _ := h
 one h u hu := by rw [h.1] at hu; simp at hu; subst hu; rfl
def rStr : Rd (List UInt8) where
 k := 1
 bytes := 16
 rel _ _ cs x := cs = [sq x] /\ x.length <= 140737488355328
 len h := by rw [h.1]; rfl
 keep h _ := h
 mono h _ := h
 one h u hu := by rw [h.1] at hu; simp at hu; subst hu; rfl
def Elems {α : Type} (R : Rd α) (w : World) (S : Nat -> Prop) (A : Option Addr) (xs : List α) : Prop :=
 ∀ i x, xs[i]? = some x -> ∃ b off es, A = some (zn b off) /\ S b /\ b < w.heap.size /\ R.rel w S es x /\ ∀ j u, es[j]? = some u -> w.cell? (zn b (off + i * R.k + j)) = some u
def rSl {α : Type} (R : Rd α) : Rd (List α) where
 k := 1
 bytes := 24
 rel w S cs xs := ∃ A c, cs = [.slice A xs.length c] /\ xs.length <= c /\ c <= maxLen /\ xs.length * R.bytes <= 140737488355328 /\ Elems R w S A xs
 len h := by obtain ⟨A, c, rfl, _⟩ := h; rfl
 keep := by
  rintro w w' S cs xs ⟨A, c, rfl, h1, h2, h3, h4⟩ hk
  refine ⟨A, c, rfl, h1, h2, h3, fun i x hx => ?_⟩
  obtain ⟨b, off, es, hA, hS, hb, hr, hc⟩ := h4 i x hx
  refine ⟨b, off, es, hA, hS, ?_, R.keep hr hk, fun j u hu => hk.cell (a := (zn b (off + i * R.k + j))) hS (hc j u hu)⟩
  have := hk b hS hb
  rcases L1r b w'.heap.size with hlt | hge
  ·exact hlt
  rw [L3f hge, L2t hb] at this; cases this
 mono := by
  rintro w S S' cs xs ⟨A, c, rfl, h1, h2, h3, h4⟩ hk
  refine ⟨A, c, rfl, h1, h2, h3, fun i x hx => ?_⟩
  obtain ⟨b, off, es, hA, hS, hb, hr, hc⟩ := h4 i x hx
  exact ⟨b, off, es, hA, hk b hS hb, hb, R.mono hr hk, hc⟩
 one h u hu := by obtain ⟨A, c, rfl, _⟩ := h; simp at hu; subst hu; rfl
def Up (S : Nat -> Prop) (N : Nat) : Nat -> Prop := fun b => S b \/ N <= b
section
variable {α : Type} {R : Rd α} {w w' : World} {S S' : Nat -> Prop} {cs : List Value} {x : α} {N M B : Nat}
theorem Keeps.of_below (h : Bw w w') : Keeps S w w' := fun b _ hb => h.block b hb
theorem Keeps.of_belowB (h : Below B w w') (hS : ∀ b, S b -> b < B) : Keeps S w w' := fun b hb _ => h.block b (hS b hb)
theorem Keeps.alloc (o : Obj) : Keeps S w (w.alloc o) := fun b _ hb => L3z w o b hb
theorem Keeps.setCell {p : Addr} (hp : ¬ S p.block) (u : Value) : Keeps S w (w.setCell p u) := fun b hb _ => L3 w p u b (fun e => hp (e ▸ hb))
theorem Keeps.grown {row : Option Nat} (h : w.grownBy w' row) (hr : ∀ g, row = some g -> ¬ S g) : Keeps S w w' := fun b hb hlt => h.block b hlt (fun e => hr b e.symm hb)
theorem Keeps.trans {w'' : World} (h : Keeps S w w') (k : Keeps S w' w'') : Keeps S w w'' := fun b hb hlt => by
 have h1 := h b hb hlt
 have : b < w'.heap.size := by
  rcases L1r b w'.heap.size with hl | hge
  ·exact hl
  rw [L3f hge, L2t hlt] at h1; cases h1
 exact (k b hb this).trans h1
theorem Rd.below (h : R.rel w S cs x) (hb : Bw w w') : R.rel w' S cs x := R.keep h (.of_below hb)
theorem Rd.alloc (h : R.rel w S cs x) (o : Obj) : R.rel (w.alloc o) S cs x := R.keep h (.alloc o)
theorem Rd.drew (h : R.rel w S cs x) : R.rel w.drew S cs x := R.keep h fun _ _ _ => rfl
theorem Rd.up (h : R.rel w S cs x) : R.rel w (Up S N) cs x := R.mono h fun _ hb _ => .inl hb
theorem Rd.upup (h : R.rel w (Up S N) cs x) (hN : M <= N) : R.rel w (Up S M) cs x := R.mono h fun _ hb _ => hb.imp id (L0h hN)
end
section
variable {α : Type} {R : Rd α} {e : TypeId}
structure ElemOf {α : Type} (P : Program) (R : Rd α) (t e : TypeId) : Prop where
 ht : P.underlying t = some (.slice e)
 hi : ∃ (i : TypeInfo) (z : Value), P.info? e = some i /\ i.zero = some z /\ i.size = R.k /\ i.bytes = R.bytes /\ z.cells.size = R.k
 hk : 0 < R.k
 hb : 0 < R.bytes
theorem ElemOf.mk' {P : Program} {t : TypeId} (ht : P.underlying t = some (.slice e)) {z : Value} {k b : Nat} (h : (P.info? e).map (fun i => (i.zero, i.size, i.bytes)) = some (some z, k, b))
  (h1 : k = R.k) (h2 : b = R.bytes) (h3 : z.cells.size = R.k) (h4 : 0 < R.k) (h5 : 0 < R.bytes) : ElemOf P R t e := by
 obtain ⟨i, hi, hz, hs, hb⟩ := info_parts h
 exact ⟨ht, ⟨i, z, hi, hz, hs.trans h1, hb.trans h2, h3⟩, h4, h5⟩
end
def OwnS {α : Type} (R : Rd α) (e : TypeId) (w : World) (base : Nat) (S : Nat -> Prop) (v : Value) (xs : List α) : Prop :=
 ∃ cells, w.ownsRow base e R.k v xs.length cells /\ (∀ g, v.ownBlock = some g -> ¬ S g) /\ (0 < R.k -> xs.length * R.bytes <= 140737488355328) /\
  ∀ i x, xs[i]? = some x -> R.rel w S ((cells.drop (i * R.k)).take R.k) x
def Own {α : Type} (R : Rd α) (e : TypeId) (w : World) (base : Nat) (S0 : Nat -> Prop) (v : Value) (xs : List α) : Prop :=
 ∃ S, OwnS R e w base S v xs /\ ∀ b, S b -> Up S0 base b
section
variable {α : Type} {R : Rd α} {e : TypeId} {w w' : World} {S S' S0 : Nat -> Prop} {v : Value} {xs : List α} {x : α} {base : Nat}
theorem Own.nil (R : Rd α) (e : TypeId) (w : World) (base : Nat) (S0 : Nat -> Prop) : Own R e w base S0 (nl) [] :=
 ⟨fun _ => False, ⟨[], World.ownsRow_nil w base e R.k, fun _ _ h => h, fun _ => by simp, fun i x h => by simp at h⟩, fun _ h => h.elim⟩
theorem OwnS.kept {row : Option Nat} (h : OwnS R e w base S v xs) (hg : w.grownBy w' row) (hne : v.ownBlock = none \/ v.ownBlock ≠ row) (hS : ∀ g, row = some g -> ¬ S g) : OwnS R e w' base S v xs := by
 obtain ⟨cells, h1, h2, h3, h4⟩ := h
 exact ⟨cells, h1.kept hg hne, h2, h3, fun i x hx => R.keep (h4 i x hx) (.grown hg hS)⟩
theorem Below.grownBy_ {row : Option Nat} (h : Bw w w') : w.grownBy w' row := ⟨h.os, h.tape, h.output, h.size, fun k hk _ => h.block k hk⟩
theorem Own.below (h : Own R e w base S0 v xs) (hb : Bw w w') : Own R e w' base S0 v xs := by
 obtain ⟨S, h1, h2⟩ := h
 exact ⟨S, h1.kept (Below.grownBy_ (row := none) hb) (by cases v.ownBlock <;> simp) (fun _ h => by cases h), h2⟩
theorem Own.alloc (h : Own R e w base S0 v xs) (o : Obj) : Own R e (w.alloc o) base S0 v xs := h.below ((L0m _ _).alloc (L0g _) o)
theorem Own.drewN (h : Own R e w base S0 v xs) (n : Nat) : Own R e (w.drewN n) base S0 v xs := h.below ⟨rfl, rfl, rfl, L0g _, fun _ _ => rfl⟩
theorem Own.drew (h : Own R e w base S0 v xs) : Own R e w.drew base S0 v xs := h.below ⟨rfl, rfl, rfl, L0g _, fun _ _ => rfl⟩
theorem Own.rel (h : Own R e w base S0 v xs) (hk : 0 < R.k) : (rSl R).rel w (Up S0 base) [v] xs := by
 obtain ⟨S, ⟨cells, h1, h2, h3, h4⟩, h5⟩ := h
 rcases h1.2 with ⟨rfl, hn⟩ | ⟨g, cap, cur, rfl, hb, hh, hnc, hcm, hcs, htake⟩
 ·obtain rfl : xs = [] := L1g hn
  exact ⟨none, 0, rfl, L0g _, by simp, by simp, fun i x hx => by simp at hx⟩
 refine ⟨some (zn g 0), cap, rfl, hnc, hcm, h3 hk, fun i x hx => ?_⟩
 have hlt : g < w.heap.size := (L1v.1 hh).1
 refine ⟨g, 0, (cells.drop (i * R.k)).take R.k, rfl, .inr hb, hlt, R.mono (h4 i x hx) fun b hb _ => h5 b hb, fun j u hu => ?_⟩
 have hc := h1.cells (g := g) rfl (i * R.k + j) u (by
  rw [L3a] at hu
  split at hu
  ·rw [<- hu, L1p]
  cases hu)
 have hadd : ((zn g 0) : Addr).add (i * R.k + j) = (zn g (0 + i * R.k + j)) := by unfold Addr.add; split <;> simp_all
 rw [hadd] at hc
 exact hc
theorem Own.form (h : Own R e w base S0 v xs) : (v = nl /\ xs = []) \/ ∃ g cap, v = .slice (some (zn g 0)) xs.length cap /\ base <= g /\ g < w.heap.size := by
 obtain ⟨S, ⟨cells, h1, _⟩, _⟩ := h
 rcases h1.2 with ⟨rfl, hn⟩ | ⟨g, cap, cur, rfl, hb, hh, _⟩
 ·exact .inl ⟨rfl, L1g hn⟩
 exact .inr ⟨g, cap, rfl, hb, (L1v.1 hh).1⟩
theorem Own.value (h : Own R e w base S0 v xs) : ∃ A c, v = .slice A xs.length c := by
 rcases h.form with ⟨rfl, rfl⟩ | ⟨g, cap, rfl, _⟩
 ·exact ⟨none, 0, rfl⟩
 exact ⟨_, _, rfl⟩
theorem Own.lt (h : Own R e w base S0 v xs) : ∀ k, v.ownBlock = some k -> base <= k /\ k < w.heap.size := by
 obtain ⟨S, ⟨cells, h1, _⟩, _⟩ := h
 exact h1.lt
theorem Z1m {l m : List Value} {k n : Nat} (hl : l.length = n * k) (hm : m.length = k) (i : Nat) :
  (i < n -> ((l ++ m).drop (i * k)).take k = (l.drop (i * k)).take k) /\ (((l ++ m).drop (n * k)).take k = m) := by
 constructor
 ·intro hi
  have h1 : i * k + k <= l.length := by rw [hl, <- L2y]; exact L1c k hi
  rw [L2v (by omega), L1j (by rw [L1b]; omega)]
 rw [<- hl, List.drop_left, L0l (by omega)]
theorem Y0l {P : Program} (t ty : TypeId) (i : TypeInfo) (z : Value) (ht : P.underlying t = some (.slice e)) (hi : P.info? e = some i) (hz : i.zero = some z)
  (hsize : i.size = R.k) (hby : i.bytes = R.bytes) (hzs : z.cells.size = R.k) (hsz : 0 < R.k)
  (hown : Own R e w base S0 v xs) (ad : Addr) (c : Nat) (news : List Value) (S1 : Nat -> Prop) (hrel : R.rel w S1 news x)
  (hS1 : ∀ b, S1 b -> b < w.heap.size -> Up S0 base b /\ v.ownBlock ≠ some b) (hnews : ∀ j u, news[j]? = some u -> w.cell? (ad.add j) = some u)
  (h63 : xs.length + 1 <= maxLen) (hbytes : (xs.length + 1) * R.bytes <= 140737488355328) (hbase : base <= w.heap.size) :
  ∃ v' w', (Builtin.append_ #[t, t] ty #[v, .slice (some ad) 1 c]).run P w = .ok v' w' /\ Own R e w' base S0 v' (xs ++ [x]) /\ w.grownBy w' v.ownBlock /\
   (v'.ownBlock = v.ownBlock \/ v'.ownBlock = some w.heap.size) := by
 obtain ⟨S, ⟨cells, h1, h2, h3, h4⟩, h5⟩ := hown
 obtain ⟨v', w', hrun, k1, k2, _, k4⟩ := run_append_own_at (P := P) w base t ty e i z R.k R.bytes ht hi hz hsize hby hzs hsz v xs.length cells h1 ad 1 c news (by rw [Nat.one_mul]; exact R.len hrel) hnews (R.one hrel) h63 hbytes hbase
 refine ⟨v', w', hrun, ⟨fun b => (S b \/ S1 b) /\ b < w.heap.size /\ v.ownBlock ≠ some b, ⟨cells ++ news, by rw [L0i]; exact k1, ?_, fun _ => by rw [L0i]; exact hbytes, ?_⟩, ?_⟩, k2, k4⟩
 ·rintro g hg ⟨_, hlt, hne⟩
  rcases k4 with k4 | k4
  ·exact hne (k4 ▸ hg)
  rw [k4] at hg; injection hg with hg; omega
 ·intro j y hy
  have hl := h1.1
  obtain ⟨d1, d2⟩ := Z1m (k := R.k) hl (R.len hrel) j
  have hK : Keeps (fun b => (S b \/ S1 b) /\ b < w.heap.size /\ v.ownBlock ≠ some b) w w' := .grown k2 fun g hg ⟨_, _, hne⟩ => hne hg
  rcases L1r j xs.length with hj | hj
  ·rw [d1 hj]
   rw [L1l hj] at hy
   refine R.keep (R.mono (h4 j y hy) fun b hb hlt => ⟨.inl hb, hlt, fun hg => h2 b hg hb⟩) hK
  have hj' : j = xs.length := by
   have : j < (xs ++ [x]).length := (L0n.1 hy).1
   simp at this; omega
  subst hj'
  rw [d2]
  obtain rfl : x = y := by simpa using hy
  exact R.keep (R.mono hrel fun b hb hlt => ⟨.inr hb, hlt, (hS1 b hb hlt).2⟩) hK
 rintro b ⟨hb | hb, hlt, _⟩
 ·exact h5 b hb
 exact (hS1 b hb hlt).1
theorem Z8a {P : Program} {ops : Array Oper} {rest : List Oper} {o : Oper} {a : Act} {Q : Exit -> Act -> World -> Prop} (hgd : o.guard = none) (s y : Operand) (t : TypeId)
  (ho : o.op = .call { callee := .builtin .append, args := #[s, y], argTypes := #[t, t] })
  (i : TypeInfo) (z : Value) (ht : P.underlying t = some (.slice e)) (hi : P.info? e = some i) (hz : i.zero = some z)
  (hsize : i.size = R.k) (hby : i.bytes = R.bytes) (hzs : z.cells.size = R.k) (hsz : 0 < R.k) (hs : a.eval s = v) (hown : Own R e w base S0 v xs)
  (ad : Addr) (c : Nat) (news : List Value) (hx : a.eval y = .slice (some ad) 1 c) (S1 : Nat -> Prop) (hrel : R.rel w S1 news x)
  (hS1 : ∀ b, S1 b -> b < w.heap.size -> Up S0 base b /\ v.ownBlock ≠ some b) (hnews : ∀ j u, news[j]? = some u -> w.cell? (ad.add j) = some u)
  (h63 : xs.length + 1 <= maxLen) (hbytes : (xs.length + 1) * R.bytes <= 140737488355328) (hbase : base <= w.heap.size)
  (h : ∀ v' w', Own R e w' base S0 v' (xs ++ [x]) -> w.grownBy w' v.ownBlock -> (v'.ownBlock = v.ownBlock \/ v'.ownBlock = some w.heap.size) -> Below base w w' -> wpList P ops Q rest (a.put o.dst v') w') :
  wpList P ops Q (o :: rest) a w := by
 obtain ⟨v', w', hr, h2, h3, h4⟩ := Y0l (P := P) t o.type i z ht hi hz hsize hby hzs hsz hown ad c news S1 hrel hS1 hnews h63 hbytes hbase
 have hlt := hown.lt
 refine wpList_plain hgd fun K hK => ?_
 unfold Oper.wp execOp
 simp only [ho, resolve, invoke, builtin, Sem.run_bind, Sem.run_pure, Result.andThen_ok, L4e, L2q, L4h, hs, hx, hr]
 exact hK _ _ (h v' w' h2 h3 h4 ((L0m base w).grown h3 hbase fun k hk => (hlt k hk).1))
theorem Elems.flat {A : Option Addr} (hE : Elems R w S A xs) (hn : 0 < xs.length) : ∃ (b off : Nat) (news : List Value), A = some (zn b off) /\ news.length = xs.length * R.k /\
  (∀ j u, news[j]? = some u -> w.cell? (zn b (off + j)) = some u) /\ ∀ i x, xs[i]? = some x -> R.rel w S ((news.drop (i * R.k)).take R.k) x := by
 obtain ⟨b, off, es0, hA, _, _, _, _⟩ := hE 0 xs[0] (L0f hn)
 have hcell : ∀ i (hi : i < xs.length), ∃ es : List Value, es.length = R.k /\ R.rel w S es xs[i] /\ ∀ j u, es[j]? = some u -> w.cell? (zn b (off + i * R.k + j)) = some u := by
  intro i hi
  obtain ⟨b', off', es, hA', _, _, hr, hc⟩ := hE i xs[i] (L0f hi)
  rw [hA] at hA'
  obtain ⟨rfl, rfl⟩ : b = b' /\ off = off' := by simpa using hA'
  exact ⟨es, R.len hr, hr, hc⟩
 have key : ∀ n, n <= xs.length -> ∃ news : List Value, news.length = n * R.k /\ (∀ j u, news[j]? = some u -> w.cell? (zn b (off + j)) = some u) /\
   ∀ i x, i < n -> xs[i]? = some x -> R.rel w S ((news.drop (i * R.k)).take R.k) x := by
  intro n
  induction n with
  | zero => intro _; exact ⟨[], by simp, fun j u h => by simp at h, fun i x h => by omega⟩
  | succ n ih =>
   intro hn
   obtain ⟨news, h1, h2, h3⟩ := ih (by omega)
   obtain ⟨es, k1, k2, k3⟩ := hcell n (by omega)
   refine ⟨news ++ es, by rw [L0i, h1, k1, L2y], fun j u hu => ?_, fun i x hi hx => ?_⟩
   ·rcases L1r j news.length with hj | hj
    ·rw [L1l hj] at hu
     exact h2 j u hu
    rw [L3g hj] at hu
    have := k3 _ u hu
    rw [h1] at this
    rw [h1] at hj
    have e : off + n * R.k + (j - n * R.k) = off + j := by omega
    rwa [e] at this
   rcases L1r i n with hlt | hge
   ·rw [(Z1m (k := R.k) h1 k1 i).1 hlt]
    exact h3 i x hlt hx
   obtain rfl : i = n := by omega
   rw [(Z1m (k := R.k) h1 k1 i).2]
   obtain ⟨_, rfl⟩ := L0n.1 hx
   exact k2
 obtain ⟨news, h1, h2, h3⟩ := key xs.length (L0g _)
 exact ⟨b, off, news, hA, h1, h2, fun i x hx => h3 i x (L0n.1 hx).1 hx⟩
theorem Z98 {P : Program} {t ty : TypeId} (hT : ElemOf P R t e)
  (hown : Own R e w base S0 v xs) {A : Option Addr} {m c : Nat} {ys : List α} {S2 : Nat -> Prop} (S1 : Nat -> Prop) (hm : ys.length = m) (hE : Elems R w S2 A ys) (hC : ∀ es y, R.rel w S2 es y -> R.rel w S1 es y)
  (hS1 : ∀ b, S1 b -> b < w.heap.size -> Up S0 base b /\ v.ownBlock ≠ some b)
  (hbytes : (xs.length + m) * R.bytes <= 140737488355328) (hbase : base <= w.heap.size) :
  ∃ v' w', (Builtin.append_ #[t, t] ty #[v, .slice A m c]).run P w = .ok v' w' /\ Own R e w' base S0 v' (xs ++ ys) /\ w.grownBy w' v.ownBlock /\
   (v'.ownBlock = v.ownBlock \/ v'.ownBlock = some w.heap.size) := by
 obtain ⟨i, z, hi, hz, hs1, hs2, hs3⟩ := hT.hi
 rcases L2p m with h0 | h0
 ·subst h0
  have hys : ys = [] := L1g hm
  subst hys
  refine ⟨v, w, ?_, by simpa using hown, ⟨rfl, rfl, rfl, L0g _, fun _ _ _ => rfl⟩, .inl rfl⟩
  obtain ⟨S, ⟨cells, h1, _⟩, _⟩ := hown
  rcases h1.2 with ⟨rfl, _⟩ | ⟨g, cap, cur, rfl, _, _, hnc, _⟩
  ·cases A <;> simp [Builtin.append_, run_underlying hT.ht, sizeOf, typeInfo, hi, Builtin.lenOf, Builtin.firstCells, loadCells, loadCellsFrom]
  cases A <;> simp [Builtin.append_, run_underlying hT.ht, sizeOf, typeInfo, hi, Builtin.lenOf, Builtin.firstCells, loadCells, loadCellsFrom, storeCells, hnc]
 obtain ⟨b1, off1, news, rfl, n1, n2, n3⟩ := hE.flat (by omega)
 obtain ⟨S, ⟨cells, h1, h2, h3, h4⟩, h5⟩ := hown
 have hone : ∀ u ∈ news, u.oneCell' = true := by
  intro u hu
  obtain ⟨j, hj, rfl⟩ := L1u hu
  have hk := hT.hk
  have hjk : j / R.k < ys.length := by rw [Nat.div_lt_iff_lt_mul hk, <- n1]; exact hj
  refine R.one (n3 (j / R.k) ys[j / R.k] (L0f hjk)) _ ?_
  rw [L2n]
  have hmod := Nat.mod_lt j hk
  have hdm := Nat.div_add_mod j R.k
  have hcm : R.k * (j / R.k) = j / R.k * R.k := Nat.mul_comm _ _
  refine ⟨j % R.k, ?_, ?_⟩
  ·rw [L1b]; omega
  rw [List.getElem_drop]
  congr 1
  omega
 have hadd : ∀ j, ((zn b1 off1) : Addr).add j = (zn b1 (off1 + j)) := by intro j; unfold Addr.add; split <;> simp_all
 have h63 : xs.length + m <= maxLen := by
  have := L3p (xs.length + m) hT.hb
  unfold maxLen; omega
 obtain ⟨v', w', hrun, k1, k2, _, k4⟩ := run_append_own_at (P := P) w base t ty e i z R.k R.bytes hT.ht hi hz hs1 hs2 hs3 hT.hk v xs.length cells h1 (zn b1 off1) m c news (by rw [n1, hm])
  (fun j u hu => by rw [hadd]; exact n2 j u hu) hone h63 hbytes hbase
 refine ⟨v', w', hrun, ⟨fun b => (S b \/ S1 b) /\ b < w.heap.size /\ v.ownBlock ≠ some b, ⟨cells ++ news, by rw [L0i, hm]; exact k1, ?_, fun _ => by rw [L0i, hm]; exact hbytes, ?_⟩, ?_⟩, k2, k4⟩
 ·rintro g hg ⟨_, hlt, hne⟩
  rcases k4 with k4 | k4
  ·exact hne (k4 ▸ hg)
  rw [k4] at hg; injection hg with hg; omega
 ·intro j y hy
  have hl := h1.1
  have hK : Keeps (fun b => (S b \/ S1 b) /\ b < w.heap.size /\ v.ownBlock ≠ some b) w w' := .grown k2 fun g hg ⟨_, _, hne⟩ => hne hg
  rcases L1r j xs.length with hj | hj
  ·have hjk : j * R.k + R.k <= cells.length := by rw [hl, <- L2y]; exact L1c _ hj
   rw [L2v (by omega), L1j (by rw [L1b]; omega)]
   rw [L1l hj] at hy
   exact R.keep (R.mono (h4 j y hy) fun b hb hlt => ⟨.inl hb, hlt, fun hg => h2 b hg hb⟩) hK
  rw [L3g hj] at hy
  have he : (cells ++ news).drop (j * R.k) = news.drop ((j - xs.length) * R.k) := by
   rw [List.drop_append, L0u (by rw [hl]; exact L1c _ hj), L1o, hl, Nat.sub_mul]
  rw [he]
  exact R.keep (R.mono (hC _ _ (n3 _ y hy)) fun b hb hlt => ⟨.inr hb, hlt, (hS1 b hb hlt).2⟩) hK
 rintro b ⟨hb | hb, hlt, _⟩
 ·exact h5 b hb
 exact (hS1 b hb hlt).1
theorem Z6j {P : Program} {o : Oper} {a : Act} {K : Act -> World -> Prop} {Q : Exit -> Act -> World -> Prop} {t : TypeId} (hT : ElemOf P R t e) (s y : Operand)
  (ho : o.op = .call { callee := .builtin .append, args := #[s, y], argTypes := #[t, t] })
  (hs : a.eval s = v) (hown : Own R e w base S0 v xs) {A : Option Addr} {m c : Nat} (hx : a.eval y = .slice A m c) {ys : List α} {S2 : Nat -> Prop} (S1 : Nat -> Prop) (hm : ys.length = m) (hE : Elems R w S2 A ys) (hC : ∀ es y, R.rel w S2 es y -> R.rel w S1 es y)
  (hS1 : ∀ b, S1 b -> b < w.heap.size -> Up S0 base b /\ v.ownBlock ≠ some b)
  (hbytes : (xs.length + m) * R.bytes <= 140737488355328) (hbase : base <= w.heap.size)
  (h : ∀ v' w', Own R e w' base S0 v' (xs ++ ys) -> Below base w w' -> w.grownBy w' v.ownBlock -> (v'.ownBlock = v.ownBlock \/ v'.ownBlock = some w.heap.size) -> K (a.put o.dst v') w') : o.wp P a w K Q := by
 obtain ⟨v', w', hr, h2, h3, h4⟩ := Z98 (P := P) (t := t) (ty := o.type) (c := c) hT hown S1 hm hE hC hS1 hbytes hbase
 have hlt := hown.lt
 unfold Oper.wp execOp
 simp only [ho, resolve, invoke, builtin, Sem.run_bind, Sem.run_pure, Result.andThen_ok, L4e, L2q, L4h, hs, hx, hr]
 exact h v' w' h2 ((L0m base w).grown h3 hbase fun k hk => (hlt k hk).1) h3 h4
theorem Z37 {P : Program} {ops : Array Oper} {rest : List Oper} {o : Oper} {a : Act} {Q : Exit -> Act -> World -> Prop} {t : TypeId} (hT : ElemOf P R t e) (hgd : o.guard = none) (s y : Operand)
  (ho : o.op = .call { callee := .builtin .append, args := #[s, y], argTypes := #[t, t] })
  (hs : a.eval s = v) (hown : Own R e w base S0 v xs) {A : Option Addr} {m c : Nat} (hx : a.eval y = .slice A m c) {ys : List α} {S2 : Nat -> Prop} (S1 : Nat -> Prop) (hm : ys.length = m) (hE : Elems R w S2 A ys) (hC : ∀ es y, R.rel w S2 es y -> R.rel w S1 es y)
  (hS1 : ∀ b, S1 b -> b < w.heap.size -> Up S0 base b /\ v.ownBlock ≠ some b)
  (hbytes : (xs.length + m) * R.bytes <= 140737488355328) (hbase : base <= w.heap.size)
  (h : ∀ v' w', Own R e w' base S0 v' (xs ++ ys) -> Below base w w' -> w.grownBy w' v.ownBlock -> (v'.ownBlock = v.ownBlock \/ v'.ownBlock = some w.heap.size) -> wpList P ops Q rest (a.put o.dst v') w') :
  wpList P ops Q (o :: rest) a w :=
 wpList_plain hgd fun _ hK => Z6j hT s y ho hs hown hx S1 hm hE hC hS1 hbytes hbase fun v' w' k1 k2 k3 k4 => hK _ _ (h v' w' k1 k2 k3 k4)
theorem Z5d {P : Program} {ops : Array Oper} {o : Oper} {a : Act} {K : Act -> World -> Prop} {Q : Exit -> Act -> World -> Prop} {E : Prop} {t : TypeId} (hT : ElemOf P R t e) (hgd : o.guard = none) (s y : Operand)
  (ho : o.op = .call { callee := .builtin .append, args := #[s, y], argTypes := #[t, t] })
  (hs : a.eval s = v) (hown : Own R e w base S0 v xs) {A : Option Addr} {m c : Nat} (hx : a.eval y = .slice A m c) {ys : List α} {S2 : Nat -> Prop} (S1 : Nat -> Prop) (hm : ys.length = m) (hE : Elems R w S2 A ys) (hC : ∀ es y, R.rel w S2 es y -> R.rel w S1 es y)
  (hS1 : ∀ b, S1 b -> b < w.heap.size -> Up S0 base b /\ v.ownBlock ≠ some b)
  (hbytes : (xs.length + m) * R.bytes <= 140737488355328) (hbase : base <= w.heap.size)
  (h : ∀ v' w', Own R e w' base S0 v' (xs ++ ys) -> Below base w w' -> w.grownBy w' v.ownBlock -> (v'.ownBlock = v.ownBlock \/ v'.ownBlock = some w.heap.size) -> K (a.put o.dst v') w') :
  if Region.wanted o (yielded ops a.tmps) = true then Oper.wp P o a w K Q else E := by
 rw [if_pos (by simp [Region.wanted, hgd])]
 exact Z6j hT s y ho hs hown hx S1 hm hE hC hS1 hbytes hbase h
def Flat (R : Rd α) : Prop := ∀ w w' S S' cs x, R.rel w S cs x -> R.rel w' S' cs x
theorem Own.flat (h : Own R e w base S0 v xs) (hF : Flat R) : Own R e w base (fun _ => False) v xs := by
 obtain ⟨S, ⟨cells, h1, h2, h3, h4⟩, h5⟩ := h
 exact ⟨fun _ => False, ⟨cells, h1, fun _ _ h => h, h3, fun i x hx => hF _ _ _ _ _ _ (h4 i x hx)⟩, fun _ h => h.elim⟩
theorem Own.fresh (_hk : 0 < R.k) (cs : List Value) (hrel : R.rel w S0 cs x) (hb : R.bytes <= 140737488355328) {n : Nat} (hn : w.heap.size = n) :
  Own R e (w.alloc (.cells cs.toArray e)) n S0 (.slice (some (zn n 0)) 1 1) [x] := by
 subst hn
 have hl := R.len hrel
 refine ⟨fun b => S0 b /\ b < w.heap.size, ⟨cs, ⟨by simp [hl], .inr ⟨w.heap.size, 1, cs.toArray, rfl, L0g _, heap_alloc_new w _, L0g _, by decide, by simp [hl], by simp only [L0p, Nat.one_mul]; rw [L0l (by omega)]⟩⟩, ?_, fun _ => by simpa using hb, fun i y hy => ?_⟩, fun b hb => .inl hb.1⟩
 ·rintro g hg ⟨_, hlt⟩
  simp [Value.ownBlock] at hg
  omega
 match i, hy with
 | 0, hy =>
  obtain rfl : x = y := by simpa using hy
  have : (cs.drop (0 * R.k)).take R.k = cs := by rw [Nat.zero_mul, L3h, L0l (by omega)]
  rw [this]
  exact R.keep (R.mono hrel fun b hb hlt => ⟨hb, hlt⟩) (.alloc _)
theorem Elems.keep {A : Option Addr} {w' : World} (hE : Elems R w S A xs) (hk : Keeps S w w') : Elems R w' S A xs := by
 intro i x hx
 obtain ⟨b, off, es, hA, hS, hb, hr, hc⟩ := hE i x hx
 refine ⟨b, off, es, hA, hS, ?_, R.keep hr hk, fun j u hu => hk.cell (a := (zn b (off + i * R.k + j))) hS (hc j u hu)⟩
 have := hk b hS hb
 rcases L1r b w'.heap.size with hlt | hge
 ·exact hlt
 rw [L3f hge, L2t hb] at this; cases this
theorem Elems.mono {A : Option Addr} {S' : Nat -> Prop} (hE : Elems R w S A xs) (hk : ∀ b, S b -> b < w.heap.size -> S' b) : Elems R w S' A xs := by
 intro i x hx
 obtain ⟨b, off, es, hA, hS, hb, hr, hc⟩ := hE i x hx
 exact ⟨b, off, es, hA, hk b hS hb, hb, R.mono hr hk, hc⟩
theorem Elems.drop {A : Option Addr} (hE : Elems R w S A xs) (k : Nat) : Elems R w S (A.map (·.add (k * R.k))) (xs.drop k) := by
 intro i x hx
 rw [L1p] at hx
 obtain ⟨b, off, es, rfl, hS, hb, hr, hc⟩ := hE (k + i) x hx
 have hadd : ((zn b off) : Addr).add (k * R.k) = (zn b (off + k * R.k)) := by unfold Addr.add; split <;> simp_all
 refine ⟨b, off + k * R.k, es, by rw [Option.map_some, hadd], hS, hb, hr, fun j u hu => ?_⟩
 have := hc j u hu
 rw [Nat.add_mul, <- Nat.add_assoc off] at this
 exact this
theorem Own.lower (h : Own R e w base S0 v xs) {base' : Nat} (hb : base' <= base) : Own R e w base' S0 v xs := by
 obtain ⟨S, ⟨cells, h1, h2, h3, h4⟩, h5⟩ := h
 refine ⟨S, ⟨cells, ⟨h1.1, ?_⟩, h2, h3, h4⟩, fun b hb' => (h5 b hb').imp id (L0h hb)⟩
 rcases h1.2 with h0 | ⟨g, cap, cur, hv, hg, rest⟩
 ·exact .inl h0
 exact .inr ⟨g, cap, cur, hv, L0h hb hg, rest⟩
theorem Own.set (h : Own R e w base S0 v xs) {g cap : Nat} (hv : v = .slice (some (zn g 0)) xs.length cap) {i j : Nat} {x' : α} {u : Value} (hi : i < xs.length) (hj : j < R.k)
  (hrel : ∀ es S, R.rel w S es xs[i] -> R.rel w S (es.set j u) x') : Own R e (w.setCell (zn g (i * R.k + j)) u) base S0 v (xs.set i x') := by
 obtain ⟨S, ⟨cells, h1, h2, h3, h4⟩, h5⟩ := h
 have hlen := h1.1
 have hgS : ¬ S g := h2 g (by rw [hv]; rfl)
 have hK : Keeps S w (w.setCell (zn g (i * R.k + j)) u) := .setCell hgS u
 have hik : i * R.k + R.k <= xs.length * R.k := by rw [<- L2y]; exact L1c _ hi
 refine ⟨S, ⟨cells.set (i * R.k + j) u, ⟨by simp [hlen], ?_⟩, h2, by simpa using h3, fun m y hy => ?_⟩, h5⟩
 ·rcases h1.2 with ⟨hn, h0⟩ | ⟨g', cap', cur, hv', hb, hh, hnc, hcm, hcs, htake⟩
  ·omega
  obtain ⟨rfl, rfl⟩ : g' = g /\ cap' = cap := by
   rw [hv'] at hv
   injection hv with ha _ hc
   injection ha with ha
   injection ha with hb' _ _
   exact ⟨hb', hc⟩
  refine .inr ⟨g', cap', cur.setIfInBounds (i * R.k + j) u, by simpa using hv', hb, ?_, by simpa using hnc, hcm, by simpa using hcs, ?_⟩
  ·have hlt : g' < w.heap.size := (L1v.1 hh).1
   simp only [World.setCell, L2w, hh, if_pos]
   simp
  simp only [Array.toList_setIfInBounds, L3s]
  rw [List.take_set, htake]
 rcases Nat.lt_trichotomy m i with hlt | rfl | hgt
 ·have hm : ((cells.set (i * R.k + j) u).drop (m * R.k)).take R.k = (cells.drop (m * R.k)).take R.k := by
   have hle : m * R.k + R.k <= i * R.k := by rw [<- L2y]; exact L1c _ hlt
   rw [List.drop_set, if_neg (by omega), List.take_set_of_le (by omega)]
  rw [hm]
  rw [L3d (by omega)] at hy
  exact R.keep (h4 m y hy) hK
 ·obtain rfl : x' = y := by
   rw [L2r hi] at hy
   exact L0s hy
  have hm : ((cells.set (m * R.k + j) u).drop (m * R.k)).take R.k = ((cells.drop (m * R.k)).take R.k).set j u := by
   rw [List.drop_set, if_neg (by omega), show m * R.k + j - m * R.k = j by omega, List.take_set]
  rw [hm]
  exact R.keep (hrel _ _ (h4 m xs[m] (L0f hi))) hK
 have hm : ((cells.set (i * R.k + j) u).drop (m * R.k)).take R.k = (cells.drop (m * R.k)).take R.k := by
  have hle : i * R.k + R.k <= m * R.k := by rw [<- L2y]; exact L1c _ hgt
  rw [List.drop_set, if_pos (by omega)]
 rw [hm]
 rw [L3d (by omega)] at hy
 exact R.keep (h4 m y hy) hK
theorem Z6q (w : World) (cs : List Value) (t : TypeId) : ∀ j u, cs[j]? = some u -> (w.alloc (.cells cs.toArray t)).cell? (((zn w.heap.size 0) : Addr).add j) = some u := by
 intro j u hu
 have hadd : ((zn w.heap.size 0) : Addr).add j = (zn w.heap.size j) := by unfold Addr.add; split <;> simp_all
 rw [hadd, L0b]
 simpa using hu
theorem Z0a {P : Program} {ops : Array Oper} {rest : List Oper} {o : Oper} {a : Act} {Q : Exit -> Act -> World -> Prop} {t : TypeId} (hT : ElemOf P R t e) (hgd : o.guard = none) (s y : Operand)
  (ho : o.op = .call { callee := .builtin .append, args := #[s, y], argTypes := #[t, t] })
  (hs : a.eval s = v) (hown : Own R e w base S0 v xs) (cs : List Value) {n : Nat} (hx : a.eval y = .slice (some (zn n 0)) 1 1) (hn : w.heap.size = n) (S1 : Nat -> Prop) (hrel : R.rel w S1 cs x)
  (hS1 : ∀ b, S1 b -> b < w.heap.size -> Up S0 base b /\ v.ownBlock ≠ some b)
  (hbytes : (xs.length + 1) * R.bytes <= 140737488355328) (hbase : base <= w.heap.size)
  (h : ∀ v' w', Own R e w' base S0 v' (xs ++ [x]) -> Below base w w' -> w.grownBy w' v.ownBlock -> (v'.ownBlock = v.ownBlock \/ v'.ownBlock = some (w.heap.size + 1)) -> wpList P ops Q rest (a.put o.dst v') w') :
  wpList P ops Q (o :: rest) a (w.alloc (.cells cs.toArray e)) := by
 subst hn
 obtain ⟨i, z, hi, hz, h1, h2, h3⟩ := hT.hi
 have hlt := hown.lt
 refine Z8a hgd s y t ho i z hT.ht hi hz h1 h2 h3 hT.hk hs (hown.alloc _) (zn w.heap.size 0) 1 cs hx (fun b => S1 b /\ b < w.heap.size)
  (R.keep (R.mono hrel (fun b hb hlt => ⟨hb, hlt⟩)) (.alloc _)) (fun b hb _ => hS1 b hb.1 hb.2) (Z6q w cs e) ?_ hbytes (by simp; omega) ?_
 ·have := L3p (xs.length + 1) hT.hb
  unfold maxLen; omega
 intro v' w' k1 k2 k3 k4
 have hg : w.grownBy w' v.ownBlock := ⟨k2.os, k2.tape, k2.output, L0h (by simp) k2.size, fun j hj hne => (k2.block j (by simp; omega) hne).trans (L3z w _ j hj)⟩
 exact h v' w' k1 ((L0m base w).grown hg hbase fun g hg' => (hlt g hg').1) hg (by simpa using k3)
theorem Own.free (h : Own R e w base S0 v xs) {g cap n : Nat} (hv : v = .slice (some (zn g 0)) n cap) (off : Nat) : w.frozen? (zn g off) = false := by
 obtain ⟨S, ⟨cells, h1, _⟩, _⟩ := h
 rcases h1.2 with ⟨hn, _⟩ | ⟨g', cap', cur, hv', hb, hh, _⟩
 ·rw [hv] at hn; cases hn
 rw [hv] at hv'
 injection hv' with ha _ _
 injection ha with ha
 injection ha with hb' _ _
 subst hb'
 simp [World.frozen?, hh]
theorem Own.elems (h : Own R e w base S0 v xs) (hk : 0 < R.k) {A : Option Addr} {n c : Nat} (hv : v = .slice A n c) : n = xs.length /\ Elems R w (Up S0 base) A xs := by
 obtain ⟨A', c', hv', _, _, _, hE⟩ := h.rel hk
 simp only [L1f, and_true] at hv'
 rw [hv] at hv'
 injection hv' with h1 h2 h3
 subst h1
 exact ⟨h2, hE⟩
end
theorem Z0h {B : Nat} {a w : World} (h : Below B a w) (n : Nat) : Below B a (w.drewN n) := ⟨h.os, h.tape, h.output, h.size, h.block⟩
theorem Z78 {k : IntKind} {a b : Int} (h : a = b) : Ending.returned (.int k a) = .returned (.int k b) := by rw [h]
theorem Z0m {a b : Bool} (h : a = b) : Ending.returned (.bool a) = .returned (.bool b) := by rw [h]
end Go.Proofs.YtlopccnehgolnacGreatDoor
namespace Go.RowKit
theorem Hid.o {p : Prop} (h : Hid p) : p := h
theorem Below.ce {B q : Nat} {w w' : World} (h : Below B w w') (j : Nat) (hq : q < B) : w'.cell? ⟨q, j, none⟩ = w.cell? ⟨q, j, none⟩ := h.cell (p := ⟨q, j, none⟩) hq
theorem Below.fr {B q : Nat} {w w' : World} (h : Below B w w') (j : Nat) (hq : q < B) : w'.frozen? ⟨q, j, none⟩ = w.frozen? ⟨q, j, none⟩ := h.frozen (p := ⟨q, j, none⟩) hq
theorem bA {w : World} {o : Obj} : Below w.heap.size w (w.alloc o) := (Below.refl _ _).alloc (Nat.le_refl _) _
end Go.RowKit
namespace Go.Proofs.YtlopccnehgolnacGreatDoor
open Go.RowKit
theorem ac0 {w W : World} {a0 : Value} {l : List Value} {t : TypeId} (e : w.alloc (.cells (a0 :: l).toArray t) = W) : W.cell? (zn w.heap.size 0) = some a0 := e ▸ L0b _ _ _ _
theorem ac1 {w W : World} {a0 a1 : Value} {l : List Value} {t : TypeId} (e : w.alloc (.cells (a0 :: a1 :: l).toArray t) = W) : W.cell? (zn w.heap.size 1) = some a1 := e ▸ L0b _ _ _ _
theorem ac2 {w W : World} {a0 a1 a2 : Value} {l : List Value} {t : TypeId} (e : w.alloc (.cells (a0 :: a1 :: a2 :: l).toArray t) = W) : W.cell? (zn w.heap.size 2) = some a2 := e ▸ L0b _ _ _ _
theorem ac3 {w W : World} {a0 a1 a2 a3 : Value} {l : List Value} {t : TypeId} (e : w.alloc (.cells (a0 :: a1 :: a2 :: a3 :: l).toArray t) = W) : W.cell? (zn w.heap.size 3) = some a3 := e ▸ L0b _ _ _ _
theorem ac4 {w W : World} {a0 a1 a2 a3 a4 : Value} {l : List Value} {t : TypeId} (e : w.alloc (.cells (a0 :: a1 :: a2 :: a3 :: a4 :: l).toArray t) = W) : W.cell? (zn w.heap.size 4) = some a4 := e ▸ L0b _ _ _ _
theorem ac5 {w W : World} {a0 a1 a2 a3 a4 a5 : Value} {l : List Value} {t : TypeId} (e : w.alloc (.cells (a0 :: a1 :: a2 :: a3 :: a4 :: a5 :: l).toArray t) = W) : W.cell? (zn w.heap.size 5) = some a5 := e ▸ L0b _ _ _ _
theorem ac6 {w W : World} {a0 a1 a2 a3 a4 a5 a6 : Value} {l : List Value} {t : TypeId} (e : w.alloc (.cells (a0 :: a1 :: a2 :: a3 :: a4 :: a5 :: a6 :: l).toArray t) = W) : W.cell? (zn w.heap.size 6) = some a6 := e ▸ L0b _ _ _ _
theorem ac7 {w W : World} {a0 a1 a2 a3 a4 a5 a6 a7 : Value} {l : List Value} {t : TypeId} (e : w.alloc (.cells (a0 :: a1 :: a2 :: a3 :: a4 :: a5 :: a6 :: a7 :: l).toArray t) = W) : W.cell? (zn w.heap.size 7) = some a7 := e ▸ L0b _ _ _ _
end Go.Proofs.YtlopccnehgolnacGreatDoor
namespace Go.Proofs.YtlopccnehgolnacGreatDoor.Rb
open Bool renaming and_eq_true -> jA, eq_iff_iff -> jB, or_eq_true -> jC
open List renaming mem_append -> jD
abbrev Rg := Int × Int
def MX : Int := 1000000
def inR (r : Rg) (n : Int) : Bool := decide (r.1 <= n) && decide (n <= r.2)
def hasL (l : List Rg) (n : Int) : Bool := l.any fun r => inR r n
def Z0z (n : Int) : Bool := decide (-MX <= n) && decide (n <= MX)
theorem Z07 (n : Int) : Z0z n = true ↔ -1000000 <= n /\ n <= 1000000 := by
 unfold Z0z
 rw [jA, decide_eq_true_iff, decide_eq_true_iff]
 exact Iff.rfl
def GoodFrom : Int -> List Rg -> Prop
 | _, [] => True
 | last, r :: t => -MX <= r.1 /\ r.2 <= MX /\ r.1 <= r.2 /\ last + 1 < r.1 /\ GoodFrom r.2 t
def Z2w (l : List Rg) : Prop := GoodFrom (-MX - 2) l
instance : ∀ (a : Int) (l : List Rg), Decidable (GoodFrom a l)
 | _, [] => .isTrue trivial
 | a, r :: t => by
  unfold GoodFrom
  have := instDecidableGoodFrom r.2 t
  infer_instance
instance (l : List Rg) : Decidable (Z2w l) := by unfold Z2w; infer_instance
theorem Z40 (n : Int) : hasL [] n = false := rfl
theorem Z1n (r : Rg) (l : List Rg) (n : Int) : hasL (r :: l) n = (inR r n || hasL l n) := rfl
theorem Z1j (a b : List Rg) (n : Int) : hasL (a ++ b) n = (hasL a n || hasL b n) := by simp [hasL]
theorem Z2o (r : Rg) (n : Int) : inR r n = true ↔ r.1 <= n /\ n <= r.2 := by simp [inR]
theorem GoodFrom.above : ∀ {l : List Rg} {a : Int}, GoodFrom a l -> ∀ n, hasL l n = true -> a + 1 < n
 | [], _, _, n, h => by simp [Z40] at h
 | r :: t, a, hg, n, h => by
  obtain ⟨_, _, h3, h4, h5⟩ := hg
  rw [Z1n, jC, Z2o] at h
  rcases h with h | h
  ·omega
  have := h5.above n h
  omega
theorem Z6o : ∀ {a b : List Rg} {x y : Int}, GoodFrom x a -> GoodFrom y b -> (∀ n, hasL a n = hasL b n) -> a = b
 | [], [], _, _, _, _, _ => rfl
 | [], r :: t, _, _, _, hb, h => by
  have := h r.1
  rw [Z40, Z1n, (Z2o r r.1).2 ⟨by omega, hb.2.2.1⟩] at this
  cases this
 | r :: t, [], _, _, ha, _, h => by
  have := h r.1
  rw [Z40, Z1n, (Z2o r r.1).2 ⟨by omega, ha.2.2.1⟩] at this
  cases this
 | (p, q) :: t, (p', q') :: t', x, y, ha, hb, h => by
  obtain ⟨_, _, a3, a4, a5⟩ := ha
  obtain ⟨_, _, b3, b4, b5⟩ := hb
  dsimp only at a3 a4 a5 b3 b4 b5
  have ht : ∀ n, hasL t n = true -> q + 1 < n := a5.above
  have ht' : ∀ n, hasL t' n = true -> q' + 1 < n := b5.above
  have hf : ∀ n, (p <= n /\ n <= q \/ hasL t n = true) ↔ (p' <= n /\ n <= q' \/ hasL t' n = true) := fun n => by
   have := h n
   rw [Z1n, Z1n, jB, jC, jC, Z2o, Z2o] at this
   exact this
  have hp : p = p' := by
   have h1 := (hf p).1 (.inl ⟨by omega, a3⟩)
   have h2 := (hf p').2 (.inl ⟨by omega, b3⟩)
   have h3 := fun h => ht' p h
   have h4 := fun h => ht p' h
   rcases h1 with h1 | h1 <;> rcases h2 with h2 | h2 <;> first | omega | (have := h3 h1; omega) | (have := h4 h2; omega) | (have := h3 h1; have := h4 h2; omega)
  subst hp
  have hq : q = q' := by
   rcases Int.lt_trichotomy q q' with hlt | heq | hgt
   ·have h1 := (hf (q + 1)).2 (.inl ⟨by omega, by omega⟩)
    rcases h1 with h1 | h1
    ·omega
    have := ht _ h1; omega
   ·exact heq
   have h1 := (hf (q' + 1)).1 (.inl ⟨by omega, by omega⟩)
   rcases h1 with h1 | h1
   ·omega
   have := ht' _ h1; omega
  subst hq
  have : t = t' := by
   refine Z6o a5 b5 fun n => ?_
   have := hf n
   have h3 := fun h => ht' n h
   have h4 := fun h => ht n h
   rw [jB]
   constructor
   ·intro hh
    rcases this.1 (.inr hh) with h1 | h1
    ·have := h4 hh; omega
    exact h1
   intro hh
   rcases this.2 (.inr hh) with h1 | h1
   ·have := h3 hh; omega
   exact h1
  rw [this]
def clip (l : List Rg) : List Rg := (l.map fun r => (max r.1 (-MX), min r.2 MX)).filter fun r => decide (r.1 <= r.2)
theorem Z5a (l : List Rg) (n : Int) : hasL (clip l) n = (Z0z n && hasL l n) := by
 induction l with
 | nil => simp [clip, hasL]
 | cons r t ih =>
  have e : clip (r :: t) = (if max r.1 (-MX) <= min r.2 MX then [(max r.1 (-MX), min r.2 MX)] else []) ++ clip t := by
   simp only [clip, List.map_cons, List.filter_cons]
   split <;> simp_all
  rw [e, Z1j, ih, Z1n]
  by_cases h1 : max r.1 (-MX) <= min r.2 MX
  ·rw [if_pos h1, Z1n, Z40, jB]
   cases hasL t n <;> simp [inR, Z0z] <;> omega
  rw [if_neg h1, Z40, jB]
  cases hasL t n <;> simp [inR, Z0z] <;> omega
def Z6h (out : List Rg) (r : Rg) : List Rg :=
 match out.getLast? with
 | some x => if r.1 <= x.2 + 1 then out.dropLast ++ [(x.1, max x.2 r.2)] else out ++ [r]
 | none => [r]
def Z7f (l : List Rg) : List Rg := l.foldl Z6h []
def Acc (b : Int) (l : List Rg) : Prop := GoodFrom (-MX - 2) l /\ ∀ r ∈ l, r.1 <= b
theorem GoodFrom.snoc : ∀ {l : List Rg} {a : Int} {r : Rg}, GoodFrom a l -> -MX <= r.1 -> r.2 <= MX -> r.1 <= r.2 -> a + 1 < r.1 -> (∀ x ∈ l, x.2 + 1 < r.1) -> GoodFrom a (l ++ [r])
 | [], _, _, _, h1, h2, h3, h4, _ => ⟨h1, h2, h3, h4, trivial⟩
 | x :: t, a, r, hg, h1, h2, h3, h4, h5 => ⟨hg.1, hg.2.1, hg.2.2.1, hg.2.2.2.1, GoodFrom.snoc hg.2.2.2.2 h1 h2 h3 (h5 x (by simp)) fun y hy => h5 y (by simp [hy])⟩
theorem GoodFrom.his : ∀ {l : List Rg} {a : Int}, GoodFrom a l -> ∀ x ∈ l, a + 1 < x.1 /\ x.1 <= x.2 /\ -MX <= x.1 /\ x.2 <= MX
 | [], _, _, x, hx => by simp at hx
 | y :: t, a, hg, x, hx => by
  obtain ⟨h1, h2, h3, h4, h5⟩ := hg
  rcases List.mem_cons.1 hx with rfl | hx
  ·exact ⟨h4, h3, h1, h2⟩
  have := h5.his x hx
  exact ⟨by omega, this.2⟩
theorem GoodFrom.init : ∀ {l : List Rg} {a : Int} {r : Rg}, GoodFrom a (l ++ [r]) -> GoodFrom a l /\ (∀ x ∈ l, x.2 + 1 < r.1) /\ a + 1 < r.1 /\ -MX <= r.1 /\ r.2 <= MX /\ r.1 <= r.2
 | [], _, _, h => ⟨trivial, by simp, h.2.2.2.1, h.1, h.2.1, h.2.2.1⟩
 | x :: t, a, r, h => by
  obtain ⟨h1, h2, h3, h4, h5⟩ := h
  obtain ⟨k1, k2, k3, k4, k5, k6⟩ := GoodFrom.init (l := t) (r := r) h5
  refine ⟨⟨h1, h2, h3, h4, k1⟩, ?_, by omega, k4, k5, k6⟩
  intro y hy
  rcases List.mem_cons.1 hy with rfl | hy
  ·exact k3
  exact k2 y hy
theorem Y89 {b : Int} {out : List Rg} {r : Rg} (h : Acc b out) (hb : b <= r.1) (h1 : -MX <= r.1) (h2 : r.2 <= MX) (h3 : r.1 <= r.2) :
  Acc r.1 (Z6h out r) /\ ∀ n, hasL (Z6h out r) n = (hasL out n || inR r n) := by
 rcases List.eq_nil_or_concat out with rfl | ⟨l, x, rfl⟩
 ·have e : Z6h [] r = [r] := rfl
  rw [e]
  exact ⟨⟨⟨h1, h2, h3, by omega, trivial⟩, by simp⟩, fun n => by simp [hasL]⟩
 rw [List.concat_eq_append] at h ⊢
 obtain ⟨hg, hl⟩ := h
 obtain ⟨k1, k2, k3, k4, k5, k6⟩ := hg.init
 have hx := hl x (by simp)
 have e : Z6h (l ++ [x]) r = if r.1 <= x.2 + 1 then l ++ [(x.1, max x.2 r.2)] else l ++ [x] ++ [r] := by simp [Z6h]
 rw [e]
 split
 ·refine ⟨⟨GoodFrom.snoc k1 (by dsimp only; omega) (by dsimp only; omega) (by dsimp only; omega) (by dsimp only; omega) k2, ?_⟩, fun n => ?_⟩
  ·intro y hy
   rcases jD.1 hy with hy | hy
   ·have := hl y (by simp [hy]); omega
   obtain rfl : y = (x.1, max x.2 r.2) := by simpa using hy
   dsimp only; omega
  rw [Z1j, Z1j]
  rw [jB]
  cases hasL l n <;> simp [hasL, inR] <;> omega
 refine ⟨⟨GoodFrom.snoc hg h1 h2 h3 (by omega) ?_, ?_⟩, fun n => by rw [Z1j]; simp [hasL]⟩
 ·intro y hy
  rcases jD.1 hy with hy | hy
  ·have := k2 y hy; omega
  obtain rfl : y = x := by simpa using hy
  omega
 intro y hy
 rcases jD.1 hy with hy | hy
 ·have := hl y hy; omega
 obtain rfl : y = r := by simpa using hy
 omega
theorem Z9j : ∀ (l : List Rg) (b : Int) (out : List Rg), Acc b out -> (∀ r ∈ l, b <= r.1 /\ -MX <= r.1 /\ r.2 <= MX /\ r.1 <= r.2) -> l.Pairwise (fun x y => x.1 <= y.1) ->
  Z2w (l.foldl Z6h out) /\ ∀ n, hasL (l.foldl Z6h out) n = (hasL out n || hasL l n)
 | [], _, out, h, _, _ => ⟨h.1, fun n => by simp [hasL]⟩
 | r :: t, b, out, h, hl, hp => by
  obtain ⟨k0, k1, k2, k3⟩ := hl r (by simp)
  obtain ⟨ha, hh⟩ := Y89 h k0 k1 k2 k3
  obtain ⟨hp1, hp2⟩ := List.pairwise_cons.1 hp
  obtain ⟨g1, g2⟩ := Z9j t r.1 (Z6h out r) ha (fun x hx => ⟨hp1 x hx, (hl x (by simp [hx])).2⟩) hp2
  exact ⟨g1, fun n => by rw [List.foldl_cons, g2, hh, Z1n, Bool.or_assoc]⟩
theorem Z72 {l : List Rg} (hl : ∀ r ∈ l, -MX <= r.1 /\ r.2 <= MX /\ r.1 <= r.2) (hp : l.Pairwise (fun x y => x.1 <= y.1)) :
  Z2w (Z7f l) /\ ∀ n, hasL (Z7f l) n = hasL l n := by
 obtain ⟨g, h⟩ := Z9j l (-MX) [] ⟨trivial, by simp⟩ (fun r hr => ⟨(hl r hr).1, hl r hr⟩) hp
 exact ⟨g, fun n => by rw [Z7f, h, Z40, Bool.false_or]⟩
theorem Y3l {a b : List Rg} (h : a.Perm b) (n : Int) : hasL a n = hasL b n := by
 rw [jB]; simp only [hasL, List.any_eq_true]
 constructor <;> rintro ⟨x, hx, hn⟩
 ·exact ⟨x, h.mem_iff.1 hx, hn⟩
 exact ⟨x, h.mem_iff.2 hx, hn⟩
theorem Z8w (l : List Rg) : ∀ r ∈ clip l, -MX <= r.1 /\ r.2 <= MX /\ r.1 <= r.2 := by
 intro r hr
 simp only [clip, List.mem_filter, List.mem_map, decide_eq_true_eq] at hr
 obtain ⟨⟨x, _, rfl⟩, h⟩ := hr
 dsimp only at h ⊢
 omega
def Z3x (l : List Rg) : List Rg := Z7f ((clip l).mergeSort fun x y => decide (x.1 <= y.1))
theorem Z4o (l : List Rg) : Z2w (Z3x l) /\ ∀ n, hasL (Z3x l) n = (Z0z n && hasL l n) := by
 have hperm := List.mergeSort_perm (clip l) (fun x y => decide (x.1 <= y.1))
 have hp : ((clip l).mergeSort fun x y => decide (x.1 <= y.1)).Pairwise (fun x y => x.1 <= y.1) := by
  have := List.pairwise_mergeSort (le := fun (x y : Rg) => decide (x.1 <= y.1)) (fun a b c h1 h2 => by simp at *; omega) (fun a b => by simp; omega) (clip l)
  exact this.imp fun h => by simpa using h
 obtain ⟨g, h⟩ := Z72 (fun r hr => Z8w l r (hperm.mem_iff.1 hr)) hp
 exact ⟨g, fun n => by rw [Z3x, h, Y3l hperm, Z5a]⟩
theorem Y31 {l s : List Rg} (hs : s.Perm (clip l)) (hp : s.Pairwise (fun x y => x.1 <= y.1)) : Z7f s = Z3x l := by
 obtain ⟨g, h⟩ := Z72 (fun r hr => Z8w l r (hs.mem_iff.1 hr)) hp
 obtain ⟨g', h'⟩ := Z4o l
 exact Z6o g g' fun n => by rw [h, h', Y3l hs, Z5a]
theorem Y6f {s l : List Rg} (hg : Z2w s) (h : ∀ n, hasL s n = (Z0z n && hasL l n)) : s = Z3x l :=
 Z6o hg (Z4o l).1 fun n => by rw [h, (Z4o l).2]
def Z33 : Int -> List Rg -> Bool
 | _, [] => true
 | a, r :: t => Z0z r.1 && Z0z r.2 && decide (r.1 <= r.2) && decide (a + 1 < r.1) && Z33 r.2 t
theorem Y00 : ∀ (l : List Rg) (a : Int), Z33 a l = true ↔ GoodFrom a l
 | [], a => by simp [Z33, GoodFrom]
 | r :: t, a => by
  simp only [Z33, GoodFrom, jA, Z07, decide_eq_true_iff, Y00 t]
  unfold MX
  constructor
  ·rintro ⟨⟨⟨⟨⟨h1, h2⟩, h3, h4⟩, h5⟩, h6⟩, h7⟩; exact ⟨h1, h4, h5, h6, h7⟩
  rintro ⟨h1, h2, h3, h4, h5⟩; exact ⟨⟨⟨⟨⟨h1, by omega⟩, by omega, h2⟩, h3⟩, h4⟩, h5⟩
def Z3w (l : List Rg) : Bool := Z33 (-1000002) l
theorem Y81 (l : List Rg) : Z3w l = true ↔ Z2w l := Y00 l _
end Go.Proofs.YtlopccnehgolnacGreatDoor.Rb
namespace Go.Proofs.YtlopccnehgolnacGreatDoor.Rb
open Bool renaming and_eq_true -> jA, eq_false_iff -> jB, eq_iff_iff -> jC, not_false -> jD, or_eq_true -> jE
open List renaming isEmpty_cons -> jF, mem_append -> jG, mem_cons -> jH, pairwise_cons -> jI
def Y0k (out : List Rg) (n e : Int) : List Rg :=
 match out.getLast? with
 | some x => if x.2 = n - 1 then out.dropLast ++ [(x.1, e)] else out ++ [(n, e)]
 | none => [(n, e)]
def Z6g : List Int -> Int
 | [] => MX
 | m :: _ => m - 1
def Y17 (p : Int -> Bool) : List Int -> List Rg -> List Rg
 | [], out => out
 | n :: t, out => Y17 p t (if p n then Y0k out n (Z6g t) else out)
def Resp (p : Int -> Bool) : List Int -> Prop
 | [] => True
 | n :: t => (∀ k, n <= k -> k <= Z6g t -> p k = p n) /\ Resp p t
theorem Y7h {out : List Rg} {n e : Int} (hg : Z2w out) (hl : ∀ x ∈ out, x.2 < n) (h1 : -MX <= n) (h2 : n <= e) (h3 : e <= MX) :
  Z2w (Y0k out n e) /\ (∀ x ∈ Y0k out n e, x.2 <= e) /\ ∀ k, hasL (Y0k out n e) k = (hasL out k || inR (n, e) k) := by
 rcases List.eq_nil_or_concat out with rfl | ⟨l, x, rfl⟩
 ·have e' : Y0k [] n e = [(n, e)] := rfl
  rw [e']
  exact ⟨⟨h1, h3, h2, by dsimp only; omega, trivial⟩, by simp, fun k => by simp [hasL]⟩
 rw [List.concat_eq_append] at hg hl ⊢
 obtain ⟨k1, k2, k3, k4, k5, k6⟩ := GoodFrom.init hg
 have hx := hl x (by simp)
 have e' : Y0k (l ++ [x]) n e = if x.2 = n - 1 then l ++ [(x.1, e)] else l ++ [x] ++ [(n, e)] := by simp [Y0k]
 rw [e']
 split
 ·refine ⟨GoodFrom.snoc k1 (by dsimp only; omega) (by dsimp only; omega) (by dsimp only; omega) (by dsimp only; omega) k2, ?_, fun k => ?_⟩
  ·intro y hy
   rcases jG.1 hy with hy | hy
   ·have := hl y (by simp [hy]); omega
   obtain rfl : y = (x.1, e) := by simpa using hy
   dsimp only; omega
  rw [Z1j, Z1j, jC]
  cases hasL l k <;> simp [hasL, inR] <;> omega
 refine ⟨GoodFrom.snoc hg h1 h3 h2 (by dsimp only; omega) ?_, ?_, fun k => by rw [Z1j]; simp [hasL]⟩
 ·intro y hy
  rcases jG.1 hy with hy | hy
  ·have := k2 y hy; dsimp only; omega
  obtain rfl : y = x := by simpa using hy
  dsimp only; omega
 intro y hy
 rcases jG.1 hy with hy | hy
 ·have := hl y hy; omega
 obtain rfl : y = (n, e) := by simpa using hy
 dsimp only; omega
theorem Y04 (p : Int -> Bool) : ∀ (l : List Int) (out : List Rg) (a : Int), Z2w out -> (∀ x ∈ out, x.2 <= Z6g l) -> l.Pairwise (· < ·) -> (∀ n ∈ l, -MX <= n /\ n <= MX) -> Resp p l ->
  (∀ n, l.head? = some n -> a = n) -> Z2w (Y17 p l out) /\ ∀ k, hasL (Y17 p l out) k = (hasL out k || (!l.isEmpty && decide (a <= k) && decide (k <= MX) && p k))
 | [], out, a, hg, _, _, _, _, _ => ⟨hg, fun k => by simp [Y17]⟩
 | n :: t, out, a, hg, hl, hp, hb, hr, ha => by
  obtain rfl : a = n := ha n rfl
  obtain ⟨hp1, hp2⟩ := jI.1 hp
  obtain ⟨hr1, hr2⟩ := hr
  have hn := hb a (by simp)
  have he : a <= Z6g t /\ Z6g t <= MX := by
   cases t with
   | nil => exact ⟨hn.2, Int.le_refl _⟩
   | cons m t =>
    have h1 := hp1 m (by simp)
    have h2 := hb m (by simp)
    exact ⟨by show a <= m - 1; omega, by show m - 1 <= MX; omega⟩
  have hl' : ∀ x ∈ out, x.2 < a := fun x hx => by have := hl x hx; simp only [Z6g] at this; omega
  obtain ⟨g1, g2, g3⟩ := Y7h (e := Z6g t) hg hl' hn.1 he.1 he.2
  have hstep : Z2w (if p a then Y0k out a (Z6g t) else out) /\ (∀ x ∈ (if p a then Y0k out a (Z6g t) else out), x.2 <= Z6g t) /\
    ∀ k, hasL (if p a then Y0k out a (Z6g t) else out) k = (hasL out k || (p a && inR (a, Z6g t) k)) := by
   cases hpa : p a
   ·exact ⟨by simpa using hg, fun x hx => by have := hl' x (by simpa using hx); omega, fun k => by simp⟩
   exact ⟨by simpa using g1, fun x hx => g2 x (by simpa using hx), fun k => by simpa using g3 k⟩
  obtain ⟨s1, s2, s3⟩ := hstep
  obtain ⟨r1, r2⟩ := Y04 p t _ (t.head?.getD 0) s1 s2 hp2 (fun x hx => hb x (by simp [hx])) hr2 (fun m hm => by simp [hm])
  refine ⟨r1, fun k => ?_⟩
  rw [Y17, r2, s3]
  have hk := hr1 k
  cases t with
  | nil =>
   simp only [Z6g, inR, List.isEmpty_nil, jF, Bool.not_true, jD, Bool.false_and, Bool.true_and, Bool.or_false] at hk ⊢
   by_cases h1 : a <= k <;> by_cases h2 : k <= MX <;> simp [h1, h2]
   rw [hk h1 h2]
  | cons m t =>
   have hm := hp1 m (by simp)
   have hm2 := hb m (by simp)
   simp only [Z6g, inR, jF, jD, Bool.true_and, List.head?_cons, Option.getD_some] at hk ⊢
   by_cases h1 : a <= k <;> by_cases h2 : k <= MX <;> by_cases h3 : m <= k
   ·simp [h1, h2, h3, show ¬ k <= m - 1 by omega]
   ·have := hk h1 (by omega)
    simp [h1, h2, h3, show k <= m - 1 by omega, this]
   ·simp [h1, h2, h3, show ¬ k <= m - 1 by omega]
   ·omega
   ·omega
   ·simp [h1, h3]
   ·omega
   simp [h1, h2]
def insE (n : Int) : List Int -> List Int
 | [] => [n]
 | x :: t => if n < x then n :: x :: t else if n = x then x :: t else x :: insE n t
def addE (n : Int) (l : List Int) : List Int := if Z0z n then insE n l else l
theorem Y18 (n x : Int) : ∀ l : List Int, x ∈ insE n l ↔ x = n \/ x ∈ l
 | [] => by simp [insE]
 | y :: t => by
  unfold insE
  split
  ·simp
  split
  ·subst n; simp
  simp [Y18 n x t]; grind
theorem Z9q (n : Int) : ∀ l : List Int, l.Pairwise (· < ·) -> (insE n l).Pairwise (· < ·)
 | [], _ => by simp [insE]
 | y :: t, h => by
  obtain ⟨h1, h2⟩ := jI.1 h
  unfold insE
  split
  ·rename_i hlt
   refine jI.2 ⟨fun x hx => ?_, h⟩
   rcases jH.1 hx with rfl | hx
   ·exact hlt
   have := h1 x hx; omega
  split
  ·exact h
  refine jI.2 ⟨fun x hx => ?_, Z9q n t h2⟩
  rcases (Y18 n x t).1 hx with rfl | hx
  ·omega
  exact h1 x hx
theorem Z7d (n x : Int) (l : List Int) : x ∈ addE n l ↔ (Z0z n = true /\ x = n) \/ x ∈ l := by
 unfold addE
 split
 ·rename_i h; simp [Y18, h]
 rename_i h; simp [h]
theorem Y4s (n : Int) (l : List Int) (h : l.Pairwise (· < ·)) : (addE n l).Pairwise (· < ·) := by
 unfold addE
 split
 ·exact Z9q n l h
 exact h
def Y12 (l : List Int) (r : Rg) : List Int := if r.2 < MX then addE (r.2 + 1) (addE r.1 l) else addE r.1 l
def Y13 (l : List Int) (s : List Rg) : List Int := s.foldl Y12 l
def Z5q (sets : List (List Rg)) : List Int := sets.foldl Y13 (addE (-MX) [])
def IsE (l : List Int) : Prop := l.Pairwise (· < ·) /\ ∀ n ∈ l, -MX <= n /\ n <= MX
theorem Y1u (n : Int) {l : List Int} (h : IsE l) : IsE (addE n l) :=
 ⟨Y4s n l h.1, fun x hx => by
  rcases (Z7d n x l).1 hx with ⟨h1, rfl⟩ | hx
  ·simpa [Z0z] using h1
  exact h.2 x hx⟩
theorem X01 {l : List Int} (h : IsE l) (r : Rg) : IsE (Y12 l r) := by
 unfold Y12; split
 ·exact Y1u _ (Y1u _ h)
 exact Y1u _ h
theorem Y8t {l : List Int} (r : Rg) {x : Int} (h : x ∈ l) : x ∈ Y12 l r := by
 unfold Y12; split <;> simp [Z7d, h]
theorem X02 {l : List Int} (r : Rg) (h : Z0z r.1 = true) : r.1 ∈ Y12 l r := by
 unfold Y12; split <;> simp [Z7d, h]
theorem X00 {l : List Int} (r : Rg) (h1 : r.2 < MX) (h2 : Z0z (r.2 + 1) = true) : r.2 + 1 ∈ Y12 l r := by
 unfold Y12; rw [if_pos h1]; simp [Z7d, h2]
theorem Y53 : ∀ (s : List Rg) {l : List Int}, IsE l -> IsE (Y13 l s)
 | [], _, h => h
 | r :: t, _, h => Y53 t (X01 h r)
theorem Z63 : ∀ (s : List Rg) {l : List Int} {x : Int}, x ∈ l -> x ∈ Y13 l s
 | [], _, _, h => h
 | r :: t, _, _, h => Z63 t (Y8t r h)
theorem Y3g : ∀ (s : List Rg) {l : List Int} {r : Rg}, r ∈ s -> (Z0z r.1 = true -> r.1 ∈ Y13 l s) /\ (r.2 < MX -> Z0z (r.2 + 1) = true -> r.2 + 1 ∈ Y13 l s)
 | x :: t, l, r, h => by
  rcases jH.1 h with rfl | h
  ·exact ⟨fun h1 => Z63 t (X02 r h1), fun h1 h2 => Z63 t (X00 r h1 h2)⟩
  exact Y3g t h
theorem Y58 : ∀ (ss : List (List Rg)) {l : List Int}, IsE l -> IsE (ss.foldl Y13 l)
 | [], _, h => h
 | s :: t, _, h => Y58 t (Y53 s h)
theorem Z65 : ∀ (ss : List (List Rg)) {l : List Int} {x : Int}, x ∈ l -> x ∈ ss.foldl Y13 l
 | [], _, _, h => h
 | s :: t, _, _, h => Z65 t (Z63 s h)
theorem Z9i : ∀ (ss : List (List Rg)) {l : List Int} {s : List Rg} {r : Rg}, s ∈ ss -> r ∈ s ->
  (Z0z r.1 = true -> r.1 ∈ ss.foldl Y13 l) /\ (r.2 < MX -> Z0z (r.2 + 1) = true -> r.2 + 1 ∈ ss.foldl Y13 l)
 | x :: t, l, s, r, h, hr => by
  rcases jH.1 h with rfl | h
  ·have := Y3g s (l := l) hr
   exact ⟨fun h1 => Z65 t (this.1 h1), fun h1 h2 => Z65 t (this.2 h1 h2)⟩
  exact Z9i t h hr
theorem Y3h (ss : List (List Rg)) : IsE (Z5q ss) := Y58 ss (Y1u _ ⟨by simp, by simp⟩)
theorem Y62 (ss : List (List Rg)) : -MX ∈ Z5q ss := Z65 ss (by simp [Z7d, Z0z, MX])
theorem Y41 (ss : List (List Rg)) : ∃ t, Z5q ss = -MX :: t := by
 have h := Y3h ss
 have hm := Y62 ss
 cases he : Z5q ss with
 | nil => rw [he] at hm; simp at hm
 | cons x t =>
  rw [he] at h hm
  rcases jH.1 hm with hx | hx
  ·exact ⟨t, by rw [hx]⟩
  have h1 := (jI.1 h.1).1 _ hx
  have h2 := h.2 x (by simp)
  omega
def Turns (p : Int -> Bool) (E : List Int) : Prop := ∀ a k, -MX <= a -> a <= k -> k <= MX -> (∀ e ∈ E, ¬ (a < e /\ e <= k)) -> p k = p a
theorem Turns.inSet {ss : List (List Rg)} {s : List Rg} (h : s ∈ ss) : Turns (fun n => hasL s n) (Z5q ss) := by
 intro a k h1 h2 h3 hE
 rw [jC]
 simp only [hasL, List.any_eq_true, Z2o]
 constructor
 ·rintro ⟨r, hr, hn⟩
  refine ⟨r, hr, ?_, by omega⟩
  rcases Int.lt_or_le a r.1 with hlt | hle
  ·exact absurd ⟨hlt, hn.1⟩ (hE r.1 ((Z9i ss h hr).1 (by simp [Z0z]; omega)))
  exact hle
 rintro ⟨r, hr, hn⟩
 refine ⟨r, hr, by omega, ?_⟩
 rcases Int.lt_or_le r.2 k with hlt | hle
 ·exact absurd ⟨by omega, by omega⟩ (hE (r.2 + 1) ((Z9i ss h hr).2 (by omega) (by simp [Z0z]; omega)))
 exact hle
theorem Turns.comb {E : List Int} {p q : Int -> Bool} (f : Bool -> Bool -> Bool) (hp : Turns p E) (hq : Turns q E) : Turns (fun n => f (p n) (q n)) E :=
 fun a k h1 h2 h3 hE => by dsimp only; rw [hp a k h1 h2 h3 hE, hq a k h1 h2 h3 hE]
theorem Turns.resp {p : Int -> Bool} : ∀ (t : List Int) {E : List Int} (pre : List Int), E = pre ++ t -> IsE E -> Turns p E -> Resp p t
 | [], _, _, _, _, _ => trivial
 | n :: t, E, pre, he, hE, ht => by
  refine ⟨fun k h1 h2 => ?_, Turns.resp t (pre ++ [n]) (by simp [he]) hE ht⟩
  have hn := hE.2 n (by simp [he])
  have hp := hE.1
  rw [he] at hp
  obtain ⟨_, hp2, hp3⟩ := List.pairwise_append.1 hp
  have hp4 := (jI.1 hp2)
  refine ht n k hn.1 h1 ?_ ?_
  ·cases t with
   | nil => exact h2
   | cons m t =>
    have := hE.2 m (by simp [he])
    simp only [Z6g] at h2; omega
  intro e hme ⟨h3, h4⟩
  rw [he] at hme
  rcases jG.1 hme with hme | hme
  ·have := hp3 e hme n (by simp); omega
  rcases jH.1 hme with rfl | hme
  ·omega
  cases t with
  | nil => simp at hme
  | cons m t =>
   simp only [Z6g] at h2
   rcases jH.1 hme with rfl | hme
   ·omega
   have := (jI.1 hp4.2).1 e hme; omega
theorem Y30 {p : Int -> Bool} {ss : List (List Rg)} (h : Turns p (Z5q ss)) :
  Z2w (Y17 p (Z5q ss) []) /\ ∀ k, hasL (Y17 p (Z5q ss) []) k = (Z0z k && p k) := by
 obtain ⟨t, ht⟩ := Y41 ss
 have hE := Y3h ss
 obtain ⟨g, hh⟩ := Y04 p (Z5q ss) [] (-MX) trivial (by simp) hE.1 hE.2 (h.resp _ [] rfl hE) (fun n hn => by rw [ht] at hn; simpa using hn)
 exact ⟨g, fun k => by rw [hh, ht]; simp [Z40, Z0z]⟩
def Z09 (a b : List Rg) : List Rg := Y17 (fun n => hasL a n && hasL b n) (Z5q [a, b]) []
def Z5g (a b : List Rg) : List Rg := Y17 (fun n => hasL a n && !hasL b n) (Z5q [a, b]) []
theorem Z7s (a b : List Rg) : Z2w (Z09 a b) /\ ∀ n, hasL (Z09 a b) n = (Z0z n && (hasL a n && hasL b n)) :=
 Y30 (Turns.comb (fun x y => x && y) (Turns.inSet (ss := [a, b]) (s := a) (by simp)) (Turns.inSet (ss := [a, b]) (s := b) (by simp)))
theorem Z7z (a b : List Rg) : Z2w (Z5g a b) /\ ∀ n, hasL (Z5g a b) n = (Z0z n && (hasL a n && !hasL b n)) :=
 Y30 (Turns.comb (fun x y => x && !y) (Turns.inSet (ss := [a, b]) (s := a) (by simp)) (Turns.inSet (ss := [a, b]) (s := b) (by simp)))
theorem Y07 {a b out : List Rg} (h : ∀ n, hasL out n = (hasL a n && hasL b n)) : Z3x out = Z09 a b :=
 (Y6f (Z7s a b).1 fun n => by rw [(Z7s a b).2, h]).symm
theorem Y7d {a b out : List Rg} (h : ∀ n, hasL out n = (hasL a n && !hasL b n)) : Z3x out = Z5g a b :=
 (Y6f (Z7z a b).1 fun n => by rw [(Z7z a b).2, h]).symm
theorem GoodFrom.tail {r : Rg} {l : List Rg} {a : Int} (h : GoodFrom a (r :: l)) : GoodFrom r.2 l := h.2.2.2.2
theorem GoodFrom.drop : ∀ {l : List Rg} {a : Int} (k : Nat), GoodFrom a l -> ∃ u, GoodFrom u (l.drop k)
 | _, a, 0, h => ⟨a, h⟩
 | [], a, _ + 1, _ => ⟨a, trivial⟩
 | _ :: _, _, k + 1, h => GoodFrom.drop k h.tail
theorem Z2a {l : List Rg} (h : Z2w l) : l.length <= 2000002 := by
 have key : ∀ {l : List Rg} {a : Int}, GoodFrom a l -> a <= MX -> (l.length : Int) <= MX - a := by
  intro l
  induction l with
  | nil => intro a _ _; simp; omega
  | cons r t ih =>
   intro a h ha
   obtain ⟨h1, h2, h3, h4, h5⟩ := h
   have := ih h5 h2
   simp only [List.length_cons]
   omega
 have := key h (by unfold MX; omega)
 unfold MX at this
 omega
def putR (out : List Rg) (m : Rg) : List Rg := if m.1 <= m.2 then out ++ [m] else out
theorem Z67 (out : List Rg) (m : Rg) (n : Int) : hasL (putR out m) n = (hasL out n || inR m n) := by
 unfold putR
 split
 ·rw [Z1j]; simp [hasL]
 have : inR m n = false := by
  rw [jB]; intro h; have := (Z2o m n).1 h; omega
 simp [this]
theorem X1n (out : List Rg) (m : Rg) : (putR out m).length <= out.length + 1 := by
 unfold putR; split <;> simp
def InvB (a b xs0 bs out : List Rg) : Prop := ∀ n, (hasL a n && hasL b n) = (hasL out n || (hasL xs0 n && hasL bs n))
theorem InvB.stepA {a b xs0 bs out : List Rg} {x y m : Rg} {v : Int} (h : InvB a b (x :: xs0) (y :: bs) out) (gb : GoodFrom v (y :: bs)) (hm : m.1 = max x.1 y.1 /\ m.2 = min x.2 y.2) (hlt : x.2 < y.2) :
  InvB a b xs0 (y :: bs) (putR out m) := by
 intro n
 rw [h n, Z67]
 simp only [Z1n]
 have h1 := gb.tail.above n
 rw [jC]
 simp only [jE, jA, Z2o]
 constructor
 ·rintro (h | ⟨h | h, h' | h'⟩)
  ·exact .inl (.inl h)
  ·exact .inl (.inr (by omega))
  ·exact absurd (h1 h') (by omega)
  ·exact .inr ⟨h, .inl h'⟩
  exact .inr ⟨h, .inr h'⟩
 rintro ((h | h) | h)
 ·exact .inl h
 ·exact .inr ⟨.inl (by omega), .inl (by omega)⟩
 exact .inr ⟨.inr h.1, h.2⟩
theorem InvB.stepB {a b xs0 bs out : List Rg} {x y m : Rg} {u : Int} (h : InvB a b (x :: xs0) (y :: bs) out) (ga : GoodFrom u (x :: xs0)) (hm : m.1 = max x.1 y.1 /\ m.2 = min x.2 y.2) (hlt : ¬ x.2 < y.2) :
  InvB a b (x :: xs0) bs (putR out m) := by
 intro n
 rw [h n, Z67]
 simp only [Z1n]
 have h1 := ga.tail.above n
 rw [jC]
 simp only [jE, jA, Z2o]
 constructor
 ·rintro (h | ⟨h | h, h' | h'⟩)
  ·exact .inl (.inl h)
  ·exact .inl (.inr (by omega))
  ·exact .inr ⟨.inl h, h'⟩
  ·exact absurd (h1 h) (by omega)
  exact .inr ⟨.inr h, h'⟩
 rintro ((h | h) | h)
 ·exact .inl h
 ·exact .inr ⟨.inl (by omega), .inl (by omega)⟩
 exact .inr ⟨h.1, .inr h.2⟩
theorem InvB.endA {a b bs out : List Rg} (h : InvB a b [] bs out) : Z3x out = Z09 a b := Y07 fun n => by rw [h n]; simp [hasL]
theorem InvB.endB {a b xs0 out : List Rg} (h : InvB a b xs0 [] out) : Z3x out = Z09 a b := Y07 fun n => by rw [h n]; simp [hasL]
def InvL (out0 b : List Rg) (r0 : Rg) (bs out : List Rg) (lo : Int) : Prop :=
 ∀ n, (hasL out0 n || (inR r0 n && !hasL b n)) = (hasL out n || (inR (lo, r0.2) n && !hasL bs n))
theorem InvL.skip {out0 b bs out : List Rg} {r0 s : Rg} {lo : Int} (h : InvL out0 b r0 (s :: bs) out lo) (hs : s.2 < lo \/ r0.2 < s.1) : InvL out0 b r0 bs out lo := by
 intro n
 rw [h n, Z1n]
 have : inR (lo, r0.2) n = true -> inR s n = false := fun h => by
  rw [jB]; intro h'
  have h1 := (Z2o _ n).1 h
  have h2 := (Z2o _ n).1 h'
  dsimp only at h1
  omega
 cases h1 : inR (lo, r0.2) n
 ·simp
 simp [this h1]
theorem InvL.cut {out0 b bs out : List Rg} {r0 s : Rg} {lo : Int} {v : Int} (h : InvL out0 b r0 (s :: bs) out lo) (gb : GoodFrom v (s :: bs)) (hs1 : lo <= s.2) (hs2 : s.1 <= r0.2) :
  InvL out0 b r0 bs (putR out (lo, s.1 - 1)) (s.2 + 1) := by
 intro n
 rw [h n, Z1n, Z67]
 have h1 := gb.tail.above n
 have h3 := gb.2.2.1
 have h4 : s.1 <= s.2 := by
  have := GoodFrom.his gb s (by simp)
  omega
 rw [jC]
 simp only [jE, jA, Z2o, Bool.not_eq_true', Bool.or_eq_false_iff]
 have hs : inR s n = false ↔ ¬ (s.1 <= n /\ n <= s.2) := by rw [<- Z2o, Bool.not_eq_true]
 rw [hs]
 constructor
 ·rintro (h | ⟨h, h', h2⟩)
  ·exact .inl (.inl h)
  by_cases hn : n < s.1
  ·exact .inl (.inr (by omega))
  exact .inr ⟨by omega, h2⟩
 rintro ((h | h) | ⟨h, h2⟩)
 ·exact .inl h
 ·refine .inr ⟨by omega, by omega, ?_⟩
  rw [jB]; intro hb
  have := h1 hb; omega
 exact .inr ⟨by omega, by omega, h2⟩
theorem InvL.fin {out0 b bs out : List Rg} {r0 : Rg} {lo : Int} (h : InvL out0 b r0 bs out lo) (hs : bs = [] \/ r0.2 < lo) (n : Int) :
  hasL (putR out (lo, r0.2)) n = (hasL out0 n || (inR r0 n && !hasL b n)) := by
 rw [h n, Z67]
 rcases hs with rfl | hs
 ·simp [hasL]
 have : inR (lo, r0.2) n = false := by
  rw [jB]; intro h; have := (Z2o _ n).1 h; dsimp only at this; omega
 simp [this]
def InvO (b xs0 out : List Rg) : Prop := ∀ n, hasL out n = (hasL xs0 n && !hasL b n)
theorem InvO.start (b : List Rg) : InvO b [] [] := fun n => by simp [hasL]
theorem InvO.begin {b xs0 out : List Rg} (_h : InvO b xs0 out) (r : Rg) : InvL out b r b out r.1 := fun _ => rfl
theorem InvO.step {b xs0 out out' : List Rg} {r : Rg} (h : InvO b xs0 out) (h' : ∀ n, hasL out' n = (hasL out n || (inR r n && !hasL b n))) : InvO b (xs0 ++ [r]) out' := by
 intro n
 rw [h', h n, Z1j]
 cases hasL xs0 n <;> cases hb : hasL b n <;> simp [hasL]
end Go.Proofs.YtlopccnehgolnacGreatDoor.Rb
namespace Go.Proofs.YtlopccnehgolnacGreatDoor
open Go.RowKit
theorem Z1p {w w' : World} {row : Option Nat} (hg : w.grownBy w' row) {q : Nat} (hq : q < w.heap.size) (hne : row ≠ some q) (o : Nat) :
  w'.cell? (zn q o) = w.cell? (zn q o) /\ w'.frozen? (zn q o) = w.frozen? (zn q o) :=
 ⟨L1d (w := w) (hg.block q hq fun e => hne e.symm), L1a (w := w) (hg.block q hq fun e => hne e.symm)⟩
theorem Z0u (w : World) (p : Addr) (u : Value) : w.grownBy (w.setCell p u) (some p.block) :=
 ⟨rfl, rfl, rfl, by simp [World.setCell], fun k _ hne => L3 _ _ _ _ (fun e => hne (by rw [e]))⟩
theorem Own.kept_flat {α : Type} {R : Rd α} {e : TypeId} {w w' : World} {base : Nat} {S0 : Nat -> Prop} {v : Value} {xs : List α} {row : Option Nat} (h : Own R e w base S0 v xs) (hF : Flat R) (hg : w.grownBy w' row) (hne : v.ownBlock = none \/ v.ownBlock ≠ row) :
  Own R e w' base (fun _ => False) v xs := by
 obtain ⟨S, ⟨cells, h1, _, h3, h4⟩, _⟩ := h
 exact ⟨fun _ => False, ⟨cells, h1.kept hg hne, fun _ _ h => h, h3, fun i x hx => hF _ _ _ _ _ _ (h4 i x hx)⟩, fun _ h => h.elim⟩
theorem Y20 (w : World) (cs ds : Array Value) (t t' : TypeId) : ∃ W, (w.alloc (.cells cs t)).alloc (.cells ds t') = W /\ Bw w W /\ W.heap.size = w.heap.size + 2 /\ (∀ i, W.cell? (zn w.heap.size i) = cs[i]?) /\ (∀ i, W.cell? (zn (w.heap.size + 1) i) = ds[i]?) /\ (∀ i, W.frozen? (zn w.heap.size i) = false) /\ (∀ i, W.frozen? (zn (w.heap.size + 1) i) = false) := by
 have e : (w.alloc (.cells cs t)).heap.size = w.heap.size + 1 := by simp
 refine ⟨_, rfl, bA.alloc (by simp) _, by simp, fun i => ?_, fun i => ?_, fun i => by simp, fun i => ?_⟩
 ·rw [L0j _ _ _ (by simp)]; simp
 ·rw [<- e]; simp
 rw [<- e]; simp
