import Derived.Test.YtlopccnehgolnacGreatDoorGK0
import Derived.Laws.IdiomCopy
namespace Go.Proofs.YtlopccnehgolnacGreatDoor
open Go.RowKit
open _root_.Array renaming getElem?_modify -> jA
open List renaming drop_append -> jB, drop_of_length_le -> jC, drop_take -> jD
open Nat renaming lt_trichotomy -> jE, sub_mul -> jF
open Go.World renaming frozen? -> jG, setCell -> jH, setCells -> jI
theorem X1e {α : Type} (l : List α) (o : Nat) (v : α) (r : List α) (h : o + (r.length + 1) <= l.length) :
  (l.set o v).take (o + 1) ++ r ++ (l.set o v).drop (o + 1 + r.length) = l.take o ++ (v :: r) ++ l.drop (o + (r.length + 1)) := by
 apply L3q
 intro j
 simp only [List.getElem?_append, L0i, L1i, L3s, L0r, L3a, L1p, List.getElem?_set, List.getElem?_cons]
 rcases jE j o with h1 | h1 | h1
 ·simp [show j < min (o + 1) l.length by omega, show j < min (o + 1) l.length + r.length by omega, show j < o + 1 by omega, show o ≠ j by omega, show j < min o l.length by omega, show j < min o l.length + (r.length + 1) by omega, h1]
 ·subst h1
  simp [show j < min (j + 1) l.length by omega, show j < min (j + 1) l.length + r.length by omega, show ¬ j < min j l.length by omega, show j < min j l.length + (r.length + 1) by omega, show j < l.length by omega, show j - min j l.length = 0 by omega]
 by_cases h2 : j < o + 1 + r.length
 ·simp [show ¬ j < min (o + 1) l.length by omega, show j < min (o + 1) l.length + r.length by omega, show ¬ j < min o l.length by omega, show j < min o l.length + (r.length + 1) by omega, show j - min o l.length ≠ 0 by omega]
  congr 1
  omega
 simp [show ¬ j < min (o + 1) l.length + r.length by omega, show ¬ j < min o l.length + (r.length + 1) by omega]
 rw [if_neg (by omega)]
 congr 1
 omega
theorem Z04 {e : TypeId} {fr : Nat × Nat} (g : Nat) : ∀ (vs : List Value) (o : Nat) (w : World) (cur : Array Value), w.heap[g]? = some (.cells cur e fr) -> o + vs.length <= cur.size ->
  ∃ cur' : Array Value, (w.setCells g o vs).heap[g]? = some (.cells cur' e fr) /\ cur'.toList = cur.toList.take o ++ vs ++ cur.toList.drop (o + vs.length)
 | [], o, w, cur, h, _ => ⟨cur, h, by simp⟩
 | v :: r, o, w, cur, h, hl => by
  have hb : g < w.heap.size := (L1v.1 h).1
  have h1 : (w.setCell (zn g o) v).heap[g]? = some (.cells (cur.setIfInBounds o v) e fr) := by
   simp [jH, jA, h]
  simp only [L0r] at hl
  obtain ⟨cur', k1, k2⟩ := Z04 g r (o + 1) _ _ h1 (by simp; omega)
  refine ⟨cur', k1, ?_⟩
  rw [k2]
  simp only [Array.toList_setIfInBounds, L0r]
  exact X1e cur.toList o v r (by simp; omega)
theorem Z1k (g b : Nat) (hb : g ≠ b) : ∀ (vs : List Value) (o : Nat) (w : World), (w.setCells g o vs).heap[b]? = w.heap[b]?
 | [], _, _ => rfl
 | v :: r, o, w => by
  rw [jI, Z1k g b hb r]
  simp [jH, jA, hb]
theorem Z6i (g : Nat) : ∀ (vs : List Value) (o : Nat) (w : World), (w.setCells g o vs).heap.size = w.heap.size
 | [], _, _ => rfl
 | v :: r, o, w => by
  rw [jI, Z6i g r]
  simp [jH]
theorem Below.setCellsR {B g : Nat} {w0 : World} (hg : B <= g) : ∀ (vs : List Value) (o : Nat) (w : World), Below B w0 w -> Below B w0 (w.setCells g o vs)
 | [], _, _, h => h
 | v :: r, o, w, h => by
  rw [jI]
  exact Below.setCellsR hg r _ _ (h.setCell hg v)
section
variable {α : Type} {R : Rd α} {e : TypeId} {w w' : World} {base : Nat} {S S' S0 : Nat -> Prop} {v : Value} {xs : List α} {x : α}
theorem OwnS.self (h : OwnS R e w base S v xs) : Own R e w base S v xs := ⟨S, h, fun _ hb => .inl hb⟩
theorem OwnS.below (h : OwnS R e w base S v xs) (hb : Bw w w') : OwnS R e w' base S v xs := h.kept (Below.grownBy_ (row := none) hb) (by cases v.ownBlock <;> simp) (fun _ h => by cases h)
theorem OwnS.form (h : OwnS R e w base S v xs) : (v = nl /\ xs = []) \/ ∃ g cap, v = .slice (some (zn g 0)) xs.length cap /\ base <= g /\ g < w.heap.size := h.self.form
theorem OwnS.lt (h : OwnS R e w base S v xs) : ∀ k, v.ownBlock = some k -> base <= k /\ k < w.heap.size := h.self.lt
theorem OwnS.take (h : OwnS R e w base S v xs) {A : Option Addr} {n c k : Nat} (hv : v = .slice A n c) (hk : k <= xs.length) : OwnS R e w base S (.slice A k c) (xs.take k) := by
 obtain ⟨cells, h1, h2, h3, h4⟩ := h
 have hlen := h1.1
 have htl : (xs.take k).length = k := by rw [L1i]; omega
 have hkk : k * R.k <= xs.length * R.k := L1c _ hk
 refine ⟨cells.take (k * R.k), ⟨by rw [htl, L1i]; omega, ?_⟩, ?_, ?_, fun i x hx => ?_⟩
 ·rcases h1.2 with ⟨hn, h0⟩ | ⟨g, cap, cur, hv', hb, hh, hnc, hcm, hcs, htake⟩
  ·rw [hn] at hv
   injection hv with ha hb hc
   subst ha; subst hc
   have : k = 0 := by omega
   subst this
   exact .inl ⟨rfl, by simp⟩
  rw [hv'] at hv
  injection hv with ha hb' hc
  subst ha; subst hc
  rw [htl]
  refine .inr ⟨g, cap, cur, rfl, hb, hh, by omega, hcm, hcs, ?_⟩
  rw [<- htake, L4f, L3v hkk]
 ·intro g hg
  refine h2 g ?_
  rw [hv]
  cases A <;> simp_all [Value.ownBlock]
 ·intro hk0
  have := h3 hk0
  rw [htl]
  exact L0h (L1c _ hk) this
 rw [L3a] at hx
 split at hx
 ·rename_i hik
  have hle : i * R.k + R.k <= k * R.k := by rw [<- L2y]; exact L1c _ hik
  rw [jD, L4f, L3v (by omega)]
  exact h4 i x hx
 cases hx
theorem OwnS.elem (h : OwnS R e w base S v xs) {g cap : Nat} (hv : v = .slice (some (zn g 0)) xs.length cap) {i : Nat} (hx : xs[i]? = some x) :
  ∃ cs, R.rel w S cs x /\ ∀ j u, cs[j]? = some u -> w.cell? (zn g (i * R.k + j)) = some u := by
 obtain ⟨cells, h1, h2, h3, h4⟩ := h
 refine ⟨_, h4 i x hx, fun j u hu => ?_⟩
 have hc := h1.cells (g := g) (by rw [hv]; rfl) (i * R.k + j) u (by
  rw [L3a] at hu
  split at hu
  ·rw [<- hu, L1p]
  cases hu)
 have hadd : ((zn g 0) : Addr).add (i * R.k + j) = (zn g (i * R.k + j)) := by unfold Addr.add; split <;> simp_all
 rw [hadd] at hc
 exact hc
theorem OwnS.frozen (h : OwnS R e w base S v xs) {g cap n : Nat} (hv : v = .slice (some (zn g 0)) n cap) (o : Nat) : w.frozen? (zn g o) = false := by
 obtain ⟨cells, h1, _⟩ := h
 rcases h1.2 with ⟨hn, _⟩ | ⟨g', cap', cur, hv', _, hh, _⟩
 ·rw [hv] at hn; cases hn
 rw [hv] at hv'
 injection hv' with ha _ hc
 injection ha with ha
 injection ha with hb' _ _
 subst hb'
 simp [jG, hh]
theorem Z0f {w w' w'' : World} {r : Option Nat} (h : w.grownBy w' r) (k : w'.grownBy w'' r) : w.grownBy w'' r :=
 ⟨k.os.trans h.os, k.tape.trans h.tape, k.output.trans h.output, L0h h.size k.size, fun b hb hne => (k.block b (L0c hb h.size) hne).trans (h.block b hb hne)⟩
theorem Z0i {w w' : World} {r : Option Nat} (h : Bw w w') : w.grownBy w' r := ⟨h.os, h.tape, h.output, h.size, fun k hk _ => h.block k hk⟩
theorem Z0b {w : World} {g : Nat} (vs : List Value) (o : Nat) : w.grownBy (w.setCells g o vs) (some g) := by
 have hb := Below.setCellsR (B := 0) (g := g) (w0 := w) (L0o _) vs o w (L0m _ _)
 exact ⟨hb.os, hb.tape, hb.output, hb.size, fun b _ hne => Z1k g b (fun he => hne (by rw [he])) vs o w⟩
theorem Z8q {P : Program} {t ty : TypeId} (hT : ElemOf P R t e)
  (hown : OwnS R e w base S v xs) {A : Option Addr} {m c : Nat} {ys : List α} (hm : ys.length = m) (hE : Elems R w S A ys) (hSb : ∀ b, S b -> b < w.heap.size)
  (hbytes : (xs.length + m) * R.bytes <= 140737488355328) (hbase : base <= w.heap.size) :
  ∃ v' w', (Builtin.append_ #[t, t] ty #[v, .slice A m c]).run P w = .ok v' w' /\ OwnS R e w' base S v' (xs ++ ys) /\ w.grownBy w' v.ownBlock /\
   (v'.ownBlock = v.ownBlock \/ v'.ownBlock = some w.heap.size) := by
 obtain ⟨i, z, hi, hz, hs1, hs2, hs3⟩ := hT.hi
 rcases L2p m with h0 | h0
 ·subst h0
  have hys : ys = [] := L1g hm
  subst hys
  refine ⟨v, w, ?_, by simpa using hown, ⟨rfl, rfl, rfl, L0g _, fun _ _ _ => rfl⟩, .inl rfl⟩
  obtain ⟨cells, h1, _⟩ := hown
  rcases h1.2 with ⟨rfl, _⟩ | ⟨g, cap, cur, rfl, _, _, hnc, _⟩
  ·cases A <;> simp [Builtin.append_, run_underlying hT.ht, sizeOf, typeInfo, hi, Builtin.lenOf, Builtin.firstCells, loadCells, loadCellsFrom]
  cases A <;> simp [Builtin.append_, run_underlying hT.ht, sizeOf, typeInfo, hi, Builtin.lenOf, Builtin.firstCells, loadCells, loadCellsFrom, storeCells, hnc]
 obtain ⟨b1, off1, news, rfl, n1, n2, n3⟩ := hE.flat (by omega)
 obtain ⟨cells, h1, h2, h3, h4⟩ := hown
 have hone : ∀ u ∈ news, u.oneCell' = true := by
  intro u hu
  obtain ⟨j, hj, rfl⟩ := L1u hu
  have hk := hT.hk
  have hjk : j / R.k < ys.length := by rw [Nat.div_lt_iff_lt_mul hk, <- n1]; exact hj
  refine R.one (n3 (j / R.k) ys[j / R.k] (L0f hjk)) _ ?_
  rw [L2n]
  have hmod := Nat.mod_lt j hk
  have hdm := Nat.div_add_mod j R.k
  have hcm : R.k * (j / R.k) = j / R.k * R.k := Nat.mul_comm _ _
  refine ⟨j % R.k, ?_, ?_⟩
  ·rw [L1b]; omega
  rw [List.getElem_drop]
  congr 1
  omega
 have hadd : ∀ j, ((zn b1 off1) : Addr).add j = (zn b1 (off1 + j)) := by intro j; unfold Addr.add; split <;> simp_all
 have h63 : xs.length + m <= maxLen := by
  have := L3p (xs.length + m) hT.hb
  unfold maxLen; omega
 obtain ⟨v', w', hrun, k1, k2, _, k4⟩ := run_append_own_at (P := P) w base t ty e i z R.k R.bytes hT.ht hi hz hs1 hs2 hs3 hT.hk v xs.length cells h1 (zn b1 off1) m c news (by rw [n1, hm])
  (fun j u hu => by rw [hadd]; exact n2 j u hu) hone h63 hbytes hbase
 have hK : Keeps S w w' := .grown k2 fun g hg => h2 g hg
 refine ⟨v', w', hrun, ⟨cells ++ news, by rw [L0i, hm]; exact k1, ?_, fun _ => by rw [L0i, hm]; exact hbytes, ?_⟩, k2, k4⟩
 ·intro g hg
  rcases k4 with k4 | k4
  ·exact h2 g (k4 ▸ hg)
  rw [k4] at hg
  injection hg with hg
  intro hS
  have := hSb g hS
  omega
 intro j y hy
 have hl := h1.1
 rcases L1r j xs.length with hj | hj
 ·have hjk : j * R.k + R.k <= cells.length := by rw [hl, <- L2y]; exact L1c _ hj
  rw [L2v (by omega), L1j (by rw [L1b]; omega)]
  rw [L1l hj] at hy
  exact R.keep (h4 j y hy) hK
 rw [L3g hj] at hy
 have he : (cells ++ news).drop (j * R.k) = news.drop ((j - xs.length) * R.k) := by
  rw [jB, L0u (by rw [hl]; exact L1c _ hj), L1o, hl, jF]
 rw [he]
 exact R.keep (n3 _ y hy) hK
theorem Z08 {P : Program} {ops : Array Oper} {rest : List Oper} {o : Oper} {a : Act} {Q : Exit -> Act -> World -> Prop} {t : TypeId} (hT : ElemOf P R t e) (hgd : o.guard = none) (s y : Operand)
  (ho : o.op = .call { callee := .builtin .append, args := #[s, y], argTypes := #[t, t] })
  (hs : a.eval s = v) (hown : OwnS R e w base S v xs) {A : Option Addr} {m c : Nat} (hx : a.eval y = .slice A m c) {ys : List α} (hm : ys.length = m) (hE : Elems R w S A ys) (hSb : ∀ b, S b -> b < w.heap.size)
  (hbytes : (xs.length + m) * R.bytes <= 140737488355328) (hbase : base <= w.heap.size)
  (h : ∀ v' w', OwnS R e w' base S v' (xs ++ ys) -> Below base w w' -> w.grownBy w' v.ownBlock -> (v'.ownBlock = v.ownBlock \/ v'.ownBlock = some w.heap.size) -> wpList P ops Q rest (a.put o.dst v') w') :
  wpList P ops Q (o :: rest) a w := by
 obtain ⟨v', w', hr, h2, h3, h4⟩ := Z8q (P := P) (t := t) (ty := o.type) (c := c) hT hown hm hE hSb hbytes hbase
 have hlt := hown.lt
 refine wpList_plain hgd fun K hK => ?_
 unfold Oper.wp execOp
 simp only [ho, resolve, invoke, builtin, Sem.run_bind, Sem.run_pure, Result.andThen_ok, L4e, L2q, L4h, hs, hx, hr]
 exact hK _ _ (h v' w' h2 ((L0m base w).grown h3 hbase fun k hk => (hlt k hk).1) h3 h4)
theorem OwnS.empty (R : Rd α) (e : TypeId) (w : World) {n : Nat} (S : Nat -> Prop) (hn : w.heap.size = n) (hS : ∀ b, S b -> b < n) : OwnS R e (w.alloc (.cells #[] e)) n S (.slice (some (zn n 0)) 0 0) [] := by
 subst hn
 exact ⟨[], ⟨by simp, .inr ⟨w.heap.size, 0, #[], rfl, L0g _, heap_alloc_new w _, L0g _, by decide, by simp, by simp⟩⟩, fun g hg h => by simp [Value.ownBlock] at hg; have := hS g h; omega, fun _ => by simp, fun i x h => by simp at h⟩
theorem OwnS.nil (R : Rd α) (e : TypeId) (w : World) (base : Nat) (S : Nat -> Prop) : OwnS R e w base S (nl) [] :=
 ⟨[], World.ownsRow_nil w base e R.k, fun _ h => by simp [Value.ownBlock] at h, fun _ => by simp, fun i x h => by simp at h⟩
end
section
variable {α : Type} {R : Rd α} {e : TypeId} {w : World} {base : Nat} {S S0 : Nat -> Prop} {v : Value} {xs : List α}
theorem OwnS.setRow (h : OwnS R e w base S v xs) {g cap : Nat} (hv : v = .slice (some (zn g 0)) xs.length cap) {i : Nat} {x' : α} {cs : List Value} (hi : i < xs.length)
  (hrel : R.rel w S cs x') :
  OwnS R e (w.setCells g (i * R.k) cs) base S v (xs.set i x') /\ Keeps (fun b => b ≠ g) w (w.setCells g (i * R.k) cs) := by
 obtain ⟨cells, h1, h2, h3, h4⟩ := h
 have hlen := h1.1
 have hgS : ¬ S g := h2 g (by rw [hv]; rfl)
 have hK : ∀ T : Nat -> Prop, ¬ T g -> Keeps T w (w.setCells g (i * R.k) cs) := fun T hT b hb _ => Z1k g b (fun he => hT (he ▸ hb)) cs _ w
 have hcl := R.len hrel
 have hik : i * R.k + R.k <= xs.length * R.k := by rw [<- L2y]; exact L1c _ hi
 rcases h1.2 with ⟨hn, h0⟩ | ⟨g', cap', cur, hv', hb, hh, hnc, hcm, hcs, htake⟩
 ·omega
 obtain ⟨rfl, rfl⟩ : g' = g /\ cap' = cap := by
  rw [hv'] at hv
  injection hv with ha _ hc
  injection ha with ha
  injection ha with hb' _ _
  exact ⟨hb', hc⟩
 have hcapk : xs.length * R.k <= cap' * R.k := L1c _ hnc
 obtain ⟨cur', k1, k2⟩ := Z04 g' cs (i * R.k) w cur hh (by rw [hcl]; omega)
 have hcur : cur.toList.length = cap' * R.k := by simpa using hcs
 have hcells : cur'.toList.take (xs.length * R.k) = cells.take (i * R.k) ++ cs ++ cells.drop (i * R.k + R.k) := by
  rw [k2, <- htake, hcl, L4f, L3v (by omega), jD]
  rw [List.take_append, L0l (by simp; omega)]
  simp only [L0i, L1i, hcl]
  rw [L3v (by omega)]
 have key : ∀ j, ((cells.take (i * R.k) ++ cs ++ cells.drop (i * R.k + R.k)).drop (j * R.k)).take R.k = if j = i then cs else (cells.drop (j * R.k)).take R.k := by
  intro j
  have hl1 : (cells.take (i * R.k)).length = i * R.k := by rw [L1i]; omega
  rcases jE j i with hj | hj | hj
  ·have hle : j * R.k + R.k <= i * R.k := by rw [<- L2y]; exact L1c _ hj
   rw [if_neg (by omega), L2l, L2v (by omega), L1j (by rw [L1b]; omega), jD, L4f, L3v (by omega)]
  ·subst hj
   rw [if_pos rfl, L2l, L2v (by omega), jC (by omega), L1o, L1j (by omega), L0l (by omega)]
  have hle : i * R.k + R.k <= j * R.k := by rw [<- L2y]; exact L1c _ hj
  rw [if_neg (by omega), jB, jC (by rw [L0i]; omega), L1o, L0i, hl1, hcl, L3n]
  congr 2
  omega
 refine ⟨⟨cells.take (i * R.k) ++ cs ++ cells.drop (i * R.k + R.k), ⟨by rw [L0i, L0i, L1i, L1b, hlen, hcl, L3s, L3v (by omega)]; omega, .inr ⟨g', cap', cur', by simpa using hv', hb, k1, by simpa using hnc, hcm, ?_, by simpa using hcells⟩⟩, h2, by simpa using h3, fun m y hy => ?_⟩, hK _ (by simp)⟩
 ·have : cur'.toList.length = cap' * R.k := by
   rw [k2]
   simp [hcl]
   omega
  simpa using this
 rw [key]
 by_cases hmi : m = i
 ·subst hmi
  rw [if_pos rfl]
  rw [L2r hi] at hy
  obtain rfl := L0s hy
  exact R.keep hrel (hK _ hgS)
 rw [if_neg hmi]
 rw [L3d (by omega)] at hy
 exact R.keep (h4 m y hy) (hK _ hgS)
theorem OwnS.cutRow (h : OwnS R e w base S v xs) {g cap : Nat} (hv : v = .slice (some (zn g 0)) xs.length cap) {i : Nat} {vs : List Value} (hi : i <= xs.length) (hl : vs.length = (xs.length - i) * R.k) :
  OwnS R e (w.setCells g (i * R.k) vs) base S (.slice (some (zn g 0)) i cap) (xs.take i) /\ Below base w (w.setCells g (i * R.k) vs) := by
 have ht := h.take hv hi
 have hg : base <= g := (h.lt g (by rw [hv]; rfl)).1
 have htl : (xs.take i).length = i := by rw [L1i]; omega
 refine ⟨?_, Below.setCellsR hg vs _ w (L0m _ _)⟩
 obtain ⟨cells, h1, h2, h3, h4⟩ := ht
 have hgS : ¬ S g := h2 g rfl
 have hK : Keeps S w (w.setCells g (i * R.k) vs) := fun b hb _ => Z1k g b (fun he => hgS (he ▸ hb)) vs _ w
 have hsz : ∃ cur : Array Value, w.heap[g]? = some (.cells cur e (0, 0)) /\ cap <= maxLen /\ cur.size = cap * R.k /\ xs.length <= cap := by
  obtain ⟨cells', q1, _⟩ := h
  rcases q1.2 with ⟨hn, _⟩ | ⟨g', cap', cur, hv', _, hh, hnc, hcm, hcs, _⟩
  ·rw [hv] at hn; cases hn
  rw [hv] at hv'
  injection hv' with ha _ hc
  injection ha with ha
  injection ha with hb' _ _
  subst hb' hc
  exact ⟨cur, hh, hcm, hcs, hnc⟩
 obtain ⟨cur, hh, hcm, hcs, hnc⟩ := hsz
 have hcapk : xs.length * R.k <= cap * R.k := L1c _ hnc
 have hik : i * R.k <= xs.length * R.k := L1c _ hi
 rw [jF] at hl
 have hcur : cur.toList.length = cap * R.k := by simpa using hcs
 obtain ⟨cur', k1, k2⟩ := Z04 g vs (i * R.k) w cur hh (by rw [hl]; omega)
 have hcells : cur.toList.take (i * R.k) = cells := by
  rcases h1.2 with ⟨hn, _⟩ | ⟨g', cap', cur2, hv', _, hh', _, _, _, htake⟩
  ·cases hn
  injection hv' with ha _ hc
  injection ha with ha
  injection ha with hb' _ _
  subst hb'
  rw [hh] at hh'
  injection hh' with hh'
  injection hh' with hh' _ _
  subst hh'
  rw [htl] at htake
  exact htake
 refine ⟨cells, ⟨h1.1, .inr ⟨g, cap, cur', by rw [htl], hg, k1, by rw [htl]; omega, hcm, ?_, ?_⟩⟩, h2, h3, fun m y hy => R.keep (h4 m y hy) hK⟩
 ·have : cur'.toList.length = cap * R.k := by
   rw [k2]
   simp [hl]
   omega
  simpa using this
 rw [htl, k2, <- hcells, L2l, L1j (by rw [L1i]; omega), L4f, Nat.min_self]
theorem Z7i {P : Program} {t : TypeId} (hT : ElemOf P R t e) (h : OwnS R e w base S v xs) {g cap : Nat} (hv : v = .slice (some (zn g 0)) xs.length cap) {i c : Nat} (hi : i < xs.length) {z : Value} (hz : ∀ w, (zeroValue e).run P w = .ok z w) (hzs : z.cells.size = R.k)
  (hz1 : ∀ u ∈ z.cells, u.oneCell' = true) :
  ∃ vs : List Value, vs.length = (xs.length - i) * R.k /\ ∀ ty, (Builtin.clear_ #[t] ty #[.slice (some (zn g (i * R.k))) (xs.length - i) c]).run P w = .ok (.tuple #[]) (w.setCells g (i * R.k) vs) := by
 obtain ⟨cells, h1, h2, h3, h4⟩ := h
 rcases h1.2 with ⟨hn, h0⟩ | ⟨g', cap', cur, hv', hb, hh, hnc, hcm, hcs, htake⟩
 ·omega
 obtain ⟨rfl, rfl⟩ : g' = g /\ cap' = cap := by
  rw [hv'] at hv
  injection hv with ha _ hc
  injection ha with ha
  injection ha with hb' _ _
  exact ⟨hb', hc⟩
 have hcapk : xs.length * R.k <= cap' * R.k := L1c _ hnc
 have hzl : (Builtin.zeroCells z.cells (xs.length - i)).toList.length = (xs.length - i) * R.k := by simp [size_zeroCells, hzs]
 have hik : i * R.k <= xs.length * R.k := L1c _ (by omega)
 refine ⟨_, hzl, fun ty => ?_⟩
 rw [jF] at hzl
 have hst := run_storeCells_cells (P := P) g' (i * R.k) (Builtin.zeroCells z.cells (xs.length - i)).toList 0 w
  (fun j hj => by
   have hlt : i * R.k + 0 + j < cur.size := by rw [hcs]; omega
   simp [World.cell?, hh]
   omega)
  (fun j hj => by simp [jG, hh])
  (fun u hu => by
   simp only [Builtin.zeroCells, L1n, Array.toList_map, Array.toList_range] at hu
   obtain ⟨q, hq, rfl⟩ := hu
   have hk : 0 < R.k := hT.hk
   have hlt : q % z.cells.size < z.cells.size := Nat.mod_lt _ (by omega)
   rw [getElem!_pos z.cells _ hlt]
   exact hz1 _ (Array.getElem_mem hlt))
 have hne : xs.length - i ≠ 0 := by omega
 rw [L3x] at hst
 unfold Builtin.clear_
 obtain ⟨nn, hnn⟩ : ∃ nn, xs.length - i = nn + 1 := ⟨xs.length - i - 1, by omega⟩
 rw [hnn] at hst ⊢
 simp [run_underlying hT.ht, hz, hst, Result.andThen]
end
