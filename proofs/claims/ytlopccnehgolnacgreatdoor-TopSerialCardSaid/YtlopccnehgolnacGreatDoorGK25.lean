import Derived.Test.YtlopccnehgolnacGreatDoorGK23
import Derived.Deep.RegionHeld3
import Derived.Test.YtlopccnehgolnacGreatDoorRowSet
import Derived.BigRegion
import Derived.Deep.RegionWith
import Derived.Deep.DrawnRows
import Derived.Test.YtlopccnehgolnacGreatDoorGK11
import Derived.Test.YtlopccnehgolnacGreatDoorGK8
namespace Go.Proofs.YtlopccnehgolnacGreatDoor
open Go.RowKit Rb
open Rd renaming below -> jA, drew -> jB
set_option maxRecDepth 100000
set_option maxHeartbeats 800000
attribute [local go_sem ↓] Go.wp_at_zero Go.wp_at_succ
theorem X3a : ElemOf Tryz.prog (rRaw 1 24) 163 70 := .mk' Tryz.underlying163 (z := nl) (k := 1) (b := 24) (by kernel_rfl) rfl rfl rfl (by decide) (by decide)
theorem Y0q {S : Nat -> Prop} {A : Option Addr} {c : Nat} {b : List (List Value)} (w : World) (hE : Elems (rRaw 1 24) w S A b) (hbb' : b.length <= 5864062014805) :
  Calls Tryz.prog 165 #[.slice A b.length c] w fun e w' => ∃ z, e = .returned z /\ Own (rRaw 1 24) 70 w' w.heap.size (fun _ => False) z b /\ Bw w w' := by
 have hq := fun (w : World) (a : Option Addr) (n c : Nat) => Lib.run_eql_slice_nil (P := Tryz.prog) w 163 70 a n c 0 0 Tryz.underlying163
 rcases A with _ | a
 ·have hb0 : b = [] := by
   cases b with
   | nil => rfl
   | cons x t =>
    obtain ⟨_, _, _, h, _⟩ := hE 0 x rfl
    cases h
  subst hb0
  go_enter Tryz.func165, Tryz.ntmps165
  go_wp2
  go_ret
  exact ⟨_, rfl, Own.nil _ _ _ _ _, L0m _ _⟩
 have hE3 : Elems (rRaw 1 24) (w.alloc (.cells #[] 70)) S (some a) b := hE.keep (Keeps.alloc _)
 clear hE
 go_enter Tryz.func165, Tryz.ntmps165
 go_wp2_with (at_builtin; refine Z37 (R := rRaw 1 24) (v := .slice (some (zn w.heap.size 0)) 0 0) (S0 := fun _ => False) X3a rfl (.tmp 5) (.tmp 6) rfl rfl (Own.empty (rRaw 1 24) 70 w _ rfl) rfl (fun _ => False) rfl hE3 (fun _ _ h => h) (fun _ h => h.elim) ?_ (by simp) ?_; (simp only [rRaw, L0v]; omega); intro v1 w1 hown1 hb1 _ _; obtain ⟨A3, c3, rfl⟩ := hown1.value; simp only [L1o] at hown1)
 go_ret
 exact ⟨_, rfl, hown1, bA.trans hb1⟩
def Z2c : Bx -> Bx -> Bx -> List Bx
 | pre, s :: a, t :: b => (if (Z5g s t).length = 0 then [] else [pre ++ Z5g s t :: a]) ++ (if (Z09 s t).length = 0 then [] else Z2c (pre ++ [Z09 s t]) a b)
 | _, _, _ => []
def Z4f (a b : Bx) : List Bx := if Z06 a (a.length : Int) && Z06 b (a.length : Int) then Z2c [] a b else []
section
variable {α : Type} {R : Rd α} {e : TypeId} {w : World} {S : Nat -> Prop} {v : Value} {xs : List α} {x : α} {base : Nat}
theorem Z99 {P : Program} {t ty : TypeId} (hT : ElemOf P R t e) (hown : OwnS R e w base S v xs) {cs : List Value} {S1 : Nat -> Prop} (hrel : R.rel w S1 cs x)
  (hS1 : ∀ b, S1 b -> b < w.heap.size -> v.ownBlock ≠ some b) (hbytes : (xs.length + 1) * R.bytes <= 140737488355328) (hbase : base <= w.heap.size) :
  ∃ v' w', (Builtin.append_ #[t, t] ty #[v, .slice (some (zn w.heap.size 0)) 1 1]).run P (w.alloc (.cells cs.toArray e)) = .ok v' w' /\ OwnS R e w' base (fun b => (S b \/ S1 b) /\ b < w.heap.size /\ v.ownBlock ≠ some b) v' (xs ++ [x]) /\ w.grownBy w' v.ownBlock /\
   (v'.ownBlock = v.ownBlock \/ v'.ownBlock = some (w.heap.size + 1)) := by
 obtain ⟨i, z, hi, hz, hsize, hby, hzs⟩ := hT.hi
 have h63 : xs.length + 1 <= maxLen := by
  have := L3p (xs.length + 1) hT.hb
  unfold maxLen; omega
 have hal : OwnS R e (w.alloc (.cells cs.toArray e)) base (fun b => S b /\ b < w.heap.size) v xs := by
  obtain ⟨cells, h1, h2, h3, h4⟩ := hown
  exact ⟨cells, h1.kept (Below.grownBy_ (row := none) bA) (by cases v.ownBlock <;> simp), fun g hg h => h2 g hg h.1, h3, fun i x hx => R.keep (R.mono (h4 i x hx) fun b hb hlt => ⟨hb, hlt⟩) (.alloc _)⟩
 obtain ⟨cells, h1, h2, h3, h4⟩ := hal
 obtain ⟨v', w', hrun, k1, k2, _, k4⟩ := run_append_own_at (P := P) (w.alloc (.cells cs.toArray e)) base t ty e i z R.k R.bytes hT.ht hi hz hsize hby hzs hT.hk v xs.length cells h1 (zn w.heap.size 0) 1 1 cs (by rw [Nat.one_mul]; exact R.len hrel) (Z6q w cs e) (R.one hrel) h63 hbytes (by simp; omega)
 refine ⟨v', w', hrun, ⟨cells ++ cs, by rw [L0i]; exact k1, ?_, fun _ => by rw [L0i]; exact hbytes, ?_⟩, ?_, ?_⟩
 ·rintro g hg ⟨_, hlt, hne⟩
  rcases k4 with k4 | k4
  ·exact hne (k4 ▸ hg)
  rw [k4] at hg; injection hg with hg; simp at hg; omega
 ·intro j y hy
  have hl := h1.1
  obtain ⟨d1, d2⟩ := Z1m (k := R.k) hl (R.len hrel) j
  have hK : Keeps (fun b => (S b \/ S1 b) /\ b < w.heap.size /\ v.ownBlock ≠ some b) (w.alloc (.cells cs.toArray e)) w' := .grown k2 fun g hg ⟨_, _, hne⟩ => hne hg
  rcases L1r j xs.length with hj | hj
  ·rw [d1 hj]
   rw [L1l hj] at hy
   exact R.keep (R.mono (h4 j y hy) fun b hb hlt => ⟨.inl hb.1, hb.2, fun hg => h2 b hg hb⟩) hK
  have hj' : j = xs.length := by
   have : j < (xs ++ [x]).length := (L0n.1 hy).1
   simp at this; omega
  subst hj'
  rw [d2]
  obtain rfl : x = y := by simpa using hy
  exact R.keep (R.keep (R.mono (S' := fun b => (S b \/ S1 b) /\ b < w.heap.size /\ v.ownBlock ≠ some b) hrel fun b hb hlt => ⟨.inr hb, hlt, hS1 b hb hlt⟩) (.alloc _)) hK
 ·exact ⟨k2.os, k2.tape, k2.output, L0h (by simp) k2.size, fun j hj hne => (k2.block j (by simp; omega) hne).trans (L3z w _ j hj)⟩
 simpa using k4
theorem Z1t {P : Program} {ops : Array Oper} {rest : List Oper} {o : Oper} {a : Act} {Q : Exit -> Act -> World -> Prop} {t : TypeId} (hT : ElemOf P R t e) (hgd : o.guard = none) (s y : Operand)
  (ho : o.op = .call { callee := .builtin .append, args := #[s, y], argTypes := #[t, t] })
  (hs : a.eval s = v) (hown : OwnS R e w base S v xs) (cs : List Value) {n : Nat} (hx : a.eval y = .slice (some (zn n 0)) 1 1) (hn : w.heap.size = n) (S1 : Nat -> Prop) (hrel : R.rel w S1 cs x)
  (hS1 : ∀ b, S1 b -> b < w.heap.size -> v.ownBlock ≠ some b) (hbytes : (xs.length + 1) * R.bytes <= 140737488355328) (hbase : base <= w.heap.size)
  (h : ∀ v' w', OwnS R e w' base (fun b => (S b \/ S1 b) /\ b < w.heap.size /\ v.ownBlock ≠ some b) v' (xs ++ [x]) -> w.grownBy w' v.ownBlock -> (v'.ownBlock = v.ownBlock \/ v'.ownBlock = some (w.heap.size + 1)) -> wpList P ops Q rest (a.put o.dst v') w') :
  wpList P ops Q (o :: rest) a (w.alloc (.cells cs.toArray e)) := by
 subst hn
 obtain ⟨v', w', hr, h2, h3, h4⟩ := Z99 (P := P) (t := t) (ty := o.type) hT hown hrel hS1 hbytes hbase
 refine wpList_plain hgd fun K hK => ?_
 unfold Oper.wp execOp
 simp only [ho, resolve, invoke, builtin, Sem.run_bind, Sem.run_pure, Result.andThen_ok, L4e, L2q, L4h, hs, hx, hr]
 exact hK _ _ (h v' w' h2 h3 h4)
theorem OwnS.value (h : OwnS R e w base S v xs) : ∃ A c, v = .slice A xs.length c := Own.value (R := R) (e := e) (w := w) (base := base) (S0 := S) ⟨S, h, fun _ hb => .inl hb⟩
end
theorem Y6w {w : World} {base : Nat} {v : Value} {raws : List (List Value)} {b : Bx} {S : Nat -> Prop} (h : Own (rRaw 1 24) 70 w base (fun _ => False) v raws) (hl : raws.length = b.length)
  (hr : ∀ (i : Nat) p x, raws[i]? = some p -> b[i]? = some x -> (rSl rRg).rel w S p x) : rBx.rel w (fun x => S x \/ v.ownBlock = some x) [v] b := by
 obtain ⟨A, c, hv, h1, h2, h3, h4⟩ := h.rel (by decide)
 simp only [L1f, and_true] at hv
 refine ⟨A, c, by rw [hv, hl], by omega, h2, by rw [<- hl]; exact h3, ?_⟩
 have hE : Elems (rRaw (rSl rRg).k (rSl rRg).bytes) w (fun x => v.ownBlock = some x) A raws := by
  intro i x hx
  obtain ⟨g, off, es, hA, hS, hb, hrr, hc⟩ := h4 i x hx
  exact ⟨g, off, es, hA, by rw [hv, hA]; rfl, hb, hrr, hc⟩
 exact Elems.unraw hE hl hr
theorem Y6h {w w' : World} {raws : List (List Value)} {l : Bx} {S S' : Nat -> Prop} {k : Nat} {z : Value} {s : List Rg} (hk : k < raws.length) (h : ∀ (i : Nat) p x, raws[i]? = some p -> l[i]? = some x -> (rSl rRg).rel w S p x) (hK : ∀ cs x, (rSl rRg).rel w S cs x -> (rSl rRg).rel w' S' cs x) (hz : (rSl rRg).rel w' S' [z] s) (hl : raws.length = l.length) :
  ∀ (i : Nat) p x, (raws.set k [z])[i]? = some p -> (l.set k s)[i]? = some x -> (rSl rRg).rel w' S' p x := by
 intro i p x hp hx
 by_cases hi : i = k
 ·subst hi
  rw [L2r hk] at hp
  rw [L2r (by omega)] at hx
  rw [<- L0s hp, <- L0s hx]
  exact hz
 rw [L3d (by omega)] at hp
 rw [L3d (by omega)] at hx
 exact hK _ _ (h i p x hp hx)
theorem X1k {w : World} {base g n c k : Nat} {raws : List (List Value)} {x : Value} {e : TypeId} (h : Own (rRaw 1 24) e w base (fun _ => False) (.slice (some (zn g 0)) n c) raws) (hx : raws[k]? = some [x]) : w.cell? (zn g k) = some x := by
 obtain ⟨_, hE9⟩ := h.elems (by decide) rfl
 obtain ⟨b9, o9, es, hA9, _, _, ⟨he, _, _⟩, hc⟩ := hE9 k _ hx
 obtain ⟨rfl, rfl⟩ : g = b9 /\ 0 = o9 := by simpa using hA9
 subst he
 have := hc 0 x rfl
 have e : 0 + k * (rRaw 1 24).k + 0 = k := by show 0 + k * 1 + 0 = k; omega
 rwa [e] at this
theorem Y5j {pre a : Bx} {k : Nat} {s s' : List Rg} (hp : pre.length = k) (h : a[k]? = some s) : (pre ++ a.drop k).set k s' = pre ++ s' :: a.drop (k + 1) := by
 rw [Z0p h, List.set_append_right _ _ (by omega), hp, Nat.sub_self]; rfl
structure LessI (w : World) (S : Nat -> Prop) (a b : Bx) (gr cz k m : Nat) (wr : World) (o : Value) (pre : Bx) (out : List Bx) (raws : List (List Value)) (S1 : Nat -> Prop) (rs : List Bx) : Prop where
 hp : pre.length = k
 ho : out.length <= m
 hn : raws.length = a.length
 row : Own (rRaw 1 24) 70 wr w.heap.size (fun _ => False) (.slice (some (zn gr 0)) a.length cz) raws
 rd : ∀ (i : Nat) p x, raws[i]? = some p -> (pre ++ a.drop k)[i]? = some x -> (rSl rRg).rel wr S1 p x
 own : OwnS rBx 163 wr w.heap.size S1 o out
 ngr : ¬ S1 gr
 lt : ∀ b, S1 b -> b < wr.heap.size /\ Up S w.heap.size b
 ogr : o.ownBlock ≠ some gr
 grl : w.heap.size <= gr /\ gr < wr.heap.size
 res : Z4f a b = out ++ rs
 below : Bw w wr
section
variable {w : World} {S : Nat -> Prop} {a b : Bx} {gr cz k m : Nat} {wr : World} {o : Value} {pre : Bx} {out : List Bx} {raws : List (List Value)} {S1 : Nat -> Prop} {rs : List Bx}
theorem LessI.keepB (I : LessI w S a b gr cz k m wr o pre out raws S1 rs) {w' : World} (hb : Bw wr w') : LessI w S a b gr cz k m w' o pre out raws S1 rs where
 hp := I.hp
 ho := I.ho
 hn := I.hn
 row := I.row.below hb
 rd := fun i p x hp hx => jA (I.rd i p x hp hx) hb
 own := I.own.below hb
 ngr := I.ngr
 lt := fun b h => ⟨L0c (I.lt b h).1 hb.size, (I.lt b h).2⟩
 ogr := I.ogr
 grl := ⟨I.grl.1, L0c I.grl.2 hb.size⟩
 res := I.res
 below := I.below.trans (hb.mono I.below.size)
theorem LessI.again (I : LessI w S a b gr cz k m wr o pre out raws S1 rs) {rs' : List Bx} (h : rs = rs') : LessI w S a b gr cz k m wr o pre out raws S1 rs' := h ▸ I
theorem LessI.push (I : LessI w S a b gr cz k m wr o pre out raws S1 rs) {w6 w7 : World} {o' : Value} {S2 : Nat -> Prop} {x : Bx} {rs' : List Bx} (hb : Bw wr w6) (hown : OwnS rBx 163 w7 w.heap.size (fun b => (S1 b \/ S2 b) /\ b < w6.heap.size /\ o.ownBlock ≠ some b) o' (out ++ [x]))
  (hg : w6.grownBy w7 o.ownBlock) (ho' : o'.ownBlock = o.ownBlock \/ o'.ownBlock = some (w6.heap.size + 1)) (hS2 : ∀ b, S2 b -> b ≠ gr /\ (S1 b \/ wr.heap.size <= b)) (hres : rs = x :: rs') :
  LessI w S a b gr cz k (m + 1) w7 o' pre (out ++ [x]) raws (fun b => (S1 b \/ S2 b) /\ b < w6.heap.size /\ o.ownBlock ≠ some b) rs' := by
 have I6 := I.keepB hb
 have hno : ∀ g, o.ownBlock = some g -> ¬ S1 g := fun g hg => by obtain ⟨_, _, h2, _⟩ := I.own; exact h2 g hg
 refine ⟨I.hp, by have := I.ho; simp; omega, I.hn, I6.row.keptF (X04 1 24) hg (.inr fun e => I.ogr (by rw [<- e]; rfl)), fun i p x hp hx => ?_, hown, fun h => ?_, fun b h => ?_, ?_, ⟨I.grl.1, L0c I6.grl.2 hg.size⟩, by rw [I.res, hres]; simp, ?_⟩
 ·refine (rSl rRg).keep ((rSl rRg).mono (I6.rd i p x hp hx) (S' := fun b => (S1 b \/ S2 b) /\ b < w6.heap.size /\ o.ownBlock ≠ some b) fun b hb hlt => ⟨.inl hb, hlt, fun e => hno b e hb⟩) (.grown hg fun g hg' h => h.2.2 hg')
 ·rcases h.1 with h1 | h1
  ·exact I.ngr h1
  exact (hS2 gr h1).1 rfl
 ·refine ⟨L0c h.2.1 hg.size, ?_⟩
  rcases h.1 with h1 | h1
  ·exact (I.lt b h1).2
  rcases (hS2 b h1).2 with h2 | h2
  ·exact (I.lt b h2).2
  exact .inr (L0h I.below.size h2)
 ·rcases ho' with h | h
  ·rw [h]; exact I.ogr
  rw [h]; intro e; injection e with e; have := I6.grl.2; omega
 exact I6.below.trans ((L0m w.heap.size w6).grown hg I6.below.size fun k hk => (I.own.lt k hk).1)
theorem LessI.step (I : LessI w S a b gr cz k m wr o pre out raws S1 rs) (hk : k < a.length) {w8 : World} {z : Value} {s2 : List Rg} (hb : Bw wr w8) (hz : (rSl rRg).rel w8 (Up (fun _ => False) wr.heap.size) [z] s2) :
  LessI w S a b gr cz (k + 1) m (w8.setCell (zn gr k) z) o (pre ++ [s2]) out (raws.set k [z]) (fun b => S1 b \/ (wr.heap.size <= b /\ b < w8.heap.size)) rs := by
 have I8 := I.keepB hb
 have hx : a[k]? = some a[k] := L0f hk
 have hkr : k < raws.length := by rw [I.hn]; exact hk
 have hn8 : ¬ (S1 gr \/ (wr.heap.size <= gr /\ gr < w8.heap.size)) := by
  rintro (h | h)
  ·exact I.ngr h
  have := I.grl.2; omega
 have hg := X4l w8 (zn gr k) z
 have hone : z.oneCell' = true := (rSl rRg).one hz z (by simp)
 refine ⟨by simp [I.hp], I.ho, by simp [I.hn], ?_, ?_, ?_, hn8, fun b h => ?_, I.ogr, ⟨I.grl.1, by simpa using I8.grl.2⟩, I.res, I8.below.setCell I.grl.1 _⟩
 ·have h1 := I8.row.set (x' := [z]) (u := z) (i := k) (j := 0) (g := gr) (cap := cz) (by rw [I.hn]) hkr (by decide : 0 < 1) (fun es S hr => by
   obtain ⟨rfl, hl1, _⟩ := hr
   have hl1' : raws[k].length = 1 := hl1
   generalize raws[k] = p at *
   match p, hl1' with
   | [q], _ => exact ⟨rfl, rfl, fun u hu => by simp at hu; subst hu; exact hone⟩)
  have e : k * (rRaw 1 24).k + 0 = k := by show k * 1 + 0 = k; omega
  rw [e] at h1
  exact h1
 ·have hl : raws.length = (pre ++ a.drop k).length := by rw [I.hn, L0i, I.hp, L1b]; omega
  have h1 := Y6h (s := s2) (z := z) (S' := fun b => S1 b \/ (wr.heap.size <= b /\ b < w8.heap.size)) (w' := w8.setCell (zn gr k) z) hkr I8.rd
   (fun cs x h => (rSl rRg).keep ((rSl rRg).mono h fun b hb _ => .inl hb) (.grown hg fun g hg' h => by cases hg'; exact hn8 h))
   ((rSl rRg).keep ((rSl rRg).mono hz (S' := fun b => S1 b \/ (wr.heap.size <= b /\ b < w8.heap.size)) fun b hb hlt => by rcases hb with h | h; exact h.elim; exact .inr ⟨h, hlt⟩) (.grown hg fun g hg' h => by cases hg'; exact hn8 h)) hl
  rw [Y5j I.hp hx] at h1
  simpa using h1
 ·have h1 := I8.own.kept hg (.inr I.ogr) (fun g hg' h => by cases hg'; exact I.ngr h)
  obtain ⟨cells, k1, k2, k3, k4⟩ := h1
  exact ⟨cells, k1, fun g hg' h => by
   rcases h with h | h
   ·exact k2 g hg' h
   have := (I.own.lt g hg').2; omega, k3, fun i x hx => rBx.mono (k4 i x hx) fun b hb _ => .inl hb⟩
 rcases h with h | h
 ·exact ⟨by simpa using (I8.lt b h).1, (I.lt b h).2⟩
 exact ⟨by simpa using h.2, .inr (L0h I.below.size h.1)⟩
theorem LessI.box (I : LessI w S a b gr cz k m wr o pre out raws S1 rs) (hk : k < a.length) {s ls : List Rg} (hx : a[k]? = some s) {w4 w5 : World} {z : Value} {gx cx : Nat} (hb4 : Bw wr w4) (hz4 : (rSl rRg).rel w4 (Up (fun _ => False) wr.heap.size) [z] ls)
  (hox : Own (rRaw 1 24) 70 w5 w4.heap.size (fun _ => False) (.slice (some (zn gx 0)) a.length cx) raws) (hb5 : Bw w4 w5) (hgx : w4.heap.size <= gx) :
  Bw wr (w5.setCell (zn gx k) z) /\ rBx.rel (w5.setCell (zn gx k) z) (fun x => (S1 x \/ (wr.heap.size <= x /\ x < w4.heap.size)) \/ x = gx) [.slice (some (zn gx 0)) a.length cx] (pre ++ ls :: a.drop (k + 1)) := by
 have hkr : k < raws.length := by rw [I.hn]; exact hk
 have hone : z.oneCell' = true := (rSl rRg).one hz4 z (by simp)
 have hb45 : Bw wr w5 := hb4.trans (hb5.mono hb4.size)
 have hb6 : Bw wr (w5.setCell (zn gx k) z) := hb45.setCell (L0h hb4.size hgx) _
 refine ⟨hb6, ?_⟩
 have h1 := hox.set (x' := [z]) (u := z) (i := k) (j := 0) (g := gx) (cap := cx) (by rw [I.hn]) hkr (by decide : 0 < 1) (fun es S hr => by
   obtain ⟨rfl, hl1, _⟩ := hr
   have hl1' : raws[k].length = 1 := hl1
   generalize raws[k] = p at *
   match p, hl1' with
   | [q], _ => exact ⟨rfl, rfl, fun u hu => by simp at hu; subst hu; exact hone⟩)
 have e : k * (rRaw 1 24).k + 0 = k := by show k * 1 + 0 = k; omega
 rw [e] at h1
 have hl : raws.length = (pre ++ a.drop k).length := by rw [I.hn, L0i, I.hp, L1b]; omega
 have hzz : (rSl rRg).rel (w5.setCell (zn gx k) z) (fun x => S1 x \/ (wr.heap.size <= x /\ x < w4.heap.size)) [z] ls := by
  have h2 := (rSl rRg).mono hz4 (S' := fun x => wr.heap.size <= x /\ x < w4.heap.size) fun x hx hlt => by
   rcases hx with h | h
   ·exact h.elim
   exact ⟨h, hlt⟩
  exact (rSl rRg).mono ((rSl rRg).keep (jA h2 hb5) (.setCell (by show ¬ (wr.heap.size <= gx /\ gx < w4.heap.size); omega) _)) fun x hx _ => .inr hx
 have h3 := Y6h (s := ls) (z := z) (S' := fun x => S1 x \/ (wr.heap.size <= x /\ x < w4.heap.size)) (w' := w5.setCell (zn gx k) z) hkr I.rd (fun cs x h => (rSl rRg).mono (jA h hb6) fun x hx _ => .inl hx) hzz hl
 rw [Y5j I.hp hx] at h3
 have h4 := Y6w h1 (by rw [L3s, hl, <- Y5j I.hp hx (s' := ls), L3s]) h3
 refine rBx.mono h4 fun x hx _ => ?_
 rcases hx with h | h
 ·exact .inl h
 simp [Value.ownBlock] at h; exact .inr h.symm
end
theorem Y7v {S T : Nat -> Prop} {v u : Value} {a b : Bx} (w : World) (hl : rBx.rel w S [v] a) (hm : rBx.rel w T [u] b) :
  Calls Tryz.prog 147 #[v, u] w fun e w' => ∃ z, e = .returned z /\ Own rBx 163 w' w.heap.size S z (Z4f a b) /\ Bw w w' := by
 have hal := rSl.lenle hl (by decide)
 have HG := L0 (Z3m (a.length : Int) w hl)
 have HG2 := L0 fun w' (hb : Bw w w') => Z3m (a.length : Int) w' (jA hm hb)
 obtain ⟨A, c, rfl, _, _, hbb, hE⟩ := rSl.elems hl
 obtain ⟨B, d, rfl, _, _, _, hF⟩ := rSl.elems hm
 have hbb' : a.length <= 5864062014805 := by simp only [rSl] at hbb; omega
 clear hl hm hbb
 cases hg : Z06 a (a.length : Int)
 ·rw [hg] at HG
  have HF : Hid (Z4f a b = []) := L0 (by unfold Z4f; rw [hg]; rfl)
  clear hg
  go_enter Tryz.func147, Tryz.ntmps147
  go_wp2_with (go_at_call 118; ((with_reducible refine HG.o.mono ?_); rintro e w1 ⟨rfl, hb1⟩))
  go_ret
  exact ⟨_, rfl, by rw [HF.o]; exact Own.nil _ _ _ _ _, hb1⟩
 rw [hg] at HG
 cases hg2 : Z06 b (a.length : Int)
 ·rw [hg2] at HG2
  have HF : Hid (Z4f a b = []) := L0 (by unfold Z4f; rw [hg, hg2]; rfl)
  clear hg hg2
  go_enter Tryz.func147, Tryz.ntmps147
  go_wp2_with (first | (go_at_call 118; ((with_reducible refine HG.o.mono ?_); rintro e w1 ⟨rfl, hb1⟩)) | (go_at_call 118; ((with_reducible refine (HG2.o _ hb1).mono ?_); rintro e w2 ⟨rfl, hb2⟩)))
  go_ret
  exact ⟨_, rfl, by rw [HF.o]; exact Own.nil _ _ _ _ _, hb1.trans (hb2.mono hb1.size)⟩
 rw [hg2] at HG2
 obtain ⟨ga, _, ha3⟩ := goodBx_iff.1 hg
 obtain ⟨gb, hab, _⟩ := goodBx_iff.1 hg2
 have HGS := L0 (And.intro ga gb)
 have HL0 : Hid (Z4f a b = [] ++ Z2c [] (a.drop 0) (b.drop 0)) := L0 (by unfold Z4f; rw [hg, hg2]; simp)
 clear hg hg2 ga gb
 have HAB := L0 hab
 obtain ⟨raws, hrl, hRaw, hRR⟩ := hE.raw
 have hRaw' : Elems (rRaw 1 24) w S A raws := hRaw
 have HRR := L0 hRR
 have HRL := L0 hrl
 have HCL : Hid (∀ w', Bw w w' -> Calls Tryz.prog 165 #[.slice A a.length c] w' fun e w2 => ∃ Az cz, e = .returned (.slice Az a.length cz) /\ Own (rRaw 1 24) 70 w2 w'.heap.size (fun _ => False) (.slice Az a.length cz) raws /\ Bw w' w2) :=
  L0 fun w' hb => by
   rw [<- hrl]
   refine (Y0q w' (hRaw'.keep (.of_below hb)) (by omega)).mono fun e w2 ⟨z, h1, h2, h3⟩ => ?_
   obtain ⟨Az, cz, rfl⟩ := h2.value
   exact ⟨Az, cz, h1, h2, h3⟩
 clear hab hRaw hRaw' hRR hrl
 go_enter Tryz.func147, Tryz.ntmps147
 go_wp2_with (first | (go_at_call 118; ((with_reducible refine HG.o.mono ?_); rintro e w1 ⟨rfl, hb1⟩)) | (go_at_call 118; ((with_reducible refine (HG2.o _ hb1).mono ?_); rintro e w2 ⟨rfl, hb2⟩; have hb12 := hb1.trans (hb2.mono hb1.size))) | (go_at_call 165; ((with_reducible refine (HCL.o _ hb12).mono ?_); rintro e w3 ⟨Az, cz, rfl, hor, hb3⟩)))
 have hbx := hb12.trans (hb3.mono hb12.size)
 have hsz12 := hb12.size
 rcases L2p a.length with ha0 | ha0
 ·have HF : Hid (Z4f a b = []) := L0 (by rw [HL0.o, L1g ha0]; rfl)
  go_loopw [5, 26] (fun o i wr => o = nl /\ i = .int .i64 0 /\ Bw w wr) (fun _ _ _ => 0)
  exact ⟨rfl, rfl, hbx⟩
  obtain ⟨rfl, rfl, hb⟩ := hrel
  go_wp2
  go_ret
  exact ⟨_, rfl, by rw [HF.o]; exact Own.nil _ _ _ _ _, hb⟩
 obtain ⟨gr, rfl, hgr1, hgr2⟩ : ∃ gr, Az = some (zn gr 0) /\ w2.heap.size <= gr /\ gr < w3.heap.size := by
  rcases hor.form with ⟨_, h⟩ | ⟨g, cap, h, h1, h2⟩
  ·have := HRL.o; rw [h] at this; simp at this; omega
  injection h with h _ _; exact ⟨g, h, h1, h2⟩
 have I0 : LessI w S a b gr cz 0 0 w3 (nl) [] [] raws (fun b => S b /\ b < w.heap.size) (Z2c [] (a.drop 0) (b.drop 0)) :=
  ⟨rfl, L0g _, HRL.o, hor.lower hsz12, fun i p x hp hx => (rSl rRg).mono (jA ((rSl rRg).mono (HRR.o i p x hp (by simpa using hx)) (S' := fun b => S b /\ b < w.heap.size) fun b hb hlt => ⟨hb, hlt⟩) hbx) fun b hb _ => hb, OwnS.nil _ _ _ _ _,
   fun h => by omega, fun b h => ⟨L0c h.2 hbx.size, .inl h.1⟩, by simp [Value.ownBlock], ⟨by omega, hgr2⟩, HL0.o, hbx⟩
 have HI0 := L0 I0
 clear I0 hor HRR HRL HL0 hgr1 hgr2 hE
 go_loopw [5, 26] (fun o i wr => ∃ (k : Nat) (pre : Bx) (out : List Bx) (raws : List (List Value)) (S1 : Nat -> Prop), k <= a.length /\ i = .int .i64 k /\ Hid (LessI w S a b gr cz k k wr o pre out raws S1 (Z2c pre (a.drop k) (b.drop k)))) (fun _ i _ => a.length - (intOf i).toNat)
 exact ⟨0, _, _, _, _, L0o _, rfl, HI0⟩
 obtain ⟨k, pre, out, raws, S1, hk, rfl, HI⟩ := hrel
 by_cases hlt : k < a.length
 ·have hltb : k < b.length := by have := HAB.o; omega
  have hx : a[k]? = some a[k] := L0f hlt
  obtain ⟨q, off', v', t, rfl, _, hq, hx', hs', h2⟩ := hF.sl hltb
  have hga := (HGS.o.1 a[k] (L2c hlt)).2
  have hgb := (HGS.o.2 t (L0z hx')).2
  have hxp : (pre ++ a.drop k)[k]? = some a[k] := by
   have := HI.o.hp
   rw [L3g (by omega), this, Nat.sub_self, L1p]; exact hx
  have hRS : Z2c pre (a.drop k) (b.drop k) = (if (Z5g a[k] t).length = 0 then [] else [pre ++ Z5g a[k] t :: a.drop (k + 1)]) ++ (if (Z09 a[k] t).length = 0 then [] else Z2c (pre ++ [Z09 a[k] t]) (a.drop (k + 1)) (b.drop (k + 1))) := by
   conv => lhs; rw [Z0p hx, Z0p hx', Z2c]
  have HRS := L0 hRS
  have hkr : k < raws.length := by rw [HI.o.hn]; exact hlt
  obtain ⟨vs, hvs, hrs⟩ : ∃ vs, raws[k]? = some [vs] /\ (rSl rRg).rel wr S1 [vs] a[k] := by
   have h := HI.o.rd k raws[k] a[k] (L0f hkr) hxp
   have h' := h
   obtain ⟨A9, c9, h9, _⟩ := h'
   rw [h9] at h
   refine ⟨_, ?_, h⟩
   rw [L0f hkr, h9]
  obtain ⟨hbw, hsz0⟩ : Bw w wr /\ gr < wr.heap.size := ⟨HI.o.below, HI.o.grl.2⟩
  have hrow := HI.o.row
  have hfr := hrow.free rfl
  have h1 : wr.cell? (zn gr k) = some vs := by
   obtain ⟨_, hE9⟩ := hrow.elems (by decide) rfl
   obtain ⟨b9, o9, es, hA9, _, _, ⟨he, _, _⟩, hc⟩ := hE9 k _ hvs
   obtain ⟨rfl, rfl⟩ : gr = b9 /\ 0 = o9 := by simpa using hA9
   subst he
   have := hc 0 vs rfl
   have e : 0 + k * (rRaw 1 24).k + 0 = k := by show 0 + k * 1 + 0 = k; omega
   rwa [e] at this
  rw [<- hbw.ce _ hq] at h2
  have hik : (k : Int) < a.length := by omega
  have hik2 : (k : Int) < b.length := by omega
  have hCL := Y5v wr.drew (jB hrs) (jB (jA hs' hbw)) hga hgb
  have HCLs := L0 hCL
  have HVS := L0 hvs
  have HXP := L0 hxp
  have HX := L0 hx
  have HGA := L0 (And.intro hga hgb)
  obtain ⟨Av, cv, rfl, _⟩ := rSl.elems hrs
  obtain ⟨At, ct, rfl, _⟩ := rSl.elems hs'
  have HST := L0 hs'
  have HB2 := L0 (show w.cell? (zn q (off' + k)) = some (.slice At t.length ct) by rw [<- hbw.ce _ hq]; exact h2)
  generalize hak : a[k] = s at *
  clear hx hx' hga hgb hxp hRS hvs hrs hrow hCL hs' hF
  go_wp2
  go_still_tail 8, (by kernel_rfl)
  change wpList _ _ _ _ _ wr.drew
  have hwd0 : Bw wr wr.drew := Z0h (L0m _ _) 1
  have hszd : wr.drew.heap.size = wr.heap.size := rfl
  generalize wr.drew = wd at *
  have HWD := L0 hwd0
  have HSZ := L0 hszd
  clear hwd0 hszd
  by_cases hz : (Z5g s t).length = 0
  ·have HM1 : Hid (Z2c pre (a.drop k) (b.drop k) = (if (Z09 s t).length = 0 then [] else Z2c (pre ++ [Z09 s t]) (a.drop (k + 1)) (b.drop (k + 1)))) := L0 (by rw [HRS.o, if_pos hz, L1o])
   generalize Z5g s t = ls at *
   go_wp2_with (go_at_call 142; ((with_reducible refine HCLs.o.mono ?_); rintro e w4 ⟨z4, rfl, how4, hb4⟩; obtain ⟨A4, c4, rfl⟩ := how4.value))
   obtain ⟨wm, rfl, om, rfl, outm, S1m, HM⟩ : ∃ wm, wm = w4 /\ ∃ om, om = u5 /\ ∃ (outm : List Bx) (S1m : Nat -> Prop), Hid (LessI w S a b gr cz k (k + 1) wm om pre outm raws S1m (if (Z09 s t).length = 0 then [] else Z2c (pre ++ [Z09 s t]) (a.drop (k + 1)) (b.drop (k + 1)))) :=
    ⟨_, rfl, _, rfl, out, S1, L0 (by
     have h := (HI.o.keepB (HWD.o.trans (by rw [<- HSZ.o]; exact hb4))).again HM1.o
     exact { h with ho := L4m h.ho })⟩
   have hbm := HM.o.below
   have mrow := HM.o.row
   have mf := mrow.free rfl
   have m1 : wm.cell? (zn gr k) = some (.slice Av s.length cv) := by
    obtain ⟨_, hE9⟩ := mrow.elems (by decide) rfl
    obtain ⟨b9, o9, es, hA9, _, _, ⟨he, _, _⟩, hc⟩ := hE9 k _ HVS.o
    obtain ⟨rfl, rfl⟩ : gr = b9 /\ 0 = o9 := by simpa using hA9
    subst he
    have := hc 0 _ rfl
    have e : 0 + k * (rRaw 1 24).k + 0 = k := by show 0 + k * 1 + 0 = k; omega
    rwa [e] at this
   have m2 : wm.cell? (zn q (off' + k)) = some (.slice At t.length ct) := (hbm.ce _ hq).trans HB2.o
   have hCB := Z8s wm.drew (jB (HM.o.rd k _ _ HVS.o HXP.o)) (jB (jA HST.o hbm)) HGA.o.1 HGA.o.2
   have HCB := L0 hCB
   have hgm := HM.o.grl
   have hnq : ¬ gr = q := by omega
   have hqm : q < wm.drew.heap.size := L0c hq hbm.size
   have hgm2 : gr < wm.drew.heap.size := hgm.2
   clear hCB mrow
   go_region_with (go_at_call 144; ((with_reducible refine HCB.o.mono ?_); rintro e w8 ⟨z8, rfl, how8, hb8⟩; obtain ⟨A8, c8, rfl⟩ := how8.value; have n2 := (hb8.ce (off' + k) hqm).trans m2; have n1 := (hb8.ce k hgm2).trans m1; have nf : w8.frozen? (zn gr k) = false := (hb8.fr k hgm2).trans (mf k)))
   all_goals
    have hb8' : Bw wm w8 := (Z0h (L0m _ _) 1).trans hb8
    have HS8 := L0 (HM.o.step hlt hb8' (show (rSl rRg).rel w8 (Up (fun _ => False) wm.heap.size) [_] (Z09 s t) from how8.rel (by decide)))
    have hgs : (w8.setCell (zn gr k) (.slice A8 (Z09 s t).length c8)).cell? (zn gr k) = some (.slice A8 (Z09 s t).length c8) := L0e _ _ _ n1
    clear n1 n2 nf m1 m2 mf how8 hb8 hb8'
    generalize hw9 : w8.setCell (zn gr k) (.slice A8 (Z09 s t).length c8) = w9 at *
    clear hw9
    by_cases hz2 : (Z09 s t).length = 0
    ·have HR := L0 (show Z4f a b = outm by have := HS8.o.res; rw [if_pos hz2, L2z] at this; exact this)
     generalize Z09 s t = bs at *
     go_wp2
     go_ret
     exact ⟨_, rfl, by rw [HR.o]; exact ⟨_, HS8.o.own, fun b hb => (HS8.o.lt b hb).2⟩, HS8.o.below⟩
    have HR := L0 (HS8.o.again (if_neg hz2))
    have hz3 : ((Z09 s t).length == 0) = false := by simpa using hz2
    generalize Z09 s t = bs at *
    go_wp2
    go_roundw
    exact ⟨k + 1, _, _, _, _, by omega, by go_num, HR⟩
    simp [intOf]; omega
  have HM2 : Hid (Z2c pre (a.drop k) (b.drop k) = (pre ++ Z5g s t :: a.drop (k + 1)) :: (if (Z09 s t).length = 0 then [] else Z2c (pre ++ [Z09 s t]) (a.drop (k + 1)) (b.drop (k + 1)))) := L0 (by rw [HRS.o, if_neg hz]; rfl)
  have hzp : 0 < (Z5g s t).length := by omega
  have HIO := L0 HI.o.own
  have HOL : Hid ((out.length + 1) * rBx.bytes <= 140737488355328) := L0 (by have := HI.o.ho; show (out.length + 1) * 24 <= _; omega)
  have HNB : Hid (∀ {n gx N : Nat}, wr.heap.size <= n -> n <= gx -> ∀ x, ((S1 x \/ (wr.heap.size <= x /\ x < n)) \/ x = gx) -> x < N -> (u5 : Value).ownBlock ≠ some x) := L0 fun hn hg x hx _ e => by
   have h9 := (HI.o.own.lt x e).2
   rcases hx with (h | h) | h
   ·obtain ⟨_, _, h2, _⟩ := HI.o.own; exact h2 x e h
   ·omega
   omega
  have HN2 : Hid (∀ {n gx : Nat}, wr.heap.size <= n -> n <= gx -> ∀ x, ((S1 x \/ (wr.heap.size <= x /\ x < n)) \/ x = gx) -> x ≠ gr /\ (S1 x \/ wr.heap.size <= x)) := L0 fun hn hg x hx => by
   have := HI.o.grl.2
   rcases hx with (h | h) | h
   ·exact ⟨fun e => HI.o.ngr (e ▸ h), .inl h⟩
   ·exact ⟨by omega, .inr h.1⟩
   exact ⟨by omega, .inr (by omega)⟩
  have HCC : Hid (∀ w4, Bw wr w4 -> Calls Tryz.prog 165 #[.slice (some (zn gr 0)) a.length cz] w4 fun e w5 => ∃ gx cx, e = .returned (.slice (some (zn gx 0)) a.length cx) /\ Own (rRaw 1 24) 70 w5 w4.heap.size (fun _ => False) (.slice (some (zn gx 0)) a.length cx) raws /\ Bw w4 w5 /\ w4.heap.size <= gx /\ gx < w5.heap.size) :=
   L0 fun w4 hb => by
    obtain ⟨_, hE9⟩ := (HI.o.row.below hb).elems (by decide) rfl
    rw [<- HI.o.hn]
    refine (Y0q w4 hE9 (by have := HI.o.hn; omega)).mono fun e w5 ⟨z, h1, h2, h3⟩ => ?_
    rcases h2.form with ⟨_, h⟩ | ⟨g, cap, h, h4, h5⟩
    ·have := HI.o.hn; rw [h] at this; simp at this; omega
    subst h; exact ⟨g, cap, h1, h2, h3, h4, h5⟩
  clear hz
  generalize hls : Z5g s t = ls at *
  clear hls
  go_wp2_with (first | (go_at_call 142; ((with_reducible refine HCLs.o.mono ?_); rintro e w4 ⟨z4, rfl, how4, hb4⟩; obtain ⟨A4, c4, rfl⟩ := how4.value; have hb4r := HWD.o.trans (by rw [<- HSZ.o]; exact hb4))) | (go_at_call 165; ((with_reducible refine (HCC.o _ hb4r).mono ?_); rintro e w5 ⟨gx, cx, rfl, hox, hb5, hgx1, hgx2⟩; have fx := hox.free rfl k; have x1 := X1k hox HVS.o; obtain ⟨w6, e6, hb6, hrx⟩ : ∃ w6, w5.setCell (zn gx k) (.slice A4 ls.length c4) = w6 /\ Bw wr w6 /\ rBx.rel w6 (fun x => (S1 x \/ (wr.heap.size <= x /\ x < w4.heap.size)) \/ x = gx) [.slice (some (zn gx 0)) a.length cx] (pre ++ ls :: a.drop (k + 1)) := ⟨_, rfl, HI.o.box hlt HX.o hb4r (show (rSl rRg).rel w4 (Up (fun _ => False) wr.heap.size) [_] ls from by rw [<- HSZ.o]; exact how4.rel (by decide)) hox hb5 hgx1⟩; have hown6 := HIO.o.below hb6)) | (at_builtin; refine Z1t (R := rBx) (x := pre ++ ls :: a.drop (k + 1)) Y3i rfl (.tmp 47) (.tmp 49) rfl rfl hown6 [_] rfl rfl (fun x => (S1 x \/ (wr.heap.size <= x /\ x < w4.heap.size)) \/ x = gx) hrx (HNB.o hb4r.size hgx1) HOL.o (L0h HI.o.below.size hb6.size) ?_; intro o7 w7 hown7 hg7 ho7))
  obtain ⟨wm, rfl, om, rfl, outm, S1m, HM⟩ : ∃ wm, wm = w7 /\ ∃ om, om = o7 /\ ∃ (outm : List Bx) (S1m : Nat -> Prop), Hid (LessI w S a b gr cz k (k + 1) wm om pre outm raws S1m (if (Z09 s t).length = 0 then [] else Z2c (pre ++ [Z09 s t]) (a.drop (k + 1)) (b.drop (k + 1)))) :=
   ⟨_, rfl, _, rfl, _, _, L0 (HI.o.push hb6 hown7 hg7 ho7 (HN2.o hb4r.size hgx1) HM2.o)⟩
  have hbm := HM.o.below
  have mrow := HM.o.row
  have mf := mrow.free rfl
  have m1 : wm.cell? (zn gr k) = some (.slice Av s.length cv) := by
   obtain ⟨_, hE9⟩ := mrow.elems (by decide) rfl
   obtain ⟨b9, o9, es, hA9, _, _, ⟨he, _, _⟩, hc⟩ := hE9 k _ HVS.o
   obtain ⟨rfl, rfl⟩ : gr = b9 /\ 0 = o9 := by simpa using hA9
   subst he
   have := hc 0 _ rfl
   have e : 0 + k * (rRaw 1 24).k + 0 = k := by show 0 + k * 1 + 0 = k; omega
   rwa [e] at this
  have m2 : wm.cell? (zn q (off' + k)) = some (.slice At t.length ct) := (hbm.ce _ hq).trans HB2.o
  have hCB := Z8s wm.drew (jB (HM.o.rd k _ _ HVS.o HXP.o)) (jB (jA HST.o hbm)) HGA.o.1 HGA.o.2
  have HCB := L0 hCB
  have hgm := HM.o.grl
  have hnq : ¬ gr = q := by omega
  have hqm : q < wm.drew.heap.size := L0c hq hbm.size
  have hgm2 : gr < wm.drew.heap.size := hgm.2
  clear hCB mrow
  go_region_with (go_at_call 144; ((with_reducible refine HCB.o.mono ?_); rintro e w8 ⟨z8, rfl, how8, hb8⟩; obtain ⟨A8, c8, rfl⟩ := how8.value; have n2 := (hb8.ce (off' + k) hqm).trans m2; have n1 := (hb8.ce k hgm2).trans m1; have nf : w8.frozen? (zn gr k) = false := (hb8.fr k hgm2).trans (mf k)))
  all_goals
   have hb8' : Bw wm w8 := (Z0h (L0m _ _) 1).trans hb8
   have HS8 := L0 (HM.o.step hlt hb8' (show (rSl rRg).rel w8 (Up (fun _ => False) wm.heap.size) [_] (Z09 s t) from how8.rel (by decide)))
   have hgs : (w8.setCell (zn gr k) (.slice A8 (Z09 s t).length c8)).cell? (zn gr k) = some (.slice A8 (Z09 s t).length c8) := L0e _ _ _ n1
   clear n1 n2 nf m1 m2 mf how8 hb8 hb8'
   generalize hw9 : w8.setCell (zn gr k) (.slice A8 (Z09 s t).length c8) = w9 at *
   clear hw9
   by_cases hz2 : (Z09 s t).length = 0
   ·have HR := L0 (show Z4f a b = outm by have := HS8.o.res; rw [if_pos hz2, L2z] at this; exact this)
    generalize Z09 s t = bs at *
    go_wp2
    go_ret
    exact ⟨_, rfl, by rw [HR.o]; exact ⟨_, HS8.o.own, fun b hb => (HS8.o.lt b hb).2⟩, HS8.o.below⟩
   have HR := L0 (HS8.o.again (if_neg hz2))
   have hz3 : ((Z09 s t).length == 0) = false := by simpa using hz2
   generalize Z09 s t = bs at *
   go_wp2
   go_roundw
   exact ⟨k + 1, _, _, _, _, by omega, by go_num, HR⟩
   simp [intOf]; omega
 have hke : k = a.length := by omega
 have HR := L0 (show Z4f a b = out by
  have := HI.o.res
  rw [L0u (by omega), Z2c] at this
  ·rw [L2z] at this; exact this
  intro _ _ _ _ h _; cases h)
 go_wp2
 go_ret
 exact ⟨_, rfl, by rw [HR.o]; exact ⟨_, HI.o.own, fun b hb => (HI.o.lt b hb).2⟩, HI.o.below⟩
end Go.Proofs.YtlopccnehgolnacGreatDoor
namespace Go.Proofs.YtlopccnehgolnacGreatDoor
open Go.RowKit Rb
open Bool renaming and_false -> jA
open List renaming take_length -> jB
open Option renaming map_map -> jC
open Rd renaming below -> jD
set_option maxRecDepth 100000
set_option maxHeartbeats 1600000
def Z2r (n : Nat) (out : List Bx) (b : Bx) : List Bx := if Z06 b (n : Int) then out.flatMap (Z4f · b) else out
def Y2h (a : Bx) (l : List Bx) : List Bx := if Z06 a (a.length : Int) then l.foldl (Z2r a.length) [a] else []
theorem Y01 : ∀ (a b pre : Bx), (Z2c pre a b).length <= a.length
 | s :: a, t :: b, pre => by
  rw [Z2c, L0i]
  have := Y01 a b (pre ++ [Z09 s t])
  split <;> split <;> simp <;> omega
 | [], [], _ => by simp [Z2c]
 | [], _ :: _, _ => by simp [Z2c]
 | _ :: _, [], _ => by simp [Z2c]
theorem Y84 (a b : Bx) : (Z4f a b).length <= 3 := by
 unfold Z4f
 split
 ·rename_i h
  simp only [L0t] at h
  have := (goodBx_iff.1 h.1).2.2
  have := Y01 a b []
  omega
 simp
theorem Z5i {S : Nat -> Prop} {v : Value} {b : Bx} {n : Int} {r : Bool} (w : World) (hl : rBx.rel w S [v] b) (h : Z06 b n = r) :
  Calls Tryz.prog 118 #[v, .int .i64 n] w fun e w' => e = .returned (.bool r) /\ Bw w w' := h ▸ Z3m n w hl
theorem X0f {S T : Nat -> Prop} {v u : Value} {a b : Bx} {L : List Bx} (w : World) (hl : rBx.rel w S [v] a) (hm : rBx.rel w T [u] b) (h : Z4f a b = L) :
  Calls Tryz.prog 147 #[v, u] w fun e w' => ∃ z, e = .returned z /\ Own rBx 163 w' w.heap.size S z L /\ Bw w w' := h ▸ Y7v w hl hm
theorem Z8r {S T : Nat -> Prop} {v u : Value} {a b o : Bx} {r : Bool} (w : World) (hl : rBx.rel w S [v] a) (hm : rBx.rel w T [u] b) (h1 : Z1i (Z13 a b) = r) (h2 : Z3a (Z13 a b) = o) :
  Calls Tryz.prog 120 #[v, u] w fun e w' => ∃ z, e = .returned (.tuple #[z, .bool r]) /\ Own (rSl rRg) 70 w' w.heap.size (fun _ => False) z o /\ Bw w w' := h1 ▸ h2 ▸ Y7u w hl hm
def Z3e (c : Cl) (s : List Rg) : List Rg := if c.no then Z5g s (Z3x c.rs) else if 0 < c.rs.length then Z09 s (Z3x c.rs) else s
def Z5k : List Cl -> Bx -> Option Bx
 | c :: cs, s :: all => if (Z3e c s).length = 0 then none else (Z5k cs all).map (Z3e c s :: ·)
 | _, _ => some []
def Z1q (r : Rl) (all : Bx) : Option Bx := if decide (r.cells.length = all.length) && Z06 all (all.length : Int) then Z5k r.cells all else none
def X23 (r : Rl) (all : Bx) : Prop := r.cells.length = all.length
theorem Y8i {cs : List Cl} {all : Bx} {k : Nat} {c : Cl} {s : List Rg} (hc : cs[k]? = some c) (hs : all[k]? = some s) :
  Z5k (cs.drop k) (all.drop k) = if (Z3e c s).length = 0 then none else (Z5k (cs.drop (k + 1)) (all.drop (k + 1))).map (Z3e c s :: ·) := by
 rw [Z0p hc, Z0p hs]; rfl
theorem Y1p {S : Nat -> Prop} {v : Value} {l L : List Rg} (w : World) (hl : (rSl rRg).rel w S [v] l) (h : Z3x l = L) :
  Calls Tryz.prog 143 #[v] w fun e w' => ∃ u, e = .returned u /\ Own rRg 74 w' w.heap.size S u L /\ Bw w w' := h ▸ Z8u w hl
theorem Y7x {S T : Nat -> Prop} {v u : Value} {a b L : List Rg} (w : World) (hl : (rSl rRg).rel w S [v] a) (hm : (rSl rRg).rel w T [u] b) (ga : Z2w a) (gb : Z2w b) (h : Z09 a b = L) :
  Calls Tryz.prog 144 #[v, u] w fun e w' => ∃ x, e = .returned x /\ Own rRg 74 w' w.heap.size (fun _ => False) x L /\ Bw w w' := h ▸ Z8s w hl hm ga gb
theorem Y78 {S T : Nat -> Prop} {v u : Value} {a b L : List Rg} (w : World) (hl : (rSl rRg).rel w S [v] a) (hm : (rSl rRg).rel w T [u] b) (ga : Z2w a) (gb : Z2w b) (h : Z5g a b = L) :
  Calls Tryz.prog 142 #[v, u] w fun e w' => ∃ x, e = .returned x /\ Own rRg 74 w' w.heap.size (fun _ => False) x L /\ Bw w w' := h ▸ Y5v w hl hm ga gb
theorem X0d {S T : Nat -> Prop} {v u : Value} {r : Rl} {all : Bx} (w : World) (hl : (rSl rCl).rel w S [v] r.cells) (hm : rBx.rel w T [u] all) :
  Calls Tryz.prog 119 #[.agg #[v, .int .i64 r.out], u] w fun e w' => ∃ z, e = .returned (.tuple #[z, .bool (Z1i (Z1q r all))]) /\ Own (rSl rRg) 70 w' w.heap.size T z (Z3a (Z1q r all)) /\ Bw w w' := by
 have hal := rSl.lenle hm (by decide)
 obtain ⟨A, c, rfl, _, _, hbA, hE⟩ := rSl.elems hl
 obtain ⟨B, d, rfl, _, _, _, hF⟩ := rSl.elems hm
 have hcl : r.cells.length <= 4398046511104 := by simp only [rCl] at hbA; omega
 obtain ⟨W0, e0, hB0, hB0s⟩ : ∃ W0, w.alloc (.cells #[.slice A r.cells.length c, .int .i64 r.out] 69) = W0 /\ Bw w W0 /\ w.heap.size < W0.heap.size := ⟨_, rfl, (L0m _ _).alloc (L0g _) _, by simp⟩; have c0 := ac0 e0
 have HG := L0 (Z3m (all.length : Int) W0 (jD hm hB0))
 clear hl hm hbA
 by_cases hlen : r.cells.length = all.length
 case neg =>
  have hn : ((r.cells.length : Int) == (all.length : Int)) = false := by rw [beq_eq_false_iff_ne]; omega
  have HF : Hid (Z1q r all = none) := L0 (by unfold Z1q; rw [decide_eq_false hlen]; rfl)
  go_enter Tryz.func119, Tryz.ntmps119
  go_wp2
  go_ret2
  exact ⟨_, by rw [HF.o]; rfl, by rw [HF.o]; exact Own.nil _ _ _ _ _, hB0⟩
 have HLEN : X23 r all := hlen
 have HLB : Hid (Z1q r all = if Z06 all (all.length : Int) then (Z5k (r.cells.drop 0) (all.drop 0)).map ([] ++ ·) else none) := L0 (by unfold Z1q; rw [decide_eq_true hlen]; simp)
 generalize r.cells.length = m at *
 subst hlen
 cases hg : Z06 all (all.length : Int)
 ·rw [hg] at HG
  have HF : Hid (Z1q r all = none) := L0 (by rw [HLB.o, hg]; rfl)
  clear hg
  go_enter Tryz.func119, Tryz.ntmps119
  go_wp2_with (go_at_call 118; ((with_reducible refine HG.o.mono ?_); rintro e w1 ⟨rfl, hb1⟩))
  go_ret2
  exact ⟨_, by rw [HF.o]; rfl, by rw [HF.o]; exact Own.nil _ _ _ _ _, hB0.trans (hb1.mono hB0.size)⟩
 rw [hg] at HG
 have HAR : Hid (Z1q r all = (Z5k (r.cells.drop 0) (all.drop 0)).map ([] ++ ·)) := L0 (by rw [HLB.o, hg]; rfl)
 have HGS := L0 (goodBx_iff.1 hg).1
 have ha3 := (goodBx_iff.1 hg).2.2
 clear hg HLB
 go_enter Tryz.func119, Tryz.ntmps119
 go_wp2_with (go_at_call 118; ((with_reducible refine HG.o.mono ?_); rintro e w1 ⟨rfl, hb1⟩; have hc1 := (hb1.ce 0 hB0s).trans c0))
 have hbw := hB0.trans (hb1.mono hB0.size)
 clear e0 c0 hb1 hc1
 go_loopw [6, 26] (fun o i wr => ∃ (k : Nat) (pre : Bx), k <= all.length /\ i = .int .i64 k /\ Own (rSl rRg) 70 wr w.heap.size T o pre /\ pre.length = k /\ Hid (Z1q r all = (Z5k (r.cells.drop k) (all.drop k)).map (pre ++ ·)) /\ Bw w wr) (fun _ i _ => all.length - (intOf i).toNat)
 exact ⟨0, [], L0o _, rfl, Own.nil _ _ _ _ _, rfl, HAR, hbw⟩
 clear HG HAR hbw
 obtain ⟨k, pre, hk, rfl, hown, hpl, HI, hb⟩ := hrel
 by_cases hlt : k < all.length
 ·obtain ⟨bA, off, cl, q, rfl, _, hbA, hx, hq, g1, g2⟩ := hE.cl (show k < r.cells.length by rw [HLEN]; exact hlt)
  obtain ⟨bB, off', v', s, rfl, _, hbB, hx', hs', g3⟩ := hF.sl hlt
  rw [<- hb.ce _ hbA] at g1 g2
  rw [<- hb.ce _ hbB] at g3
  have hgs := (HGS.o s (L0z hx')).2
  have HAT := L0 (Y8i hx hx')
  have hik : (k : Int) < all.length := by omega
  obtain ⟨no, rs⟩ := cl
  dsimp only at g1 g2 hq
  obtain ⟨W1, e1, hown1, hb1, hq1, hs1, c0, c1, g31, hs1z⟩ : ∃ W1, wr.alloc (.cells #[.bool no, q] 72) = W1 /\ Own (rSl rRg) 70 W1 w.heap.size T u6 pre /\ Bw w W1 /\ (rSl rRg).rel W1 S [q] rs /\ (rSl rRg).rel W1 (fun b => T b /\ b < w.heap.size) [v'] s /\
    W1.cell? (zn wr.heap.size 0) = some (.bool no) /\ W1.cell? (zn wr.heap.size 1) = some q /\ W1.cell? (zn bB (off' + k)) = some v' /\ wr.heap.size < W1.heap.size :=
   ⟨_, rfl, hown.alloc _, hb.alloc hb.size _, jD hq (hb.alloc hb.size _), jD ((rSl rRg).mono hs' fun b h h' => ⟨h, h'⟩) (hb.alloc hb.size _), L0b _ _ _ _, L0b _ _ _ _, (L0j _ _ _ (L0c hbB hb.size)).trans g3, by simp⟩
  clear hown hq hs' hx hx' hE hF g3
  obtain ⟨A2, c2, rfl, _⟩ := rSl.elems hq1
  obtain ⟨A3, c3, rfl, _⟩ := rSl.elems hs1
  have hbase := hb1.size
  have hlt6 := L0 hown1.lt
  have HUP : Hid (∀ w4, Bw W1 w4 -> ∀ b, Up (fun _ => False) w4.heap.size b -> Up T w.heap.size b /\ u6.ownBlock ≠ some b) := L0 (by
   rintro w4 h4 b (h | h)
   ·exact h.elim
   exact ⟨.inr (L0h hbase (L0h h4.size h)), fun e => by have := hlt6.out _ e; have := h4.size; omega⟩)
  have HUP3 : Hid (∀ b, T b /\ b < w.heap.size -> Up T w.heap.size b /\ u6.ownBlock ≠ some b) := L0 fun b h => ⟨.inl h.1, fun e => by have := hlt6.out _ e; omega⟩
  have HBY : Hid ((pre.length + 1) * (rSl rRg).bytes <= 140737488355328) := L0 (by rw [hpl]; show (_ + _) * 24 <= _; omega)
  cases no
  ·by_cases hr0 : rs.length = 0
   ·have hca : Z3e ⟨false, rs⟩ s = s := by unfold Z3e; rw [if_neg (by simp), if_neg (by simp [hr0])]
    have HCA := L0 hca
    clear hca hq1
    generalize rs.length = m0 at *
    subst hr0
    by_cases hz : s.length = 0
    ·have HF : Hid (Z1q r all = none) := L0 (by rw [HI.o, HAT.o, HCA.o, if_pos hz]; rfl)
     go_wp2
     go_ret2
     exact ⟨_, by rw [HF.o]; rfl, by rw [HF.o]; exact Own.nil _ _ _ _ _, hb1.trans ((L0m _ _).mono hb1.size)⟩
    have HF : Hid (Z1q r all = (Z5k (r.cells.drop (k + 1)) (all.drop (k + 1))).map ((pre ++ [s]) ++ ·)) := L0 (by rw [HI.o, HAT.o, HCA.o, if_neg hz]; simp [jC, Function.comp_def])
    have hz2 : ((s.length : Int) == 0) = false := by rw [beq_eq_false_iff_ne]; omega
    go_wp2_with (at_builtin; refine Z0a (R := rSl rRg) (x := s) Y3j rfl (.tmp 56) (.tmp 58) rfl rfl (hown1) [.slice A3 s.length c3] rfl rfl (fun b => T b /\ b < w.heap.size) (hs1) (fun b h _ => HUP3.o b h) HBY.o (L0h hbase (L0m W1.heap.size W1).size) ?_; intro v9 w9 hown9 hb9 _ _)
    go_roundw
    exact ⟨k + 1, pre ++ [s], by omega, by go_num, hown9, by simp [hpl], HF, (hb1.trans ((L0m _ _).mono hb1.size)).trans hb9⟩
    simp [intOf]; omega
   have hr1 : (0 : Int) < rs.length := by omega
   have hca : Z3e ⟨false, rs⟩ s = Z09 s (Z3x rs) := by unfold Z3e; rw [if_neg (by simp), if_pos (by show 0 < rs.length; omega)]
   generalize hnr : Z3x rs = nr at *
   have HNR := L0 hnr
   have HNG : Hid (Z2w nr) := L0 (hnr ▸ (Z4o rs).1)
   clear hnr
   generalize hcs : Z09 s nr = cs at *
   have HCS := L0 hcs
   have HCA := L0 hca
   have hcl2 : cs.length <= 2000002 := hcs ▸ Z2a (Z7s s nr).1
   clear hcs hca
   by_cases hz : cs.length = 0
   ·have HF : Hid (Z1q r all = none) := L0 (by rw [HI.o, HAT.o, HCA.o, if_pos hz]; rfl)
    go_wp2_with (first | (go_at_call 143; (with_reducible refine (Y1p W1 hq1 HNR.o).mono ?_); rintro e w4 ⟨z4, rfl, how4, hb4⟩; obtain ⟨A4, c4, rfl⟩ := how4.value; have hr4 := how4.rel (by decide); have hs4 := jD hs1 hb4) | (go_at_call 144; (with_reducible refine (Y7x w4 hs4 hr4 hgs HNG.o HCS.o).mono ?_); rintro e w5 ⟨z5, rfl, how5, hb5⟩; obtain ⟨A5, c5, rfl⟩ := how5.value))
    go_ret2
    exact ⟨_, by rw [HF.o]; rfl, by rw [HF.o]; exact Own.nil _ _ _ _ _, hb1.trans ((hb4.trans (hb5.mono hb4.size)).mono hb1.size)⟩
   have HF : Hid (Z1q r all = (Z5k (r.cells.drop (k + 1)) (all.drop (k + 1))).map ((pre ++ [cs]) ++ ·)) := L0 (by rw [HI.o, HAT.o, HCA.o, if_neg hz]; simp [jC, Function.comp_def])
   have hz2 : ((cs.length : Int) == 0) = false := by rw [beq_eq_false_iff_ne]; omega
   go_wp2_with (first | (go_at_call 143; (with_reducible refine (Y1p W1 hq1 HNR.o).mono ?_); rintro e w4 ⟨z4, rfl, how4, hb4⟩; obtain ⟨A4, c4, rfl⟩ := how4.value; have hr4 := how4.rel (by decide); have hs4 := jD hs1 hb4) | (go_at_call 144; (with_reducible refine (Y7x w4 hs4 hr4 hgs HNG.o HCS.o).mono ?_); rintro e w5 ⟨z5, rfl, how5, hb5⟩; obtain ⟨A5, c5, rfl⟩ := how5.value) | (at_builtin; refine Z0a (R := rSl rRg) (x := cs) Y3j rfl (.tmp 56) (.tmp 58) rfl rfl ((hown1.below hb4).below hb5) [.slice A5 cs.length c5] rfl rfl (Up (fun _ => False) w4.heap.size) (how5.rel (by decide)) (fun b h _ => HUP.o w4 hb4 b h) HBY.o (L0h hbase (hb4.trans (hb5.mono hb4.size)).size) ?_; intro v9 w9 hown9 hb9 _ _))
   go_roundw
   exact ⟨k + 1, pre ++ [cs], by omega, by go_num, hown9, by simp [hpl], HF, (hb1.trans ((hb4.trans (hb5.mono hb4.size)).mono hb1.size)).trans hb9⟩
   simp [intOf]; omega
  have hca : Z3e ⟨true, rs⟩ s = Z5g s (Z3x rs) := rfl
  generalize hnr : Z3x rs = nr at *
  have HNR := L0 hnr
  have HNG : Hid (Z2w nr) := L0 (hnr ▸ (Z4o rs).1)
  clear hnr
  generalize hcs : Z5g s nr = cs at *
  have HCS := L0 hcs
  have HCA := L0 hca
  have hcl2 : cs.length <= 2000002 := hcs ▸ Z2a (Z7z s nr).1
  clear hcs hca
  by_cases hz : cs.length = 0
  ·have HF : Hid (Z1q r all = none) := L0 (by rw [HI.o, HAT.o, HCA.o, if_pos hz]; rfl)
   go_wp2_with (first | (go_at_call 143; (with_reducible refine (Y1p W1 hq1 HNR.o).mono ?_); rintro e w4 ⟨z4, rfl, how4, hb4⟩; obtain ⟨A4, c4, rfl⟩ := how4.value; have hr4 := how4.rel (by decide); have hs4 := jD hs1 hb4) | (go_at_call 142; (with_reducible refine (Y78 w4 hs4 hr4 hgs HNG.o HCS.o).mono ?_); rintro e w5 ⟨z5, rfl, how5, hb5⟩; obtain ⟨A5, c5, rfl⟩ := how5.value))
   go_ret2
   exact ⟨_, by rw [HF.o]; rfl, by rw [HF.o]; exact Own.nil _ _ _ _ _, hb1.trans ((hb4.trans (hb5.mono hb4.size)).mono hb1.size)⟩
  have HF : Hid (Z1q r all = (Z5k (r.cells.drop (k + 1)) (all.drop (k + 1))).map ((pre ++ [cs]) ++ ·)) := L0 (by rw [HI.o, HAT.o, HCA.o, if_neg hz]; simp [jC, Function.comp_def])
  have hz2 : ((cs.length : Int) == 0) = false := by rw [beq_eq_false_iff_ne]; omega
  go_wp2_with (first | (go_at_call 143; (with_reducible refine (Y1p W1 hq1 HNR.o).mono ?_); rintro e w4 ⟨z4, rfl, how4, hb4⟩; obtain ⟨A4, c4, rfl⟩ := how4.value; have hr4 := how4.rel (by decide); have hs4 := jD hs1 hb4) | (go_at_call 142; (with_reducible refine (Y78 w4 hs4 hr4 hgs HNG.o HCS.o).mono ?_); rintro e w5 ⟨z5, rfl, how5, hb5⟩; obtain ⟨A5, c5, rfl⟩ := how5.value) | (at_builtin; refine Z0a (R := rSl rRg) (x := cs) Y3j rfl (.tmp 56) (.tmp 58) rfl rfl ((hown1.below hb4).below hb5) [.slice A5 cs.length c5] rfl rfl (Up (fun _ => False) w4.heap.size) (how5.rel (by decide)) (fun b h _ => HUP.o w4 hb4 b h) HBY.o (L0h hbase (hb4.trans (hb5.mono hb4.size)).size) ?_; intro v9 w9 hown9 hb9 _ _))
  go_roundw
  exact ⟨k + 1, pre ++ [cs], by omega, by go_num, hown9, by simp [hpl], HF, (hb1.trans ((hb4.trans (hb5.mono hb4.size)).mono hb1.size)).trans hb9⟩
  simp [intOf]; omega
 have hke : k = all.length := by omega
 have HF : Hid (Z1q r all = some pre) := L0 (by
  rw [HI.o, L0u (by rw [HLEN]; omega), L0u (by omega)]; simp [Z5k])
 obtain ⟨A9, c9, rfl⟩ := hown.value
 go_wp2
 go_ret2
 exact ⟨_, by rw [HF.o]; rfl, by rw [HF.o]; exact hown, hb⟩
def Z2l (pol : Int) (all : Bx) (r s : Rl) : List Bx :=
 if Z1i (Z1q r all) && Z1i (Z1q s all) && !(decide (pol = 2) && decide (r.out = s.out)) && Z1i (Z13 (Z3a (Z1q r all)) (Z3a (Z1q s all))) then [Z3a (Z13 (Z3a (Z1q r all)) (Z3a (Z1q s all)))] else []
def Z2m (pol : Int) (all : Bx) (r : Rl) (l : List Rl) : List Bx := l.flatMap (Z2l pol all r)
def Z5n (t : Tb) (all : Bx) (k : Nat) : List Bx := (List.range k).flatMap fun i => match t.rules[i]? with | some r => Z2m t.pol all r (t.rules.take i) | none => []
def Z2k (t : Tb) (all : Bx) : List Bx := if Z0s t && Z06 all (t.ins.length : Int) && decide (t.pol <= 2) then Z5n t all t.rules.length else []
theorem Y3c {t : Tb} {all : Bx} {k : Nat} {r : Rl} (h : t.rules[k]? = some r) : Z5n t all (k + 1) = Z5n t all k ++ Z2m t.pol all r (t.rules.take k) := by
 unfold Z5n
 rw [List.range_succ, L4r]
 simp [h]
theorem Y10 {pol : Int} {all : Bx} {r s : Rl} {l : List Rl} {j : Nat} (h : l[j]? = some s) : Z2m pol all r (l.take (j + 1)) = Z2m pol all r (l.take j) ++ Z2l pol all r s := by
 unfold Z2m
 rw [Z0c h, L4r]
 simp
theorem Y1z {pol : Int} {all : Bx} {r : Rl} {l : List Rl} (h : Z1i (Z1q r all) = false) : Z2m pol all r l = [] := by
 unfold Z2m
 rw [List.flatMap_eq_nil_iff]
 intro s _
 unfold Z2l
 rw [h]; rfl
theorem Z30 {pol : Int} {all : Bx} {r s : Rl} {a b x : Bx} {f : Bool} (ha : Z1q r all = some a) (hb : Z1q s all = some b) (hc : pol ≠ 2 \/ r.out ≠ s.out) (hf : Z1i (Z13 a b) = f) (hx : Z3a (Z13 a b) = x) : Z2l pol all r s = if f then [x] else [] := by
 subst hf; subst hx
 have h : (decide (pol = 2) && decide (r.out = s.out)) = false := by
  rw [Bool.and_eq_false_iff, decide_eq_false_iff_not, decide_eq_false_iff_not]; exact hc
 have e : Z3a (some a) = a /\ Z3a (some b) = b := ⟨rfl, rfl⟩
 unfold Z2l
 rw [ha, hb, h, e.1, e.2]
 simp only [show Z1i (some a) = true from rfl, show Z1i (some b) = true from rfl, Bool.true_and, Bool.not_false]
theorem Z01 {α : Type} {S : Nat -> Prop} (R : Rd α) (w : World) : (rSl R).rel w S [nl] [] := ⟨none, 0, rfl, L0g _, by decide, by simp, fun i x hx => by simp at hx⟩
def S9 (m n8 n4 : Nat) : Nat -> Prop := fun b => b < m \/ (n8 < b /\ b < n4)
structure ClI (W0 : World) (n8 n4 : Nat) (rout : Int) (z9 : Value) (a : Bx) (wr : World) (o : Value) (out : List Bx) : Prop where
 own : Own rBx 163 wr W0.heap.size (fun _ => False) o out
 blk : ∀ b, o.ownBlock = some b -> b < n8 \/ n4 <= b
 below : Bw W0 wr
 c1 : wr.cell? (zn n8 1) = some (.int .i64 rout)
 ra : rBx.rel wr (S9 W0.heap.size n8 n4) [z9] a
 sz : n4 <= wr.heap.size
 base : W0.heap.size <= n8
 n84 : n8 < n4
theorem ClI.keepB {W0 : World} {n8 n4 : Nat} {rout : Int} {z9 : Value} {a : Bx} {wr w' : World} {o : Value} {out : List Bx} (I : ClI W0 n8 n4 rout z9 a wr o out) (hb : Bw wr w') : ClI W0 n8 n4 rout z9 a w' o out where
 own := I.own.below hb
 blk := I.blk
 below := I.below.trans (hb.mono I.below.size)
 c1 := (hb.ce 1 (L0c I.n84 I.sz)).trans I.c1
 ra := jD I.ra hb
 sz := L0h I.sz hb.size
 base := I.base
 n84 := I.n84
theorem ClI.push {W0 : World} {n8 n4 : Nat} {rout : Int} {z9 : Value} {a : Bx} {wr w9 : World} {o o9 : Value} {out : List Bx} {x : Bx} (I : ClI W0 n8 n4 rout z9 a wr o out) (hown : Own rBx 163 w9 W0.heap.size (fun _ => False) o9 (out ++ [x]))
  (hb : Below W0.heap.size wr w9) (hg : wr.grownBy w9 o.ownBlock) (hv : o9.ownBlock = o.ownBlock \/ o9.ownBlock = some (wr.heap.size + 1)) : ClI W0 n8 n4 rout z9 a w9 o9 (out ++ [x]) where
 own := hown
 blk := fun b h => by
  rcases hv with hv | hv
  ·exact I.blk b (hv ▸ h)
  rw [hv] at h; injection h with h; have := I.sz; right; omega
 below := I.below.trans hb
 c1 := (X4k hg (q := n8) (L0c I.n84 I.sz) (fun h => by have := I.blk _ h; have := I.n84; omega) 1).1.trans I.c1
 ra := rBx.keep I.ra (Keeps.grown hg fun g h hS => by
  have h1 := I.blk g h
  have h2 := (I.own.lt g h).1
  have h3 := I.base
  have h4 := I.n84
  rcases hS with hS | hS <;> omega)
 sz := L0h I.sz hg.size
 base := I.base
 n84 := I.n84
theorem Y7t {S T : Nat -> Prop} {v u : Value} {r : Rl} {all : Bx} {ar : Option Bx} (w : World) (hl : (rSl rCl).rel w S [v] r.cells) (hm : rBx.rel w T [u] all) (h : Z1q r all = ar) :
  Calls Tryz.prog 119 #[.agg #[v, .int .i64 r.out], u] w fun e w' => ∃ z, e = .returned (.tuple #[z, .bool (Z1i ar)]) /\ Own (rSl rRg) 70 w' w.heap.size T z (Z3a ar) /\ Bw w w' := h ▸ X0d w hl hm
theorem Z3l {S T : Nat -> Prop} {v u : Value} {r : Rl} {all : Bx} {a : Bx} (w : World) (hl : (rSl rCl).rel w S [v] r.cells) (hm : rBx.rel w T [u] all) (h : Z1q r all = some a) :
  Calls Tryz.prog 119 #[.agg #[v, .int .i64 r.out], u] w fun e w' => ∃ z, e = .returned (.tuple #[z, .bool true]) /\ Own (rSl rRg) 70 w' w.heap.size T z a /\ Bw w w' := Y7t w hl hm h
theorem Z84 {S T : Nat -> Prop} {v u : Value} {r : Rl} {all : Bx} (w : World) (hl : (rSl rCl).rel w S [v] r.cells) (hm : rBx.rel w T [u] all) (h : Z1q r all = none) :
  Calls Tryz.prog 119 #[.agg #[v, .int .i64 r.out], u] w fun e w' => ∃ z, e = .returned (.tuple #[z, .bool false]) /\ Bw w w' := (Y7t w hl hm h).mono fun _ _ ⟨z, h1, _, h3⟩ => ⟨z, h1, h3⟩
theorem Y7z {S T : Nat -> Prop} {cs : List Value} {t : Tb} {u : Value} {all : Bx} (w : World) (hl : rTb.rel w S cs t) (hm : rBx.rel w T [u] all) :
  Calls Tryz.prog 97 #[.agg cs.toArray, u] w fun e w' => ∃ z S', e = .returned (.tuple #[z, .bool (decide (0 < (Z2k t all).length))]) /\ (rSl rInt).rel w' (New w S') [z] (Z2b (Z2k t all)) /\ Bw w w' := by
 have hal := rSl.lenle hm (by decide)
 have HG := L0 fun o => Z6w (w.alloc o) (Rd.alloc hl o)
 obtain ⟨vi, vr, rfl, hnm, hp, hi, hr⟩ := hl
 obtain ⟨A, c, rfl, hi1, hi2, hi3, hE⟩ := rSl.elems hi
 obtain ⟨B, d, rfl, hr1, hr2, hr3, hF⟩ := rSl.elems hr
 obtain ⟨C, g, rfl, _⟩ := rSl.elems hm
 have HALL := L0 (show rBx.rel w (fun b => T b /\ b < w.heap.size) _ _ from rBx.mono hm fun b h h' => ⟨h, h'⟩)
 obtain ⟨W0, e0, hb0, c0, c1, c2, c3, c4, hs0⟩ : ∃ W0, w.alloc (.cells #[sq t.name, .int .i64 t.pol, .bool t.comp, .slice A t.ins.length c, .slice B t.rules.length d] 66) = W0 /\ Bw w W0 /\
   W0.cell? (zn w.heap.size 0) = some (sq t.name) /\ W0.cell? (zn w.heap.size 1) = some (.int .i64 t.pol) /\ W0.cell? (zn w.heap.size 2) = some (.bool t.comp) /\ W0.cell? (zn w.heap.size 3) = some (.slice A t.ins.length c) /\ W0.cell? (zn w.heap.size 4) = some (.slice B t.rules.length d) /\ w.heap.size < W0.heap.size :=
  ⟨_, rfl, (L0m _ _).alloc (L0g _) _, L0b _ _ _ _, L0b _ _ _ _, L0b _ _ _ _, L0b _ _ _ _, L0b _ _ _ _, by simp⟩
 have HG0 := L0 (by have := HG.o (.cells #[sq t.name, .int .i64 t.pol, .bool t.comp, .slice A t.ins.length c, .slice B t.rules.length d] 66); rw [e0] at this; exact this)
 clear hi hr hE hi3 hr3 hm HG
 cases hgt : Z0s t
 ·have HF : Hid (Z2k t all = []) := L0 (by unfold Z2k; rw [hgt]; rfl)
  rw [hgt] at HG0
  clear hgt
  go_enter Tryz.func97, Tryz.ntmps97
  go_wp2_with (go_at_call 79; refine HG0.o.mono ?_; rintro e w1 ⟨rfl, hb1⟩)
  go_ret2
  exact ⟨_, fun _ => True, by rw [HF.o]; rfl, by rw [HF.o]; exact Z01 _ _, hb0.trans (hb1.mono hb0.size)⟩
 rw [hgt] at HG0
 have hrl : t.rules.length <= 6 := (Z00 hgt).2.2.2.2.2
 cases hgb : Z06 all (t.ins.length : Int)
 ·have HF : Hid (Z2k t all = []) := L0 (by unfold Z2k; rw [hgb, jA]; rfl)
  have HGB := L0 hgb
  clear hgt hgb
  go_enter Tryz.func97, Tryz.ntmps97
  go_wp2_with (first | (go_at_call 79; refine HG0.o.mono ?_; rintro e w1 ⟨rfl, hb1⟩; have hbx := hb0.trans (hb1.mono hb0.size); have k3 := (hb1.ce 3 hs0).trans c3) | (go_at_call 118; ((with_reducible refine (Z5i _ (jD HALL.o hbx) HGB.o).mono ?_); rintro e w2 ⟨rfl, hb2⟩)))
  go_ret2
  exact ⟨_, fun _ => True, by rw [HF.o]; rfl, by rw [HF.o]; exact Z01 _ _, hbx.trans (hb2.mono hbx.size)⟩
 have HGB := L0 hgb
 by_cases hp2 : t.pol <= 2
 case neg =>
  have HF : Hid (Z2k t all = []) := L0 (by unfold Z2k; rw [decide_eq_false hp2, jA]; rfl)
  have hp3 : 2 < t.pol := by omega
  clear hgt hgb
  go_enter Tryz.func97, Tryz.ntmps97
  go_wp2_with (first | (go_at_call 79; refine HG0.o.mono ?_; rintro e w1 ⟨rfl, hb1⟩; have hbx := hb0.trans (hb1.mono hb0.size); have k3 := (hb1.ce 3 hs0).trans c3; have k1 := (hb1.ce 1 hs0).trans c1) | (go_at_call 118; ((with_reducible refine (Z5i _ (jD HALL.o hbx) HGB.o).mono ?_); rintro e w2 ⟨rfl, hb2⟩; have m1 := (hb2.ce 1 (L0c hs0 hb1.size)).trans k1)))
  go_ret2
  exact ⟨_, fun _ => True, by rw [HF.o]; rfl, by rw [HF.o]; exact Z01 _ _, hbx.trans (hb2.mono hbx.size)⟩
 have HF : Hid (Z2k t all = Z5n t all t.rules.length) := L0 (by unfold Z2k; rw [hgt, hgb, decide_eq_true hp2]; rfl)
 have hp3 : ¬ 2 < t.pol := by omega
 clear hgt hgb hp2
 go_enter Tryz.func97, Tryz.ntmps97
 go_wp2_with (first | (go_at_call 79; refine HG0.o.mono ?_; rintro e w1 ⟨rfl, hb1⟩; have hbx := hb0.trans (hb1.mono hb0.size); have k3 := (hb1.ce 3 hs0).trans c3; have k1 := (hb1.ce 1 hs0).trans c1; have k4 := (hb1.ce 4 hs0).trans c4) | (go_at_call 118; ((with_reducible refine (Z5i _ (jD HALL.o hbx) HGB.o).mono ?_); rintro e w2 ⟨rfl, hb2⟩; have m1 := (hb2.ce 1 (L0c hs0 hb1.size)).trans k1; have m4 := (hb2.ce 4 (L0c hs0 hb1.size)).trans k4)))
 have hbw := hb1.trans (hb2.mono hb1.size)
 clear hb1 hb2 hbx k1 k3 k4 m1 m4 e0
 go_loopw [6, 36] (fun o i wr => ∃ (k : Nat) (out : List Bx), k <= t.rules.length /\ i = .int .i64 k /\ Own rBx 163 wr W0.heap.size (fun _ => False) o out /\ Hid (out = Z5n t all k) /\ Hid (out.length <= 6 * k) /\ Bw W0 wr) (fun _ i _ => t.rules.length - (intOf i).toNat)
 exact ⟨0, [], L0o _, rfl, Own.nil _ _ _ _ _, L0 rfl, L0 (by simp), hbw⟩
 clear hbw HG0 HGB
 obtain ⟨k, out, hk, rfl, hown, HO, HOL, hb⟩ := hrel
 have m1 := (hb.ce 1 hs0).trans c1
 have m4 := (hb.ce 4 hs0).trans c4
 have hbw := hb0.trans (hb.mono (L2b hs0))
 by_cases hlt : k < t.rules.length
 ·obtain ⟨bA, off, r, q, rfl, _, hbA, hx, hri, hq, g1, g2⟩ := hF.rl hlt
  rw [<- hbw.ce _ hbA] at g1 g2
  have hik : (k : Int) < t.rules.length := by omega
  have HT := L0 (Y3c (all := all) hx)
  obtain ⟨A2, l2, rfl, _⟩ := rSl.elems hq
  have HQ := L0 hq
  obtain ⟨W1, e1, hown1, hb1, d0, d1, hs1⟩ : ∃ W1, wr.alloc (.cells #[.slice A2 r.cells.length l2, .int .i64 r.out] 69) = W1 /\ Own rBx 163 W1 W0.heap.size (fun _ => False) u6 out /\ Bw W0 W1 /\
    W1.cell? (zn wr.heap.size 0) = some (.slice A2 r.cells.length l2) /\ W1.cell? (zn wr.heap.size 1) = some (.int .i64 r.out) /\ W1.heap.size = wr.heap.size + 1 :=
   ⟨_, rfl, hown.alloc _, hb.alloc hb.size _, L0b _ _ _ _, L0b _ _ _ _, by simp⟩
  have HLT := L0 hown.lt
  have hbw1 := hb0.trans (hb1.mono (L2b hs0))
  clear hown hx hq
  have HQ1 := L0 (jD HQ.o hbw1)
  have HALL1 := L0 (jD HALL.o hbw1)
  generalize har : Z1q r all = ar at *
  have HAR := L0 har
  clear har
  cases ar with
  | none =>
   have HT' : Hid (Z5n t all (k + 1) = out) := L0 (by rw [HT.o, Y1z (by rw [HAR.o]; rfl), L2z, HO.o])
   go_wp2_with (go_at_call 119; (with_reducible refine (Z84 W1 HQ1.o HALL1.o HAR.o).mono ?_); rintro e w4 ⟨z9, rfl, hb4⟩)
   go_roundw
   exact ⟨k + 1, out, by omega, by go_num, hown1.below hb4, L0 HT'.o.symm, L0 (by have := HOL.o; omega), hb1.trans (hb4.mono hb1.size)⟩
   simp [intOf]; omega
  | some a =>
   have HUSE := L0 HLT.o
   have hwr := hb.size
   go_wp2_with (go_at_call 119; (with_reducible refine (Z3l W1 HQ1.o HALL1.o HAR.o).mono ?_); rintro e w4 ⟨z9, rfl, how4, hb4⟩; obtain ⟨A9, l9, rfl⟩ := how4.value; have n4 := ((hb1.trans (hb4.mono hb1.size)).ce 4 hs0).trans c4)
   have HI0 : Hid (ClI W0 wr.heap.size w4.heap.size r.out (.slice A9 a.length l9) a w4 u6 out) := L0 {
    own := hown1.below hb4
    blk := fun b h => .inl (HLT.o b h).2
    below := hb1.trans (hb4.mono hb1.size)
    c1 := (hb4.cell (p := (zn wr.heap.size 1)) (by show wr.heap.size < _; omega)).trans d1
    ra := rBx.mono (show rBx.rel w4 _ _ _ from how4.rel (by decide)) fun b h h' => by
     rcases h with h | h
     ·exact .inl (Nat.lt_trans h.2 hs0)
     exact .inr ⟨by omega, h'⟩
    sz := L0g _
    base := hwr
    n84 := by have := hb4.size; omega }
   clear hown1 how4 hb4 d0 d1 n4 hb hbw hb1 hbw1 HQ HQ1 HALL1 HLT HUSE g1 g2 m1 m4 hs1 e1 hwr
   try unfold Bw at *
   generalize wr.heap.size = n8 at *
   have hik3 : ¬ (k : Int) < 0 := by omega
   go_loopw [6, 54] (fun o i wi => ∃ (j : Nat) (out2 : List Bx), j <= k /\ i = .int .i64 j /\ Hid (ClI W0 n8 w4.heap.size r.out (.slice A9 a.length l9) a wi o out2) /\ Hid (out2 = out ++ Z2m t.pol all r (t.rules.take j)) /\ Hid (out2.length <= 6 * k + j)) (fun _ i _ => k - (intOf i).toNat)
   exact ⟨0, out, L0o _, rfl, HI0, L0 (by simp [Z2m]), HOL⟩
   clear HI0
   obtain ⟨j, out2, hj, rfl, HI, HO2, HOL2⟩ := hrel
   have hbi := HI.o.below
   have hbwi := hb0.trans (hbi.mono (L2b hs0))
   by_cases hlj : j < k
   ·obtain ⟨bA', off', s, q', h9, _, hbA', hx', hri', hq', g1', g2'⟩ := hF.rl (show j < t.rules.length by omega)
    obtain ⟨rfl, rfl⟩ : bA = bA' /\ off = off' := by simpa using h9
    rw [<- hbwi.ce _ hbA] at g1' g2'
    have hij : (j : Int) < k := by omega
    have HRS : Hid (out ++ Z2m t.pol all r (t.rules.take (j + 1)) = out ++ (Z2m t.pol all r (t.rules.take j) ++ Z2l t.pol all r s)) := L0 (congrArg (out ++ ·) (Y10 (pol := t.pol) (all := all) (r := r) hx'))
    obtain ⟨A3, l3, rfl, _⟩ := rSl.elems hq'
    have HQ' := L0 hq'
    obtain ⟨W2, e2, hb2, f0, f1, hs2, hs2w⟩ : ∃ W2, wr.alloc (.cells #[.slice A3 s.cells.length l3, .int .i64 s.out] 69) = W2 /\ Bw wr W2 /\
      W2.cell? (zn wr.heap.size 0) = some (.slice A3 s.cells.length l3) /\ W2.cell? (zn wr.heap.size 1) = some (.int .i64 s.out) /\ wr.heap.size < W2.heap.size /\ Bw w W2 :=
     ⟨_, rfl, (L0m _ _).alloc (L0g _) _, L0b _ _ _ _, L0b _ _ _ _, by simp, hbwi.alloc hbwi.size _⟩
    have HQ2 := L0 (jD HQ'.o hs2w)
    have HALL2 := L0 (jD HALL.o hs2w)
    have HUP : Hid (∀ w5, Bw wr w5 -> ∀ b, Up (fun _ => False) w5.heap.size b -> Up (fun _ => False) W0.heap.size b /\ u6.ownBlock ≠ some b) := L0 (by
     rintro w5 h5 b (h | h)
     ·exact h.elim
     exact ⟨.inr (L0h hbi.size (L0h h5.size h)), fun e => by have := HI.o.own.lt _ e; have := h5.size; omega⟩)
    have HBY : Hid ((out2.length + 1) * rBx.bytes <= 140737488355328) := L0 (by have := HOL2.o; show (_ + _) * 24 <= _; omega)
    clear h9 hx' hq' HQ' hbi hbwi
    generalize hbr : Z1q s all = br at *
    have HBR := L0 hbr
    clear hbr
    cases br with
    | none =>
     have HC : Hid (Z2l t.pol all r s = []) := L0 (by unfold Z2l; rw [HBR.o]; simp [Z1i])
     go_wp2_with (go_at_call 119; (with_reducible refine (Z84 W2 HQ2.o HALL2.o HBR.o).mono ?_); rintro e w5 ⟨z13, rfl, hb5⟩; have HI5 := L0 (HI.o.keepB (hb2.trans (hb5.mono hb2.size))))
     go_roundw
     exact ⟨j + 1, out2, by omega, by go_num, HI5, L0 (by rw [HRS.o, HC.o, L2z, HO2.o]), L0 (by have := HOL2.o; omega)⟩
     simp [intOf]; omega
    | some b =>
     obtain ⟨xb, hxb⟩ : ∃ x, Z3a (Z13 a b) = x := ⟨_, rfl⟩
     obtain ⟨rr, hrr⟩ : ∃ x, Z1i (Z13 a b) = x := ⟨_, rfl⟩
     have qo := L0 hxb
     have qr := L0 hrr
     clear hxb hrr
     by_cases hp2 : t.pol = 2
     ·by_cases hro : r.out = s.out
      ·have HC : Hid (Z2l t.pol all r s = []) := L0 (by unfold Z2l; rw [HBR.o]; simp [hp2, hro])
       have t1 : (t.pol == 2) = true := by rw [beq_iff_eq]; exact hp2
       have t2 : (r.out == s.out) = true := by rw [beq_iff_eq]; exact hro
       clear hp2 hro
       go_wp2_with (go_at_call 119; (with_reducible refine (Z3l W2 HQ2.o HALL2.o HBR.o).mono ?_); rintro e w5 ⟨z13, rfl, how5, hb5⟩; obtain ⟨A13, l13, rfl⟩ := how5.value; have HI5 := L0 (HI.o.keepB (hb2.trans (hb5.mono hb2.size))); have p1 := (HI5.o.below.ce 1 hs0).trans c1; have pr := HI5.o.c1; have ps := (hb5.ce 1 hs2).trans f1; have HB5 := L0 (show rBx.rel w5 _ _ _ from how5.rel (by decide)))
       go_roundw
       exact ⟨j + 1, out2, by omega, by go_num, HI5, L0 (by rw [HRS.o, HC.o, L2z, HO2.o]), L0 (by have := HOL2.o; omega)⟩
       simp [intOf]; omega
      have t1 : (t.pol == 2) = true := by rw [beq_iff_eq]; exact hp2
      have t2 : (r.out == s.out) = false := by rw [beq_eq_false_iff_ne]; exact hro
      have hro2 := L0 hro
      clear hp2 hro
      cases rr
      ·have HC : Hid (Z2l t.pol all r s = []) := L0 (Z30 HAR.o HBR.o (.inr hro2.out) qr.out qo.out)
       go_wp2_with (first | (go_at_call 119; (with_reducible refine (Z3l W2 HQ2.o HALL2.o HBR.o).mono ?_); rintro e w5 ⟨z13, rfl, how5, hb5⟩; obtain ⟨A13, l13, rfl⟩ := how5.value; have HI5 := L0 (HI.o.keepB (hb2.trans (hb5.mono hb2.size))); have p1 := (HI5.o.below.ce 1 hs0).trans c1; have pr := HI5.o.c1; have ps := (hb5.ce 1 hs2).trans f1; have HB5 := L0 (show rBx.rel w5 _ _ _ from how5.rel (by decide))) | (go_at_call 120; (with_reducible refine (Z8r w5 HI5.o.ra HB5.o qr.out qo.out).mono ?_); rintro e w6 ⟨z15, rfl, how6, hb6⟩; obtain ⟨A15, l15, rfl⟩ := how6.value; have HI6 := L0 (HI5.o.keepB hb6)))
       go_roundw
       exact ⟨j + 1, out2, by omega, by go_num, HI6, L0 (by rw [HRS.o, HC.o, L2z, HO2.o]), L0 (by have := HOL2.o; omega)⟩
       simp [intOf]; omega
      have HC : Hid (Z2l t.pol all r s = [xb]) := L0 (Z30 HAR.o HBR.o (.inr hro2.out) qr.out qo.out)
      go_wp2_with (first | (go_at_call 119; (with_reducible refine (Z3l W2 HQ2.o HALL2.o HBR.o).mono ?_); rintro e w5 ⟨z13, rfl, how5, hb5⟩; obtain ⟨A13, l13, rfl⟩ := how5.value; have HI5 := L0 (HI.o.keepB (hb2.trans (hb5.mono hb2.size))); have p1 := (HI5.o.below.ce 1 hs0).trans c1; have pr := HI5.o.c1; have ps := (hb5.ce 1 hs2).trans f1; have HB5 := L0 (show rBx.rel w5 _ _ _ from how5.rel (by decide))) | (go_at_call 120; (with_reducible refine (Z8r w5 HI5.o.ra HB5.o qr.out qo.out).mono ?_); rintro e w6 ⟨z15, rfl, how6, hb6⟩; obtain ⟨A15, l15, rfl⟩ := how6.value; have HI6 := L0 (HI5.o.keepB hb6)) | (at_builtin; refine Z0a (R := rBx) (x := xb) Y3i rfl (.tmp 85) (.tmp 87) rfl rfl HI6.o.own [.slice A15 xb.length l15] rfl rfl (Up (fun _ => False) w5.heap.size) (how6.rel (by decide)) (fun b h _ => HUP.o w5 (hb2.trans (hb5.mono hb2.size)) b h) HBY.o HI6.o.below.size ?_; intro v9 w9 hown9 hb9 hg9 hv9; have HI9 := L0 (HI6.o.push hown9 hb9 hg9 hv9)))
      go_roundw
      exact ⟨j + 1, out2 ++ [xb], by omega, by go_num, HI9, L0 (by rw [HRS.o, HC.o, <- L2l, <- HO2.o]), L0 (by have := HOL2.o; rw [L0i]; simp only [L0r, L0v]; omega)⟩
      simp [intOf]; omega
     have t1 : (t.pol == 2) = false := by rw [beq_eq_false_iff_ne]; exact hp2
     have hpp2 := L0 hp2
     clear hp2
     cases rr
     ·have HC : Hid (Z2l t.pol all r s = []) := L0 (Z30 HAR.o HBR.o (.inl hpp2.out) qr.out qo.out)
      go_wp2_with (first | (go_at_call 119; (with_reducible refine (Z3l W2 HQ2.o HALL2.o HBR.o).mono ?_); rintro e w5 ⟨z13, rfl, how5, hb5⟩; obtain ⟨A13, l13, rfl⟩ := how5.value; have HI5 := L0 (HI.o.keepB (hb2.trans (hb5.mono hb2.size))); have p1 := (HI5.o.below.ce 1 hs0).trans c1; have pr := HI5.o.c1; have ps := (hb5.ce 1 hs2).trans f1; have HB5 := L0 (show rBx.rel w5 _ _ _ from how5.rel (by decide))) | (go_at_call 120; (with_reducible refine (Z8r w5 HI5.o.ra HB5.o qr.out qo.out).mono ?_); rintro e w6 ⟨z15, rfl, how6, hb6⟩; obtain ⟨A15, l15, rfl⟩ := how6.value; have HI6 := L0 (HI5.o.keepB hb6)))
      go_roundw
      exact ⟨j + 1, out2, by omega, by go_num, HI6, L0 (by rw [HRS.o, HC.o, L2z, HO2.o]), L0 (by have := HOL2.o; omega)⟩
      simp [intOf]; omega
     have HC : Hid (Z2l t.pol all r s = [xb]) := L0 (Z30 HAR.o HBR.o (.inl hpp2.out) qr.out qo.out)
     go_wp2_with (first | (go_at_call 119; (with_reducible refine (Z3l W2 HQ2.o HALL2.o HBR.o).mono ?_); rintro e w5 ⟨z13, rfl, how5, hb5⟩; obtain ⟨A13, l13, rfl⟩ := how5.value; have HI5 := L0 (HI.o.keepB (hb2.trans (hb5.mono hb2.size))); have p1 := (HI5.o.below.ce 1 hs0).trans c1; have pr := HI5.o.c1; have ps := (hb5.ce 1 hs2).trans f1; have HB5 := L0 (show rBx.rel w5 _ _ _ from how5.rel (by decide))) | (go_at_call 120; (with_reducible refine (Z8r w5 HI5.o.ra HB5.o qr.out qo.out).mono ?_); rintro e w6 ⟨z15, rfl, how6, hb6⟩; obtain ⟨A15, l15, rfl⟩ := how6.value; have HI6 := L0 (HI5.o.keepB hb6)) | (at_builtin; refine Z0a (R := rBx) (x := xb) Y3i rfl (.tmp 85) (.tmp 87) rfl rfl HI6.o.own [.slice A15 xb.length l15] rfl rfl (Up (fun _ => False) w5.heap.size) (how6.rel (by decide)) (fun b h _ => HUP.o w5 (hb2.trans (hb5.mono hb2.size)) b h) HBY.o HI6.o.below.size ?_; intro v9 w9 hown9 hb9 hg9 hv9; have HI9 := L0 (HI6.o.push hown9 hb9 hg9 hv9)))
     go_roundw
     exact ⟨j + 1, out2 ++ [xb], by omega, by go_num, HI9, L0 (by rw [HRS.o, HC.o, <- L2l, <- HO2.o]), L0 (by have := HOL2.o; rw [L0i]; simp only [L0r, L0v]; omega)⟩
     simp [intOf]; omega
   have hje : j = k := by omega
   have HT' : Hid (Z5n t all (k + 1) = out2) := L0 (by rw [HT.o, <- HO.o, HO2.o, hje])
   clear hF
   go_wp2
   go_roundw
   exact ⟨k + 1, out2, by omega, by go_num, HI.o.own, L0 HT'.o.symm, L0 (by have := HOL2.o; omega), HI.o.below⟩
   simp [intOf]; omega
 have hke : k = t.rules.length := by omega
 have HQ : Hid (Z2k t all = out) := L0 (by rw [HF.o, HO.o, hke])
 have HC := L0 (Y3w wr (hown.rel (by decide)))
 obtain ⟨A9, l9, rfl⟩ := hown.value
 clear hF hown
 go_wp2_with (go_at_call 121; (with_reducible refine HC.o.mono ?_); rintro e w9 ⟨z9, S', rfl, hz9, hb9⟩)
 go_ret2
 exact ⟨z9, S', by rw [HQ.o]; rfl, by rw [HQ.o]; exact Y6e hz9 hbw.size, hbw.trans (hb9.mono hbw.size)⟩
theorem pow3 (k : Nat) (h : k <= 6) : 3 ^ k <= 729 := by
 have : k = 0 \/ k = 1 \/ k = 2 \/ k = 3 \/ k = 4 \/ k = 5 \/ k = 6 := by omega
 rcases this with rfl | rfl | rfl | rfl | rfl | rfl | rfl <;> decide
theorem Y7k {l : List Bx} {k : Nat} {x : Bx} {n : Nat} {i : List Bx} (h : l[k]? = some x) : (l.take (k + 1)).foldl (Z2r n) i = Z2r n ((l.take k).foldl (Z2r n) i) x := by
 rw [Z0c h, L1e]; rfl
theorem X0n {S T : Nat -> Prop} {v u : Value} {a : Bx} {l : List Bx} (w : World) (hl : rBx.rel w S [v] a) (hm : (rSl rBx).rel w T [u] l) (hl6 : l.length <= 6) :
  Calls Tryz.prog 122 #[v, u] w fun e w' => ∃ z S', e = .returned z /\ (rSl rBx).rel w' S' [z] (Y2h a l) /\ Bw w w' := by
 have hal := rSl.lenle hl (by decide)
 have HG := L0 (Z3m (a.length : Int) w hl)
 have hla := hl
 obtain ⟨A, c, rfl, _⟩ := rSl.elems hl
 obtain ⟨B, d, rfl, _, _, _, hF⟩ := rSl.elems hm
 clear hl hm
 cases hg : Z06 a (a.length : Int)
 ·rw [hg] at HG
  have HF : Hid (Y2h a l = []) := L0 (by unfold Y2h; rw [hg]; rfl)
  clear hg hla
  go_enter Tryz.func122, Tryz.ntmps122
  go_wp2_with (go_at_call 118; ((with_reducible refine HG.o.mono ?_); rintro e w1 ⟨rfl, hb1⟩))
  go_ret
  exact ⟨_, fun _ => True, rfl, by rw [HF.o]; exact ⟨none, 0, rfl, L0g _, by decide, by decide, fun i x hx => by simp at hx⟩, hb1⟩
 rw [hg] at HG
 have HR : Hid (Y2h a l = l.foldl (Z2r a.length) [a]) := L0 (by unfold Y2h; rw [hg]; rfl)
 clear hg
 have HLA := L0 hla
 clear hla
 go_enter Tryz.func122, Tryz.ntmps122
 go_wp2_with (go_at_call 118; ((with_reducible refine HG.o.mono ?_); rintro e w1 ⟨rfl, hb1⟩; have h1a := Rd.lit1 (R := rBx) (w := w1) (S := S) (x := a) (cells := [.slice A a.length c]) 163 rfl (by decide) (by decide) (jD HLA.o hb1); have hb1a := hb1.alloc hb1.size (.cells #[.slice A a.length c] 163)))
 go_loopw [5, 20] (fun o i wr => ∃ (k : Nat) (out : List Bx) (Ao : Option Addr) (co : Nat), k <= l.length /\ i = .int .i64 k /\ o = .slice Ao out.length co /\ Hid (out.length <= 3 ^ k) /\ Hid (out = (l.take k).foldl (Z2r a.length) [a]) /\ Hid (∃ S9, (rSl rBx).rel wr S9 [.slice Ao out.length co] out) /\ Bw w wr) (fun _ i _ => l.length - (intOf i).toNat)
 exact ⟨0, [a], _, _, L0o _, rfl, rfl, L0 (by simp), L0 rfl, L0 ⟨_, h1a⟩, hb1a⟩
 obtain ⟨k, out, Ao, co, hk, rfl, rfl, HL3, HO, HS, hb⟩ := hrel
 by_cases hlt : k < l.length
 ·obtain ⟨p, off, v, x, rfl, _, hp, hx, hs, h1⟩ := Elems.sl (R := rSl rRg) hF hlt
  rw [<- hb.ce _ hp] at h1
  have hik : (k : Int) < l.length := by omega
  have HX := L0 (show rBx.rel _ _ _ _ from jD hs hb)
  have HT := L0 (Y7k (n := a.length) (i := [a]) hx)
  have hpw := pow3 k (by omega)
  have hol : out.length <= 729 := L0h HL3.o hpw
  have HPW : Hid (∀ o : List Bx, o.length <= 3 * out.length -> o.length <= 3 ^ (k + 1)) := L0 fun o h => by have := HL3.o; rw [Nat.pow_succ]; omega
  obtain ⟨Av, cv, rfl, _⟩ := rSl.elems hs
  clear hx hs hpw
  cases hgx : Z06 x (a.length : Int)
  ·have hgX := L0 hgx
   have HS' : Hid ((l.take (k + 1)).foldl (Z2r a.length) [a] = out) := L0 (by rw [HT.o, <- HO.o]; unfold Z2r; rw [hgx]; rfl)
   clear hgx
   go_wp2_with (go_at_call 118; ((with_reducible refine (Z5i _ HX.o hgX.out).mono ?_); rintro e w2 ⟨rfl, hb2⟩))
   go_roundw
   case rel =>
    obtain ⟨So, hSo⟩ := HS.o
    exact ⟨k + 1, out, Ao, co, by omega, by go_num, rfl, L0 (HPW.o out (by omega)), L0 HS'.o.symm, L0 ⟨So, jD hSo hb2⟩, hb.trans (hb2.mono hb.size)⟩
   simp [intOf]; omega
  have hgX := L0 hgx
  have HS' : Hid ((l.take (k + 1)).foldl (Z2r a.length) [a] = out.flatMap (Z4f · x)) := L0 (by rw [HT.o, <- HO.o]; unfold Z2r; rw [hgx]; rfl)
  clear hgx
  obtain ⟨So, hSo⟩ := HS.o
  have HSo := L0 hSo
  clear hSo
  go_wp2_with (go_at_call 118; ((with_reducible refine (Z5i _ HX.o hgX.out).mono ?_); rintro e w2 ⟨rfl, hb2⟩))
  have hb2w := hb.trans (hb2.mono hb.size)
  have HSo2 := L0 (show (rSl rBx).rel w2 (fun b => So b /\ b < w2.heap.size) [.slice Ao out.length co] out from (rSl rBx).mono (jD HSo.o hb2) fun b hb hlt => ⟨hb, hlt⟩)
  have HX2 := L0 (show rBx.rel w2 _ _ _ from jD HX.o hb2)
  obtain ⟨_, _, _, _, _, _, hE2⟩ := rSl.elems HSo2.o
  clear HSo HX hb2
  go_loopw [8, 31] (fun o i wr => ∃ (j : Nat) (nxt : List Bx), j <= out.length /\ i = .int .i64 j /\ Own rBx 163 wr w2.heap.size (fun b => So b /\ b < w2.heap.size) o nxt /\ Hid (nxt = (out.take j).flatMap (Z4f · x)) /\ Hid (nxt.length <= 3 * j) /\ Bw w2 wr) (fun _ i _ => out.length - (intOf i).toNat)
  exact ⟨0, [], L0o _, rfl, Own.nil _ _ _ _ _, L0 (by simp), L0 (by simp), L0m _ _⟩
  obtain ⟨j, nxt, hj, rfl, hown, HN, HNL, hb3⟩ := hrel
  by_cases hltj : j < out.length
  ·obtain ⟨q, off', v', y, rfl, _, hq, hy, hs', h2⟩ := Elems.sl (R := rSl rRg) hE2 hltj
   rw [<- hb3.ce _ hq] at h2
   have hij : (j : Int) < out.length := by omega
   have HY := L0 hy
   have HYR := L0 (show rBx.rel wr _ _ _ from jD hs' hb3)
   have HXR := L0 (show rBx.rel wr _ _ _ from jD HX2.o hb3)
   obtain ⟨Ay, cy, rfl, _⟩ := rSl.elems hs'
   clear hs' hy
   have hol3 : nxt.length <= 2187 := by have := HNL.o; omega
   have hLL := L0 (Y84 y x)
   have hHT : Hid ((out.take (j + 1)).flatMap (Z4f · x) = nxt ++ Z4f y x) := L0 (by rw [Z0c HY.o, L4r, <- HN.o]; simp)
   generalize hL : Z4f y x = L at *
   have HLE := L0 hL
   clear hL
   have hlt8 := hown.lt
   have hsz8 := hb3.size
   have HSS : Hid (∀ b, Up (fun b => So b /\ b < w2.heap.size) wr.heap.size b -> Up (fun b => So b /\ b < w2.heap.size) w2.heap.size b /\ u8.ownBlock ≠ some b) := L0 (by
    intro b h
    rcases h with h | h
    ·exact ⟨.inl h, fun e => by have := hlt8 _ e; omega⟩
    exact ⟨.inr (L0h hsz8 h), fun e => by have := hlt8 _ e; omega⟩)
   have HBY : Hid ((nxt.length + L.length) * rBx.bytes <= 140737488355328) := L0 (by have := hLL.out; show (_ + _) * 24 <= _; omega)
   clear hlt8
   go_wp2_with (first | (go_at_call 147; ((with_reducible refine (X0f wr HYR.o HXR.o HLE.o).mono ?_); rintro e w4 ⟨z4, rfl, how4, hb4⟩; obtain ⟨A4, c4, rfl⟩ := how4.value; have hown4 := hown.below hb4; have hE4 := (how4.elems (by decide) rfl).2)) | (at_builtin; refine Z37 (R := rBx) Y3i rfl (.tmp 35) (.tmp 38) rfl rfl hown4 rfl (Up (fun b => So b /\ b < w2.heap.size) wr.heap.size) rfl hE4 (fun _ _ h => h) (fun b h h' => HSS.o b h) HBY.o (L0h hsz8 hb4.size) ?_; intro v5 w5 hown5 hb5 _ _))
   go_roundw
   exact ⟨j + 1, _, by omega, by go_num, hown5, L0 hHT.out.symm, L0 (by have := HNL.o; have := hLL.out; rw [L0i]; omega), hb3.trans (hb4.mono hsz8) |>.trans hb5⟩
   simp [intOf]; omega
  have hje : j = out.length := by omega
  have HQ : Hid (nxt = (l.take (k + 1)).foldl (Z2r a.length) [a]) := L0 (by rw [HN.o, hje, jB, HS'.o])
  have hol3 : nxt.length <= 3 * out.length := by have := HNL.o; omega
  have hown9 := hown
  obtain ⟨A9, c9, rfl⟩ := hown.value
  clear hown hE2
  go_wp2
  go_roundw
  exact ⟨k + 1, nxt, A9, c9, by omega, by go_num, rfl, L0 (HPW.o nxt hol3), L0 HQ.o, L0 ⟨_, hown9.rel (by decide)⟩, hb2w.trans (hb3.mono hb2w.size)⟩
  simp [intOf]; omega
 have hke : k = l.length := by omega
 have HQ : Hid (Y2h a l = out) := L0 (by rw [HR.o, HO.o, hke, jB])
 obtain ⟨S9, hS9⟩ := HS.o
 go_wp2
 go_ret
 exact ⟨_, S9, rfl, by rw [HQ.o]; exact hS9, hb⟩
theorem X22 {S T : Nat -> Prop} {v u : Value} {a : Bx} {l L : List Bx} (w : World) (hl : rBx.rel w S [v] a) (hm : (rSl rBx).rel w T [u] l) (hl6 : l.length <= 6) (h : Y2h a l = L) :
  Calls Tryz.prog 122 #[v, u] w fun e w' => ∃ z S', e = .returned z /\ (rSl rBx).rel w' S' [z] L /\ Bw w w' := h ▸ X0n w hl hm hl6
section
variable {t : Tb} {all : Bx} (hg : Z0s t = true) (hb : Z06 all (t.ins.length : Int) = true)
include hg hb
end
