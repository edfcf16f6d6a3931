import Derived.Test.YtlopccnehgolnacGreatDoorGCommits24
import Derived.Deep.RegionHeld3
import Derived.Test.YtlopccnehgolnacGreatDoorRowSet
import Derived.BigRegion
import Derived.Deep.RegionWith
import Derived.Deep.DrawnRows
import Derived.Test.YtlopccnehgolnacGreatDoorGCommits11
namespace Go.Proofs.YtlopccnehgolnacGreatDoor
open Go.RowKit Rb
open Go.Lib renaming hid -> hI
open Nat renaming lt_of_lt_of_le -> nL, le_trans -> nT
open List renaming getElem?_eq_getElem -> gE, length_append -> lA, append_nil -> jB, getElem?_set_ne -> jC, getElem?_set_self -> jD, length_drop -> jE, length_set -> jF, nil_append -> jG
open Go.RowKit.Below renaming refl -> jA
open Rd renaming below -> jH, drew -> jI
open Go.World renaming cell?_setCell_same -> jJ
set_option maxRecDepth 100000
set_option maxHeartbeats 800000
attribute [local go_sem ↓] Go.wp_at_zero Go.wp_at_succ
theorem Y92 : ElemOf Tryz.prog (rRaw 1 24) 163 70 := .mk' Tryz.underlying163 (z := .slice none 0 0) (k := 1) (b := 24) (by kernel_rfl) rfl rfl rfl (by decide) (by decide)
theorem Z87 {S : Nat -> Prop} {A : Option Addr} {c : Nat} {b : List (List Value)} (w : World) (hE : Elems (rRaw 1 24) w S A b) (hbb' : b.length <= 5864062014805) :
  Calls Tryz.prog 165 #[.slice A b.length c] w fun e w' => ∃ z, e = .returned z /\ Own (rRaw 1 24) 70 w' w.heap.size (fun _ => False) z b /\ Below w.heap.size w w' := by
 have hq := fun (w : World) (a : Option Addr) (n c : Nat) => Lib.run_eql_slice_nil (P := Tryz.prog) w 163 70 a n c 0 0 Tryz.underlying163
 rcases A with _ | a
 ·have hb0 : b = [] := by
   cases b with
   | nil => rfl
   | cons x t =>
    obtain ⟨_, _, _, h, _⟩ := hE 0 x rfl
    cases h
  subst hb0
  go_enter Tryz.func165, Tryz.ntmps165
  go_wp2
  go_ret
  exact ⟨_, rfl, Own.nil _ _ _ _ _, jA _ _⟩
 ·have hE3 : Elems (rRaw 1 24) (w.alloc (.cells #[] 70)) S (some a) b := hE.keep (Keeps.alloc _)
  clear hE
  go_enter Tryz.func165, Tryz.ntmps165
  go_wp2_with (at_builtin; refine Z3l (R := rRaw 1 24) (v := .slice (some ⟨w.heap.size, 0, none⟩) 0 0) (S0 := fun _ => False) Y92 rfl (.tmp 5) (.tmp 6) rfl rfl (Own.empty (rRaw 1 24) 70 w _ rfl) rfl (fun _ => False) rfl hE3 (fun _ _ h => h) (fun _ h => h.elim) ?_ (by simp) ?_; (simp only [rRaw, List.length_nil]; omega); intro v1 w1 hown1 hb1 _ _; obtain ⟨A3, c3, rfl⟩ := hown1.value; simp only [jG] at hown1)
  go_ret
  exact ⟨_, rfl, hown1, bA.trans hb1⟩
def Z11 : Bx -> Bx -> Bx -> List Bx
 | pre, s :: a, t :: b => (if (Z4l s t).length = 0 then [] else [pre ++ Z4l s t :: a]) ++ (if (Z04 s t).length = 0 then [] else Z11 (pre ++ [Z04 s t]) a b)
 | _, _, _ => []
def Z3r (a b : Bx) : List Bx := if Z00 a (a.length : Int) && Z00 b (a.length : Int) then Z11 [] a b else []
section
variable {α : Type} {R : Rd α} {e : TypeId} {w : World} {S : Nat -> Prop} {v : Value} {xs : List α} {x : α} {base : Nat}
theorem Z8p {P : Program} {t ty : TypeId} (hT : ElemOf P R t e) (hown : OwnS R e w base S v xs) {cs : List Value} {S1 : Nat -> Prop} (hrel : R.rel w S1 cs x)
  (hS1 : ∀ b, S1 b -> b < w.heap.size -> v.ownBlock ≠ some b) (hbytes : (xs.length + 1) * R.bytes <= 140737488355328) (hbase : base <= w.heap.size) :
  ∃ v' w', (Builtin.append_ #[t, t] ty #[v, .slice (some ⟨w.heap.size, 0, none⟩) 1 1]).run P (w.alloc (.cells cs.toArray e)) = .ok v' w' /\ OwnS R e w' base (fun b => (S b \/ S1 b) /\ b < w.heap.size /\ v.ownBlock ≠ some b) v' (xs ++ [x]) /\ w.grownBy w' v.ownBlock /\
   (v'.ownBlock = v.ownBlock \/ v'.ownBlock = some (w.heap.size + 1)) := by
 obtain ⟨i, z, hi, hz, hsize, hby, hzs⟩ := hT.hi
 have h63 : xs.length + 1 <= maxLen := by
  have := Nat.le_mul_of_pos_right (xs.length + 1) hT.hb
  unfold maxLen; omega
 have hal : OwnS R e (w.alloc (.cells cs.toArray e)) base (fun b => S b /\ b < w.heap.size) v xs := by
  obtain ⟨cells, h1, h2, h3, h4⟩ := hown
  exact ⟨cells, h1.kept (Below.grownBy_ (row := none) bA) (by cases v.ownBlock <;> simp), fun g hg h => h2 g hg h.1, h3, fun i x hx => R.keep (R.mono (h4 i x hx) fun b hb hlt => ⟨hb, hlt⟩) (.alloc _)⟩
 obtain ⟨cells, h1, h2, h3, h4⟩ := hal
 obtain ⟨v', w', hrun, k1, k2, _, k4⟩ := run_append_own_at (P := P) (w.alloc (.cells cs.toArray e)) base t ty e i z R.k R.bytes hT.ht hi hz hsize hby hzs hT.hk v xs.length cells h1 ⟨w.heap.size, 0, none⟩ 1 1 cs (by rw [Nat.one_mul]; exact R.len hrel) (Z8i w cs e) (R.one hrel) h63 hbytes (by simp; omega)
 refine ⟨v', w', hrun, ⟨cells ++ cs, by rw [lA]; exact k1, ?_, fun _ => by rw [lA]; exact hbytes, ?_⟩, ?_, ?_⟩
 ·rintro g hg ⟨_, hlt, hne⟩
  rcases k4 with k4 | k4
  ·exact hne (k4 ▸ hg)
  ·rw [k4] at hg; injection hg with hg; simp at hg; omega
 ·intro j y hy
  have hl := h1.1
  obtain ⟨d1, d2⟩ := Z1i (k := R.k) hl (R.len hrel) j
  have hK : Keeps (fun b => (S b \/ S1 b) /\ b < w.heap.size /\ v.ownBlock ≠ some b) (w.alloc (.cells cs.toArray e)) w' := .grown k2 fun g hg ⟨_, _, hne⟩ => hne hg
  rcases Nat.lt_or_ge j xs.length with hj | hj
  ·rw [d1 hj]
   rw [List.getElem?_append_left hj] at hy
   exact R.keep (R.mono (h4 j y hy) fun b hb hlt => ⟨.inl hb.1, hb.2, fun hg => h2 b hg hb⟩) hK
  ·have hj' : j = xs.length := by
    have : j < (xs ++ [x]).length := (List.getElem?_eq_some_iff.1 hy).1
    simp at this; omega
   subst hj'
   rw [d2]
   obtain rfl : x = y := by simpa using hy
   exact R.keep (R.keep (R.mono (S' := fun b => (S b \/ S1 b) /\ b < w.heap.size /\ v.ownBlock ≠ some b) hrel fun b hb hlt => ⟨.inr hb, hlt, hS1 b hb hlt⟩) (.alloc _)) hK
 ·exact ⟨k2.os, k2.tape, k2.output, nT (by simp) k2.size, fun j hj hne => (k2.block j (by simp; omega) hne).trans (Below.heap_alloc w _ j hj)⟩
 ·simpa using k4
theorem Z6o {P : Program} {ops : Array Oper} {rest : List Oper} {o : Oper} {a : Act} {Q : Exit -> Act -> World -> Prop} {t : TypeId} (hT : ElemOf P R t e) (hgd : o.guard = none) (s y : Operand)
  (ho : o.op = .call { callee := .builtin .append, args := #[s, y], argTypes := #[t, t] })
  (hs : a.eval s = v) (hown : OwnS R e w base S v xs) (cs : List Value) {n : Nat} (hx : a.eval y = .slice (some ⟨n, 0, none⟩) 1 1) (hn : w.heap.size = n) (S1 : Nat -> Prop) (hrel : R.rel w S1 cs x)
  (hS1 : ∀ b, S1 b -> b < w.heap.size -> v.ownBlock ≠ some b) (hbytes : (xs.length + 1) * R.bytes <= 140737488355328) (hbase : base <= w.heap.size)
  (h : ∀ v' w', OwnS R e w' base (fun b => (S b \/ S1 b) /\ b < w.heap.size /\ v.ownBlock ≠ some b) v' (xs ++ [x]) -> w.grownBy w' v.ownBlock -> (v'.ownBlock = v.ownBlock \/ v'.ownBlock = some (w.heap.size + 1)) -> wpList P ops Q rest (a.put o.dst v') w') :
  wpList P ops Q (o :: rest) a (w.alloc (.cells cs.toArray e)) := by
 subst hn
 obtain ⟨v', w', hr, h2, h3, h4⟩ := Z8p (P := P) (t := t) (ty := o.type) hT hown hrel hS1 hbytes hbase
 refine wpList_plain hgd fun K hK => ?_
 unfold Oper.wp execOp
 simp only [ho, resolve, invoke, builtin, Sem.run_bind, Sem.run_pure, Result.andThen_ok, List.map_toArray, List.map_cons, List.map_nil, hs, hx, hr]
 exact hK _ _ (h v' w' h2 h3 h4)
theorem OwnS.value (h : OwnS R e w base S v xs) : ∃ A c, v = .slice A xs.length c := Own.value (R := R) (e := e) (w := w) (base := base) (S0 := S) ⟨S, h, fun _ hb => .inl hb⟩
end
theorem Y4d {w : World} {base : Nat} {v : Value} {raws : List (List Value)} {b : Bx} {S : Nat -> Prop} (h : Own (rRaw 1 24) 70 w base (fun _ => False) v raws) (hl : raws.length = b.length)
  (hr : ∀ (i : Nat) p x, raws[i]? = some p -> b[i]? = some x -> (rSl rRg).rel w S p x) : rBx.rel w (fun x => S x \/ v.ownBlock = some x) [v] b := by
 obtain ⟨A, c, hv, h1, h2, h3, h4⟩ := h.rel (by decide)
 simp only [List.cons.injEq, and_true] at hv
 refine ⟨A, c, by rw [hv, hl], by omega, h2, by rw [<- hl]; exact h3, ?_⟩
 have hE : Elems (rRaw (rSl rRg).k (rSl rRg).bytes) w (fun x => v.ownBlock = some x) A raws := by
  intro i x hx
  obtain ⟨g, off, es, hA, hS, hb, hrr, hc⟩ := h4 i x hx
  exact ⟨g, off, es, hA, by rw [hv, hA]; rfl, hb, hrr, hc⟩
 exact Elems.unraw hE hl hr
theorem Y31 {w w' : World} {raws : List (List Value)} {l : Bx} {S S' : Nat -> Prop} {k : Nat} {z : Value} {s : List Rg} (hk : k < raws.length) (h : ∀ (i : Nat) p x, raws[i]? = some p -> l[i]? = some x -> (rSl rRg).rel w S p x) (hK : ∀ cs x, (rSl rRg).rel w S cs x -> (rSl rRg).rel w' S' cs x) (hz : (rSl rRg).rel w' S' [z] s) (hl : raws.length = l.length) :
  ∀ (i : Nat) p x, (raws.set k [z])[i]? = some p -> (l.set k s)[i]? = some x -> (rSl rRg).rel w' S' p x := by
 intro i p x hp hx
 by_cases hi : i = k
 ·subst hi
  rw [jD hk] at hp
  rw [jD (by omega)] at hx
  rw [<- Option.some.inj hp, <- Option.some.inj hx]
  exact hz
 ·rw [jC (by omega)] at hp
  rw [jC (by omega)] at hx
  exact hK _ _ (h i p x hp hx)
theorem Y8j {w : World} {base g n c k : Nat} {raws : List (List Value)} {x : Value} {e : TypeId} (h : Own (rRaw 1 24) e w base (fun _ => False) (.slice (some ⟨g, 0, none⟩) n c) raws) (hx : raws[k]? = some [x]) : w.cell? ⟨g, k, none⟩ = some x := by
 obtain ⟨_, hE9⟩ := h.elems (by decide) rfl
 obtain ⟨b9, o9, es, hA9, _, _, ⟨he, _, _⟩, hc⟩ := hE9 k _ hx
 obtain ⟨rfl, rfl⟩ : g = b9 /\ 0 = o9 := by simpa using hA9
 subst he
 have := hc 0 x rfl
 have e : 0 + k * (rRaw 1 24).k + 0 = k := by show 0 + k * 1 + 0 = k; omega
 rwa [e] at this
theorem Y28 {pre a : Bx} {k : Nat} {s s' : List Rg} (hp : pre.length = k) (h : a[k]? = some s) : (pre ++ a.drop k).set k s' = pre ++ s' :: a.drop (k + 1) := by
 rw [Z0m h, List.set_append_right _ _ (by omega), hp, Nat.sub_self]; rfl
structure LessI (w : World) (S : Nat -> Prop) (a b : Bx) (gr cz k m : Nat) (wr : World) (o : Value) (pre : Bx) (out : List Bx) (raws : List (List Value)) (S1 : Nat -> Prop) (rs : List Bx) : Prop where
 hp : pre.length = k
 ho : out.length <= m
 hn : raws.length = a.length
 row : Own (rRaw 1 24) 70 wr w.heap.size (fun _ => False) (.slice (some ⟨gr, 0, none⟩) a.length cz) raws
 rd : ∀ (i : Nat) p x, raws[i]? = some p -> (pre ++ a.drop k)[i]? = some x -> (rSl rRg).rel wr S1 p x
 own : OwnS rBx 163 wr w.heap.size S1 o out
 ngr : ¬ S1 gr
 lt : ∀ b, S1 b -> b < wr.heap.size /\ Up S w.heap.size b
 ogr : o.ownBlock ≠ some gr
 grl : w.heap.size <= gr /\ gr < wr.heap.size
 res : Z3r a b = out ++ rs
 below : Below w.heap.size w wr
section
variable {w : World} {S : Nat -> Prop} {a b : Bx} {gr cz k m : Nat} {wr : World} {o : Value} {pre : Bx} {out : List Bx} {raws : List (List Value)} {S1 : Nat -> Prop} {rs : List Bx}
theorem LessI.keepB (I : LessI w S a b gr cz k m wr o pre out raws S1 rs) {w' : World} (hb : Below wr.heap.size wr w') : LessI w S a b gr cz k m w' o pre out raws S1 rs where
 hp := I.hp
 ho := I.ho
 hn := I.hn
 row := I.row.below hb
 rd := fun i p x hp hx => jH (I.rd i p x hp hx) hb
 own := I.own.below hb
 ngr := I.ngr
 lt := fun b h => ⟨nL (I.lt b h).1 hb.size, (I.lt b h).2⟩
 ogr := I.ogr
 grl := ⟨I.grl.1, nL I.grl.2 hb.size⟩
 res := I.res
 below := I.below.trans (hb.mono I.below.size)
theorem LessI.again (I : LessI w S a b gr cz k m wr o pre out raws S1 rs) {rs' : List Bx} (h : rs = rs') : LessI w S a b gr cz k m wr o pre out raws S1 rs' := h ▸ I
theorem LessI.push (I : LessI w S a b gr cz k m wr o pre out raws S1 rs) {w6 w7 : World} {o' : Value} {S2 : Nat -> Prop} {x : Bx} {rs' : List Bx} (hb : Below wr.heap.size wr w6) (hown : OwnS rBx 163 w7 w.heap.size (fun b => (S1 b \/ S2 b) /\ b < w6.heap.size /\ o.ownBlock ≠ some b) o' (out ++ [x]))
  (hg : w6.grownBy w7 o.ownBlock) (ho' : o'.ownBlock = o.ownBlock \/ o'.ownBlock = some (w6.heap.size + 1)) (hS2 : ∀ b, S2 b -> b ≠ gr /\ (S1 b \/ wr.heap.size <= b)) (hres : rs = x :: rs') :
  LessI w S a b gr cz k (m + 1) w7 o' pre (out ++ [x]) raws (fun b => (S1 b \/ S2 b) /\ b < w6.heap.size /\ o.ownBlock ≠ some b) rs' := by
 have I6 := I.keepB hb
 have hno : ∀ g, o.ownBlock = some g -> ¬ S1 g := fun g hg => by obtain ⟨_, _, h2, _⟩ := I.own; exact h2 g hg
 refine ⟨I.hp, by have := I.ho; simp; omega, I.hn, I6.row.keptF (Y72 1 24) hg (.inr fun e => I.ogr (by rw [<- e]; rfl)), fun i p x hp hx => ?_, hown, fun h => ?_, fun b h => ?_, ?_, ⟨I.grl.1, nL I6.grl.2 hg.size⟩, by rw [I.res, hres]; simp, ?_⟩
 ·refine (rSl rRg).keep ((rSl rRg).mono (I6.rd i p x hp hx) (S' := fun b => (S1 b \/ S2 b) /\ b < w6.heap.size /\ o.ownBlock ≠ some b) fun b hb hlt => ⟨.inl hb, hlt, fun e => hno b e hb⟩) (.grown hg fun g hg' h => h.2.2 hg')
 ·rcases h.1 with h1 | h1
  ·exact I.ngr h1
  ·exact (hS2 gr h1).1 rfl
 ·refine ⟨nL h.2.1 hg.size, ?_⟩
  rcases h.1 with h1 | h1
  ·exact (I.lt b h1).2
  ·rcases (hS2 b h1).2 with h2 | h2
   ·exact (I.lt b h2).2
   ·exact .inr (nT I.below.size h2)
 ·rcases ho' with h | h
  ·rw [h]; exact I.ogr
  ·rw [h]; intro e; injection e with e; have := I6.grl.2; omega
 ·exact I6.below.trans ((jA w.heap.size w6).grown hg I6.below.size fun k hk => (I.own.lt k hk).1)
theorem LessI.step (I : LessI w S a b gr cz k m wr o pre out raws S1 rs) (hk : k < a.length) {w8 : World} {z : Value} {s2 : List Rg} (hb : Below wr.heap.size wr w8) (hz : (rSl rRg).rel w8 (Up (fun _ => False) wr.heap.size) [z] s2) :
  LessI w S a b gr cz (k + 1) m (w8.setCell ⟨gr, k, none⟩ z) o (pre ++ [s2]) out (raws.set k [z]) (fun b => S1 b \/ (wr.heap.size <= b /\ b < w8.heap.size)) rs := by
 have I8 := I.keepB hb
 have hx : a[k]? = some a[k] := gE hk
 have hkr : k < raws.length := by rw [I.hn]; exact hk
 have hn8 : ¬ (S1 gr \/ (wr.heap.size <= gr /\ gr < w8.heap.size)) := by
  rintro (h | h)
  ·exact I.ngr h
  ·have := I.grl.2; omega
 have hg := X07 w8 ⟨gr, k, none⟩ z
 have hone : z.oneCell' = true := (rSl rRg).one hz z (by simp)
 refine ⟨by simp [I.hp], I.ho, by simp [I.hn], ?_, ?_, ?_, hn8, fun b h => ?_, I.ogr, ⟨I.grl.1, by simpa using I8.grl.2⟩, I.res, I8.below.setCell I.grl.1 _⟩
 ·have h1 := I8.row.set (x' := [z]) (u := z) (i := k) (j := 0) (g := gr) (cap := cz) (by rw [I.hn]) hkr (by decide : 0 < 1) (fun es S hr => by
   obtain ⟨rfl, hl1, _⟩ := hr
   have hl1' : raws[k].length = 1 := hl1
   generalize raws[k] = p at *
   match p, hl1' with
   | [q], _ => exact ⟨rfl, rfl, fun u hu => by simp at hu; subst hu; exact hone⟩)
  have e : k * (rRaw 1 24).k + 0 = k := by show k * 1 + 0 = k; omega
  rw [e] at h1
  exact h1
 ·have hl : raws.length = (pre ++ a.drop k).length := by rw [I.hn, lA, I.hp, jE]; omega
  have h1 := Y31 (s := s2) (z := z) (S' := fun b => S1 b \/ (wr.heap.size <= b /\ b < w8.heap.size)) (w' := w8.setCell ⟨gr, k, none⟩ z) hkr I8.rd
   (fun cs x h => (rSl rRg).keep ((rSl rRg).mono h fun b hb _ => .inl hb) (.grown hg fun g hg' h => by cases hg'; exact hn8 h))
   ((rSl rRg).keep ((rSl rRg).mono hz (S' := fun b => S1 b \/ (wr.heap.size <= b /\ b < w8.heap.size)) fun b hb hlt => by rcases hb with h | h; exact h.elim; exact .inr ⟨h, hlt⟩) (.grown hg fun g hg' h => by cases hg'; exact hn8 h)) hl
  rw [Y28 I.hp hx] at h1
  simpa using h1
 ·have h1 := I8.own.kept hg (.inr I.ogr) (fun g hg' h => by cases hg'; exact I.ngr h)
  obtain ⟨cells, k1, k2, k3, k4⟩ := h1
  exact ⟨cells, k1, fun g hg' h => by
   rcases h with h | h
   ·exact k2 g hg' h
   ·have := (I.own.lt g hg').2; omega, k3, fun i x hx => rBx.mono (k4 i x hx) fun b hb _ => .inl hb⟩
 ·rcases h with h | h
  ·exact ⟨by simpa using (I8.lt b h).1, (I.lt b h).2⟩
  ·exact ⟨by simpa using h.2, .inr (nT I.below.size h.1)⟩
theorem LessI.box (I : LessI w S a b gr cz k m wr o pre out raws S1 rs) (hk : k < a.length) {s ls : List Rg} (hx : a[k]? = some s) {w4 w5 : World} {z : Value} {gx cx : Nat} (hb4 : Below wr.heap.size wr w4) (hz4 : (rSl rRg).rel w4 (Up (fun _ => False) wr.heap.size) [z] ls)
  (hox : Own (rRaw 1 24) 70 w5 w4.heap.size (fun _ => False) (.slice (some ⟨gx, 0, none⟩) a.length cx) raws) (hb5 : Below w4.heap.size w4 w5) (hgx : w4.heap.size <= gx) :
  Below wr.heap.size wr (w5.setCell ⟨gx, k, none⟩ z) /\ rBx.rel (w5.setCell ⟨gx, k, none⟩ z) (fun x => (S1 x \/ (wr.heap.size <= x /\ x < w4.heap.size)) \/ x = gx) [.slice (some ⟨gx, 0, none⟩) a.length cx] (pre ++ ls :: a.drop (k + 1)) := by
 have hkr : k < raws.length := by rw [I.hn]; exact hk
 have hone : z.oneCell' = true := (rSl rRg).one hz4 z (by simp)
 have hb45 : Below wr.heap.size wr w5 := hb4.trans (hb5.mono hb4.size)
 have hb6 : Below wr.heap.size wr (w5.setCell ⟨gx, k, none⟩ z) := hb45.setCell (nT hb4.size hgx) _
 refine ⟨hb6, ?_⟩
 have h1 := hox.set (x' := [z]) (u := z) (i := k) (j := 0) (g := gx) (cap := cx) (by rw [I.hn]) hkr (by decide : 0 < 1) (fun es S hr => by
   obtain ⟨rfl, hl1, _⟩ := hr
   have hl1' : raws[k].length = 1 := hl1
   generalize raws[k] = p at *
   match p, hl1' with
   | [q], _ => exact ⟨rfl, rfl, fun u hu => by simp at hu; subst hu; exact hone⟩)
 have e : k * (rRaw 1 24).k + 0 = k := by show k * 1 + 0 = k; omega
 rw [e] at h1
 have hl : raws.length = (pre ++ a.drop k).length := by rw [I.hn, lA, I.hp, jE]; omega
 have hzz : (rSl rRg).rel (w5.setCell ⟨gx, k, none⟩ z) (fun x => S1 x \/ (wr.heap.size <= x /\ x < w4.heap.size)) [z] ls := by
  have h2 := (rSl rRg).mono hz4 (S' := fun x => wr.heap.size <= x /\ x < w4.heap.size) fun x hx hlt => by
   rcases hx with h | h
   ·exact h.elim
   ·exact ⟨h, hlt⟩
  exact (rSl rRg).mono ((rSl rRg).keep (jH h2 hb5) (.setCell (by show ¬ (wr.heap.size <= gx /\ gx < w4.heap.size); omega) _)) fun x hx _ => .inr hx
 have h3 := Y31 (s := ls) (z := z) (S' := fun x => S1 x \/ (wr.heap.size <= x /\ x < w4.heap.size)) (w' := w5.setCell ⟨gx, k, none⟩ z) hkr I.rd (fun cs x h => (rSl rRg).mono (jH h hb6) fun x hx _ => .inl hx) hzz hl
 rw [Y28 I.hp hx] at h3
 have h4 := Y4d h1 (by rw [jF, hl, <- Y28 I.hp hx (s' := ls), jF]) h3
 refine rBx.mono h4 fun x hx _ => ?_
 rcases hx with h | h
 ·exact .inl h
 ·simp [Value.ownBlock] at h; exact .inr h.symm
end
theorem Y48 {S T : Nat -> Prop} {v u : Value} {a b : Bx} (w : World) (hl : rBx.rel w S [v] a) (hm : rBx.rel w T [u] b) :
  Calls Tryz.prog 147 #[v, u] w fun e w' => ∃ z, e = .returned z /\ Own rBx 163 w' w.heap.size S z (Z3r a b) /\ Below w.heap.size w w' := by
 have hal := rSl.lenle hl (by decide)
 have HG := hI (Z23 (a.length : Int) w hl)
 have HG2 := hI fun w' (hb : Below w.heap.size w w') => Z23 (a.length : Int) w' (jH hm hb)
 obtain ⟨A, c, rfl, _, _, hbb, hE⟩ := rSl.elems hl
 obtain ⟨B, d, rfl, _, _, _, hF⟩ := rSl.elems hm
 have hbb' : a.length <= 5864062014805 := by simp only [rSl] at hbb; omega
 clear hl hm hbb
 cases hg : Z00 a (a.length : Int)
 ·rw [hg] at HG
  have HF : Hid (Z3r a b = []) := hI (by unfold Z3r; rw [hg]; rfl)
  clear hg
  go_enter Tryz.func147, Tryz.ntmps147
  go_wp2_with (go_at_call 118; ((with_reducible refine HG.out.mono ?_); rintro e w1 ⟨rfl, hb1⟩))
  go_ret
  exact ⟨_, rfl, by rw [HF.out]; exact Own.nil _ _ _ _ _, hb1⟩
 rw [hg] at HG
 cases hg2 : Z00 b (a.length : Int)
 ·rw [hg2] at HG2
  have HF : Hid (Z3r a b = []) := hI (by unfold Z3r; rw [hg, hg2]; rfl)
  clear hg hg2
  go_enter Tryz.func147, Tryz.ntmps147
  go_wp2_with (first | (go_at_call 118; ((with_reducible refine HG.out.mono ?_); rintro e w1 ⟨rfl, hb1⟩)) | (go_at_call 118; ((with_reducible refine (HG2.out _ hb1).mono ?_); rintro e w2 ⟨rfl, hb2⟩)))
  go_ret
  exact ⟨_, rfl, by rw [HF.out]; exact Own.nil _ _ _ _ _, hb1.trans (hb2.mono hb1.size)⟩
 rw [hg2] at HG2
 obtain ⟨ga, _, ha3⟩ := goodBx_iff.1 hg
 obtain ⟨gb, hab, _⟩ := goodBx_iff.1 hg2
 have HGS := hI (And.intro ga gb)
 have HL0 : Hid (Z3r a b = [] ++ Z11 [] (a.drop 0) (b.drop 0)) := hI (by unfold Z3r; rw [hg, hg2]; simp)
 clear hg hg2 ga gb
 have HAB := hI hab
 obtain ⟨raws, hrl, hRaw, hRR⟩ := hE.raw
 have hRaw' : Elems (rRaw 1 24) w S A raws := hRaw
 have HRR := hI hRR
 have HRL := hI hrl
 have HCL : Hid (∀ w', Below w.heap.size w w' -> Calls Tryz.prog 165 #[.slice A a.length c] w' fun e w2 => ∃ Az cz, e = .returned (.slice Az a.length cz) /\ Own (rRaw 1 24) 70 w2 w'.heap.size (fun _ => False) (.slice Az a.length cz) raws /\ Below w'.heap.size w' w2) :=
  hI fun w' hb => by
   rw [<- hrl]
   refine (Z87 w' (hRaw'.keep (.of_below hb)) (by omega)).mono fun e w2 ⟨z, h1, h2, h3⟩ => ?_
   obtain ⟨Az, cz, rfl⟩ := h2.value
   exact ⟨Az, cz, h1, h2, h3⟩
 clear hab hRaw hRaw' hRR hrl
 go_enter Tryz.func147, Tryz.ntmps147
 go_wp2_with (first | (go_at_call 118; ((with_reducible refine HG.out.mono ?_); rintro e w1 ⟨rfl, hb1⟩)) | (go_at_call 118; ((with_reducible refine (HG2.out _ hb1).mono ?_); rintro e w2 ⟨rfl, hb2⟩; have hb12 := hb1.trans (hb2.mono hb1.size))) | (go_at_call 165; ((with_reducible refine (HCL.out _ hb12).mono ?_); rintro e w3 ⟨Az, cz, rfl, hor, hb3⟩)))
 have hbx := hb12.trans (hb3.mono hb12.size)
 have hsz12 := hb12.size
 rcases Nat.eq_zero_or_pos a.length with ha0 | ha0
 ·have HF : Hid (Z3r a b = []) := hI (by rw [HL0.out, List.eq_nil_of_length_eq_zero ha0]; rfl)
  go_loopw [5, 26] (fun o i wr => o = .slice none 0 0 /\ i = .int .i64 0 /\ Below w.heap.size w wr) (fun _ _ _ => 0)
  case atStart => exact ⟨rfl, rfl, hbx⟩
  case round =>
   obtain ⟨rfl, rfl, hb⟩ := hrel
   go_wp2
   go_ret
   exact ⟨_, rfl, by rw [HF.out]; exact Own.nil _ _ _ _ _, hb⟩
 obtain ⟨gr, rfl, hgr1, hgr2⟩ : ∃ gr, Az = some ⟨gr, 0, none⟩ /\ w2.heap.size <= gr /\ gr < w3.heap.size := by
  rcases hor.form with ⟨_, h⟩ | ⟨g, cap, h, h1, h2⟩
  ·have := HRL.out; rw [h] at this; simp at this; omega
  ·injection h with h _ _; exact ⟨g, h, h1, h2⟩
 have I0 : LessI w S a b gr cz 0 0 w3 (.slice none 0 0) [] [] raws (fun b => S b /\ b < w.heap.size) (Z11 [] (a.drop 0) (b.drop 0)) :=
  ⟨rfl, Nat.le_refl _, HRL.out, hor.lower hsz12, fun i p x hp hx => (rSl rRg).mono (jH ((rSl rRg).mono (HRR.out i p x hp (by simpa using hx)) (S' := fun b => S b /\ b < w.heap.size) fun b hb hlt => ⟨hb, hlt⟩) hbx) fun b hb _ => hb, OwnS.nil _ _ _ _ _,
   fun h => by omega, fun b h => ⟨nL h.2 hbx.size, .inl h.1⟩, by simp [Value.ownBlock], ⟨by omega, hgr2⟩, HL0.out, hbx⟩
 have HI0 := hI I0
 clear I0 hor HRR HRL HL0 hgr1 hgr2 hE
 go_loopw [5, 26] (fun o i wr => ∃ (k : Nat) (pre : Bx) (out : List Bx) (raws : List (List Value)) (S1 : Nat -> Prop), k <= a.length /\ i = .int .i64 k /\ Hid (LessI w S a b gr cz k k wr o pre out raws S1 (Z11 pre (a.drop k) (b.drop k)))) (fun _ i _ => a.length - (intOf i).toNat)
 case atStart => exact ⟨0, _, _, _, _, Nat.zero_le _, rfl, HI0⟩
 case round =>
  obtain ⟨k, pre, out, raws, S1, hk, rfl, HI⟩ := hrel
  by_cases hlt : k < a.length
  ·have hltb : k < b.length := by have := HAB.out; omega
   have hx : a[k]? = some a[k] := gE hlt
   obtain ⟨q, off', v', t, rfl, _, hq, hx', hs', h2⟩ := hF.sl hltb
   have hga := (HGS.out.1 a[k] (List.getElem_mem hlt)).2
   have hgb := (HGS.out.2 t (List.mem_of_getElem? hx')).2
   have hxp : (pre ++ a.drop k)[k]? = some a[k] := by
    have := HI.out.hp
    rw [List.getElem?_append_right (by omega), this, Nat.sub_self, List.getElem?_drop]; exact hx
   have hRS : Z11 pre (a.drop k) (b.drop k) = (if (Z4l a[k] t).length = 0 then [] else [pre ++ Z4l a[k] t :: a.drop (k + 1)]) ++ (if (Z04 a[k] t).length = 0 then [] else Z11 (pre ++ [Z04 a[k] t]) (a.drop (k + 1)) (b.drop (k + 1))) := by
    conv => lhs; rw [Z0m hx, Z0m hx', Z11]
   have HRS := hI hRS
   have hkr : k < raws.length := by rw [HI.out.hn]; exact hlt
   obtain ⟨vs, hvs, hrs⟩ : ∃ vs, raws[k]? = some [vs] /\ (rSl rRg).rel wr S1 [vs] a[k] := by
    have h := HI.out.rd k raws[k] a[k] (gE hkr) hxp
    have h' := h
    obtain ⟨A9, c9, h9, _⟩ := h'
    rw [h9] at h
    refine ⟨_, ?_, h⟩
    rw [gE hkr, h9]
   obtain ⟨hbw, hsz0⟩ : Below w.heap.size w wr /\ gr < wr.heap.size := ⟨HI.out.below, HI.out.grl.2⟩
   have hrow := HI.out.row
   have hfr := hrow.free rfl
   have h1 : wr.cell? ⟨gr, k, none⟩ = some vs := by
    obtain ⟨_, hE9⟩ := hrow.elems (by decide) rfl
    obtain ⟨b9, o9, es, hA9, _, _, ⟨he, _, _⟩, hc⟩ := hE9 k _ hvs
    obtain ⟨rfl, rfl⟩ : gr = b9 /\ 0 = o9 := by simpa using hA9
    subst he
    have := hc 0 vs rfl
    have e : 0 + k * (rRaw 1 24).k + 0 = k := by show 0 + k * 1 + 0 = k; omega
    rwa [e] at this
   rw [<- hbw.ce _ hq] at h2
   have hik : (k : Int) < (a.length : Int) := by omega
   have hik2 : (k : Int) < (b.length : Int) := by omega
   have hCL := Y3j wr.drew (jI hrs) (jI (jH hs' hbw)) hga hgb
   have HCLs := hI hCL
   have HVS := hI hvs
   have HXP := hI hxp
   have HX := hI hx
   have HGA := hI (And.intro hga hgb)
   obtain ⟨Av, cv, rfl, _⟩ := rSl.elems hrs
   obtain ⟨At, ct, rfl, _⟩ := rSl.elems hs'
   have HST := hI hs'
   have HB2 := hI (show w.cell? ⟨q, off' + k, none⟩ = some (.slice At t.length ct) by rw [<- hbw.ce _ hq]; exact h2)
   generalize hak : a[k] = s at *
   clear hx hx' hga hgb hxp hRS hvs hrs hrow hCL hs' hF
   go_wp2
   go_still_tail 8, (by kernel_rfl)
   change wpList _ _ _ _ _ wr.drew
   have hwd0 : Below wr.heap.size wr wr.drew := Z0e (jA _ _) 1
   have hszd : wr.drew.heap.size = wr.heap.size := rfl
   generalize wr.drew = wd at *
   have HWD := hI hwd0
   have HSZ := hI hszd
   clear hwd0 hszd
   by_cases hz : (Z4l s t).length = 0
   ·have HM1 : Hid (Z11 pre (a.drop k) (b.drop k) = (if (Z04 s t).length = 0 then [] else Z11 (pre ++ [Z04 s t]) (a.drop (k + 1)) (b.drop (k + 1)))) := hI (by rw [HRS.out, if_pos hz, jG])
    generalize Z4l s t = ls at *
    go_wp2_with (go_at_call 142; ((with_reducible refine HCLs.out.mono ?_); rintro e w4 ⟨z4, rfl, how4, hb4⟩; obtain ⟨A4, c4, rfl⟩ := how4.value))
    obtain ⟨wm, rfl, om, rfl, outm, S1m, HM⟩ : ∃ wm, wm = w4 /\ ∃ om, om = u5 /\ ∃ (outm : List Bx) (S1m : Nat -> Prop), Hid (LessI w S a b gr cz k (k + 1) wm om pre outm raws S1m (if (Z04 s t).length = 0 then [] else Z11 (pre ++ [Z04 s t]) (a.drop (k + 1)) (b.drop (k + 1)))) :=
     ⟨_, rfl, _, rfl, out, S1, hI (by
      have h := (HI.out.keepB (HWD.out.trans (by rw [<- HSZ.out]; exact hb4))).again HM1.out
      exact { h with ho := Nat.le_succ_of_le h.ho })⟩
    have hbm := HM.out.below
    have mrow := HM.out.row
    have mf := mrow.free rfl
    have m1 : wm.cell? ⟨gr, k, none⟩ = some (.slice Av s.length cv) := by
     obtain ⟨_, hE9⟩ := mrow.elems (by decide) rfl
     obtain ⟨b9, o9, es, hA9, _, _, ⟨he, _, _⟩, hc⟩ := hE9 k _ HVS.out
     obtain ⟨rfl, rfl⟩ : gr = b9 /\ 0 = o9 := by simpa using hA9
     subst he
     have := hc 0 _ rfl
     have e : 0 + k * (rRaw 1 24).k + 0 = k := by show 0 + k * 1 + 0 = k; omega
     rwa [e] at this
    have m2 : wm.cell? ⟨q, off' + k, none⟩ = some (.slice At t.length ct) := (hbm.ce _ hq).trans HB2.out
    have hCB := Z7h wm.drew (jI (HM.out.rd k _ _ HVS.out HXP.out)) (jI (jH HST.out hbm)) HGA.out.1 HGA.out.2
    have HCB := hI hCB
    have hgm := HM.out.grl
    have hnq : ¬ gr = q := by omega
    have hqm : q < wm.drew.heap.size := nL hq hbm.size
    have hgm2 : gr < wm.drew.heap.size := hgm.2
    clear hCB mrow
    go_region_with (go_at_call 144; ((with_reducible refine HCB.out.mono ?_); rintro e w8 ⟨z8, rfl, how8, hb8⟩; obtain ⟨A8, c8, rfl⟩ := how8.value; have n2 := (hb8.ce (off' + k) hqm).trans m2; have n1 := (hb8.ce k hgm2).trans m1; have nf : w8.frozen? ⟨gr, k, none⟩ = false := (hb8.fr k hgm2).trans (mf k)))
    all_goals
     have hb8' : Below wm.heap.size wm w8 := (Z0e (jA _ _) 1).trans hb8
     have HS8 := hI (HM.out.step hlt hb8' (show (rSl rRg).rel w8 (Up (fun _ => False) wm.heap.size) [_] (Z04 s t) from how8.rel (by decide)))
     have hgs : (w8.setCell ⟨gr, k, none⟩ (.slice A8 (Z04 s t).length c8)).cell? ⟨gr, k, none⟩ = some (.slice A8 (Z04 s t).length c8) := jJ _ _ _ n1
     clear n1 n2 nf m1 m2 mf how8 hb8 hb8'
     generalize hw9 : w8.setCell ⟨gr, k, none⟩ (.slice A8 (Z04 s t).length c8) = w9 at *
     clear hw9
     by_cases hz2 : (Z04 s t).length = 0
     ·have HR := hI (show Z3r a b = outm by have := HS8.out.res; rw [if_pos hz2, jB] at this; exact this)
      generalize Z04 s t = bs at *
      go_wp2
      go_ret
      exact ⟨_, rfl, by rw [HR.out]; exact ⟨_, HS8.out.own, fun b hb => (HS8.out.lt b hb).2⟩, HS8.out.below⟩
     ·have HR := hI (HS8.out.again (if_neg hz2))
      have hz3 : ((Z04 s t).length == 0) = false := by simpa using hz2
      generalize Z04 s t = bs at *
      go_wp2
      go_roundw
      case rel => exact ⟨k + 1, _, _, _, _, by omega, by go_num, HR⟩
      case measure => simp [intOf]; omega
   ·have HM2 : Hid (Z11 pre (a.drop k) (b.drop k) = (pre ++ Z4l s t :: a.drop (k + 1)) :: (if (Z04 s t).length = 0 then [] else Z11 (pre ++ [Z04 s t]) (a.drop (k + 1)) (b.drop (k + 1)))) := hI (by rw [HRS.out, if_neg hz]; rfl)
    have hzp : 0 < (Z4l s t).length := by omega
    have HIO := hI HI.out.own
    have HOL : Hid ((out.length + 1) * rBx.bytes <= 140737488355328) := hI (by have := HI.out.ho; show (out.length + 1) * 24 <= _; omega)
    have HNB : Hid (∀ {n gx N : Nat}, wr.heap.size <= n -> n <= gx -> ∀ x, ((S1 x \/ (wr.heap.size <= x /\ x < n)) \/ x = gx) -> x < N -> (u5 : Value).ownBlock ≠ some x) := hI fun hn hg x hx _ e => by
     have h9 := (HI.out.own.lt x e).2
     rcases hx with (h | h) | h
     ·obtain ⟨_, _, h2, _⟩ := HI.out.own; exact h2 x e h
     ·omega
     ·omega
    have HN2 : Hid (∀ {n gx : Nat}, wr.heap.size <= n -> n <= gx -> ∀ x, ((S1 x \/ (wr.heap.size <= x /\ x < n)) \/ x = gx) -> x ≠ gr /\ (S1 x \/ wr.heap.size <= x)) := hI fun hn hg x hx => by
     have := HI.out.grl.2
     rcases hx with (h | h) | h
     ·exact ⟨fun e => HI.out.ngr (e ▸ h), .inl h⟩
     ·exact ⟨by omega, .inr h.1⟩
     ·exact ⟨by omega, .inr (by omega)⟩
    have HCC : Hid (∀ w4, Below wr.heap.size wr w4 -> Calls Tryz.prog 165 #[.slice (some ⟨gr, 0, none⟩) a.length cz] w4 fun e w5 => ∃ gx cx, e = .returned (.slice (some ⟨gx, 0, none⟩) a.length cx) /\ Own (rRaw 1 24) 70 w5 w4.heap.size (fun _ => False) (.slice (some ⟨gx, 0, none⟩) a.length cx) raws /\ Below w4.heap.size w4 w5 /\ w4.heap.size <= gx /\ gx < w5.heap.size) :=
     hI fun w4 hb => by
      obtain ⟨_, hE9⟩ := (HI.out.row.below hb).elems (by decide) rfl
      rw [<- HI.out.hn]
      refine (Z87 w4 hE9 (by have := HI.out.hn; omega)).mono fun e w5 ⟨z, h1, h2, h3⟩ => ?_
      rcases h2.form with ⟨_, h⟩ | ⟨g, cap, h, h4, h5⟩
      ·have := HI.out.hn; rw [h] at this; simp at this; omega
      ·subst h; exact ⟨g, cap, h1, h2, h3, h4, h5⟩
    clear hz
    generalize hls : Z4l s t = ls at *
    clear hls
    go_wp2_with (first | (go_at_call 142; ((with_reducible refine HCLs.out.mono ?_); rintro e w4 ⟨z4, rfl, how4, hb4⟩; obtain ⟨A4, c4, rfl⟩ := how4.value; have hb4r := HWD.out.trans (by rw [<- HSZ.out]; exact hb4))) | (go_at_call 165; ((with_reducible refine (HCC.out _ hb4r).mono ?_); rintro e w5 ⟨gx, cx, rfl, hox, hb5, hgx1, hgx2⟩; have fx := hox.free rfl k; have x1 := Y8j hox HVS.out; obtain ⟨w6, e6, hb6, hrx⟩ : ∃ w6, w5.setCell ⟨gx, k, none⟩ (.slice A4 ls.length c4) = w6 /\ Below wr.heap.size wr w6 /\ rBx.rel w6 (fun x => (S1 x \/ (wr.heap.size <= x /\ x < w4.heap.size)) \/ x = gx) [.slice (some ⟨gx, 0, none⟩) a.length cx] (pre ++ ls :: a.drop (k + 1)) := ⟨_, rfl, HI.out.box hlt HX.out hb4r (show (rSl rRg).rel w4 (Up (fun _ => False) wr.heap.size) [_] ls from by rw [<- HSZ.out]; exact how4.rel (by decide)) hox hb5 hgx1⟩; have hown6 := HIO.out.below hb6)) | (at_builtin; refine Z6o (R := rBx) (x := pre ++ ls :: a.drop (k + 1)) Y1s rfl (.tmp 47) (.tmp 49) rfl rfl hown6 [_] rfl rfl (fun x => (S1 x \/ (wr.heap.size <= x /\ x < w4.heap.size)) \/ x = gx) hrx (HNB.out hb4r.size hgx1) HOL.out (nT HI.out.below.size hb6.size) ?_; intro o7 w7 hown7 hg7 ho7))
    obtain ⟨wm, rfl, om, rfl, outm, S1m, HM⟩ : ∃ wm, wm = w7 /\ ∃ om, om = o7 /\ ∃ (outm : List Bx) (S1m : Nat -> Prop), Hid (LessI w S a b gr cz k (k + 1) wm om pre outm raws S1m (if (Z04 s t).length = 0 then [] else Z11 (pre ++ [Z04 s t]) (a.drop (k + 1)) (b.drop (k + 1)))) :=
     ⟨_, rfl, _, rfl, _, _, hI (HI.out.push hb6 hown7 hg7 ho7 (HN2.out hb4r.size hgx1) HM2.out)⟩
    have hbm := HM.out.below
    have mrow := HM.out.row
    have mf := mrow.free rfl
    have m1 : wm.cell? ⟨gr, k, none⟩ = some (.slice Av s.length cv) := by
     obtain ⟨_, hE9⟩ := mrow.elems (by decide) rfl
     obtain ⟨b9, o9, es, hA9, _, _, ⟨he, _, _⟩, hc⟩ := hE9 k _ HVS.out
     obtain ⟨rfl, rfl⟩ : gr = b9 /\ 0 = o9 := by simpa using hA9
     subst he
     have := hc 0 _ rfl
     have e : 0 + k * (rRaw 1 24).k + 0 = k := by show 0 + k * 1 + 0 = k; omega
     rwa [e] at this
    have m2 : wm.cell? ⟨q, off' + k, none⟩ = some (.slice At t.length ct) := (hbm.ce _ hq).trans HB2.out
    have hCB := Z7h wm.drew (jI (HM.out.rd k _ _ HVS.out HXP.out)) (jI (jH HST.out hbm)) HGA.out.1 HGA.out.2
    have HCB := hI hCB
    have hgm := HM.out.grl
    have hnq : ¬ gr = q := by omega
    have hqm : q < wm.drew.heap.size := nL hq hbm.size
    have hgm2 : gr < wm.drew.heap.size := hgm.2
    clear hCB mrow
    go_region_with (go_at_call 144; ((with_reducible refine HCB.out.mono ?_); rintro e w8 ⟨z8, rfl, how8, hb8⟩; obtain ⟨A8, c8, rfl⟩ := how8.value; have n2 := (hb8.ce (off' + k) hqm).trans m2; have n1 := (hb8.ce k hgm2).trans m1; have nf : w8.frozen? ⟨gr, k, none⟩ = false := (hb8.fr k hgm2).trans (mf k)))
    all_goals
     have hb8' : Below wm.heap.size wm w8 := (Z0e (jA _ _) 1).trans hb8
     have HS8 := hI (HM.out.step hlt hb8' (show (rSl rRg).rel w8 (Up (fun _ => False) wm.heap.size) [_] (Z04 s t) from how8.rel (by decide)))
     have hgs : (w8.setCell ⟨gr, k, none⟩ (.slice A8 (Z04 s t).length c8)).cell? ⟨gr, k, none⟩ = some (.slice A8 (Z04 s t).length c8) := jJ _ _ _ n1
     clear n1 n2 nf m1 m2 mf how8 hb8 hb8'
     generalize hw9 : w8.setCell ⟨gr, k, none⟩ (.slice A8 (Z04 s t).length c8) = w9 at *
     clear hw9
     by_cases hz2 : (Z04 s t).length = 0
     ·have HR := hI (show Z3r a b = outm by have := HS8.out.res; rw [if_pos hz2, jB] at this; exact this)
      generalize Z04 s t = bs at *
      go_wp2
      go_ret
      exact ⟨_, rfl, by rw [HR.out]; exact ⟨_, HS8.out.own, fun b hb => (HS8.out.lt b hb).2⟩, HS8.out.below⟩
     ·have HR := hI (HS8.out.again (if_neg hz2))
      have hz3 : ((Z04 s t).length == 0) = false := by simpa using hz2
      generalize Z04 s t = bs at *
      go_wp2
      go_roundw
      case rel => exact ⟨k + 1, _, _, _, _, by omega, by go_num, HR⟩
      case measure => simp [intOf]; omega
  ·have hke : k = a.length := by omega
   have HR := hI (show Z3r a b = out by
    have := HI.out.res
    rw [List.drop_eq_nil_of_le (by omega), Z11] at this
    ·rw [jB] at this; exact this
    ·intro _ _ _ _ h _; cases h)
   go_wp2
   go_ret
   exact ⟨_, rfl, by rw [HR.out]; exact ⟨_, HI.out.own, fun b hb => (HI.out.lt b hb).2⟩, HI.out.below⟩
end Go.Proofs.YtlopccnehgolnacGreatDoor
namespace Go.Proofs.YtlopccnehgolnacGreatDoor
open Go.RowKit Rb
open Go.Lib renaming hid -> hI
open Nat renaming le_trans -> nT, zero_le -> jE
open Go.RowKit.Below renaming refl -> jA
open List renaming drop_eq_nil_of_le -> jB, length_append -> jC, take_length -> jD
open Option renaming map_map -> jF
open Rd renaming below -> jG
open Go.World renaming cell?_alloc_new -> jH
set_option maxRecDepth 100000
set_option maxHeartbeats 800000
def Z2e (n : Nat) (out : List Bx) (b : Bx) : List Bx := if Z00 b (n : Int) then out.flatMap (Z3r · b) else out
def Y0t (a : Bx) (l : List Bx) : List Bx := if Z00 a (a.length : Int) then l.foldl (Z2e a.length) [a] else []
theorem Z9i : ∀ (a b pre : Bx), (Z11 pre a b).length <= a.length
 | s :: a, t :: b, pre => by
  rw [Z11, jC]
  have := Z9i a b (pre ++ [Z04 s t])
  split <;> split <;> simp <;> omega
 | [], [], _ => by simp [Z11]
 | [], _ :: _, _ => by simp [Z11]
 | _ :: _, [], _ => by simp [Z11]
theorem Y6j (a b : Bx) : (Z3r a b).length <= 3 := by
 unfold Z3r
 split
 ·rename_i h
  simp only [Bool.and_eq_true] at h
  have := (goodBx_iff.1 h.1).2.2
  have := Z9i a b []
  omega
 ·simp
theorem Z4n {S : Nat -> Prop} {v : Value} {b : Bx} {n : Int} {r : Bool} (w : World) (hl : rBx.rel w S [v] b) (h : Z00 b n = r) :
  Calls Tryz.prog 118 #[v, .int .i64 n] w fun e w' => e = .returned (.bool r) /\ Below w.heap.size w w' := h ▸ Z23 n w hl
theorem Y7h {S T : Nat -> Prop} {v u : Value} {a b : Bx} {L : List Bx} (w : World) (hl : rBx.rel w S [v] a) (hm : rBx.rel w T [u] b) (h : Z3r a b = L) :
  Calls Tryz.prog 147 #[v, u] w fun e w' => ∃ z, e = .returned z /\ Own rBx 163 w' w.heap.size S z L /\ Below w.heap.size w w' := h ▸ Y48 w hl hm
theorem Z7g {S T : Nat -> Prop} {v u : Value} {a b o : Bx} {r : Bool} (w : World) (hl : rBx.rel w S [v] a) (hm : rBx.rel w T [u] b) (h1 : Z1e (Z1s a b) = r) (h2 : Z2k (Z1s a b) = o) :
  Calls Tryz.prog 120 #[v, u] w fun e w' => ∃ z, e = .returned (.tuple #[z, .bool r]) /\ Own (rSl rRg) 70 w' w.heap.size (fun _ => False) z o /\ Below w.heap.size w w' := h1 ▸ h2 ▸ Y47 w hl hm
def Z2z (c : Cl) (s : List Rg) : List Rg := if c.no then Z4l s (Z3c c.rs) else if 0 < c.rs.length then Z04 s (Z3c c.rs) else s
def Z4p : List Cl -> Bx -> Option Bx
 | c :: cs, s :: all => if (Z2z c s).length = 0 then none else (Z4p cs all).map (Z2z c s :: ·)
 | _, _ => some []
def Z1l (r : Rl) (all : Bx) : Option Bx := if decide (r.cells.length = all.length) && Z00 all (all.length : Int) then Z4p r.cells all else none
def Y9u (r : Rl) (all : Bx) : Prop := r.cells.length = all.length
theorem Y5x {cs : List Cl} {all : Bx} {k : Nat} {c : Cl} {s : List Rg} (hc : cs[k]? = some c) (hs : all[k]? = some s) :
  Z4p (cs.drop k) (all.drop k) = if (Z2z c s).length = 0 then none else (Z4p (cs.drop (k + 1)) (all.drop (k + 1))).map (Z2z c s :: ·) := by
 rw [Z0m hc, Z0m hs]; rfl
theorem Z92 {S : Nat -> Prop} {v : Value} {l L : List Rg} (w : World) (hl : (rSl rRg).rel w S [v] l) (h : Z3c l = L) :
  Calls Tryz.prog 143 #[v] w fun e w' => ∃ u, e = .returned u /\ Own rRg 74 w' w.heap.size S u L /\ Below w.heap.size w w' := h ▸ Z7k w hl
theorem Y5a {S T : Nat -> Prop} {v u : Value} {a b L : List Rg} (w : World) (hl : (rSl rRg).rel w S [v] a) (hm : (rSl rRg).rel w T [u] b) (ga : Z2g a) (gb : Z2g b) (h : Z04 a b = L) :
  Calls Tryz.prog 144 #[v, u] w fun e w' => ∃ x, e = .returned x /\ Own rRg 74 w' w.heap.size (fun _ => False) x L /\ Below w.heap.size w w' := h ▸ Z7h w hl hm ga gb
theorem Y5m {S T : Nat -> Prop} {v u : Value} {a b L : List Rg} (w : World) (hl : (rSl rRg).rel w S [v] a) (hm : (rSl rRg).rel w T [u] b) (ga : Z2g a) (gb : Z2g b) (h : Z4l a b = L) :
  Calls Tryz.prog 142 #[v, u] w fun e w' => ∃ x, e = .returned x /\ Own rRg 74 w' w.heap.size (fun _ => False) x L /\ Below w.heap.size w w' := h ▸ Y3j w hl hm ga gb
theorem Y7f {S T : Nat -> Prop} {v u : Value} {r : Rl} {all : Bx} (w : World) (hl : (rSl rCl).rel w S [v] r.cells) (hm : rBx.rel w T [u] all) :
  Calls Tryz.prog 119 #[.agg #[v, .int .i64 r.out], u] w fun e w' => ∃ z, e = .returned (.tuple #[z, .bool (Z1e (Z1l r all))]) /\ Own (rSl rRg) 70 w' w.heap.size T z (Z2k (Z1l r all)) /\ Below w.heap.size w w' := by
 have hal := rSl.lenle hm (by decide)
 obtain ⟨A, c, rfl, _, _, hbA, hE⟩ := rSl.elems hl
 obtain ⟨B, d, rfl, _, _, _, hF⟩ := rSl.elems hm
 have hcl : r.cells.length <= 4398046511104 := by simp only [rCl] at hbA; omega
 obtain ⟨W0, e0, hB0, hB0s⟩ : ∃ W0, w.alloc (.cells #[.slice A r.cells.length c, .int .i64 r.out] 69) = W0 /\ Below w.heap.size w W0 /\ w.heap.size < W0.heap.size := ⟨_, rfl, (jA _ _).alloc (Nat.le_refl _) _, by simp⟩; have c0 := ac0 e0
 have HG := hI (Z23 (all.length : Int) W0 (jG hm hB0))
 clear hl hm hbA
 by_cases hlen : r.cells.length = all.length
 case neg =>
  have hn : ((r.cells.length : Int) == (all.length : Int)) = false := by rw [beq_eq_false_iff_ne]; omega
  have HF : Hid (Z1l r all = none) := hI (by unfold Z1l; rw [decide_eq_false hlen]; rfl)
  go_enter Tryz.func119, Tryz.ntmps119
  go_wp2
  go_ret2
  exact ⟨_, by rw [HF.out]; rfl, by rw [HF.out]; exact Own.nil _ _ _ _ _, hB0⟩
 have HLEN : Y9u r all := hlen
 have HLB : Hid (Z1l r all = if Z00 all (all.length : Int) then (Z4p (r.cells.drop 0) (all.drop 0)).map ([] ++ ·) else none) := hI (by unfold Z1l; rw [decide_eq_true hlen]; simp)
 generalize r.cells.length = m at *
 subst hlen
 cases hg : Z00 all (all.length : Int)
 ·rw [hg] at HG
  have HF : Hid (Z1l r all = none) := hI (by rw [HLB.out, hg]; rfl)
  clear hg
  go_enter Tryz.func119, Tryz.ntmps119
  go_wp2_with (go_at_call 118; ((with_reducible refine HG.out.mono ?_); rintro e w1 ⟨rfl, hb1⟩))
  go_ret2
  exact ⟨_, by rw [HF.out]; rfl, by rw [HF.out]; exact Own.nil _ _ _ _ _, hB0.trans (hb1.mono hB0.size)⟩
 rw [hg] at HG
 have HAR : Hid (Z1l r all = (Z4p (r.cells.drop 0) (all.drop 0)).map ([] ++ ·)) := hI (by rw [HLB.out, hg]; rfl)
 have HGS := hI (goodBx_iff.1 hg).1
 have ha3 := (goodBx_iff.1 hg).2.2
 clear hg HLB
 go_enter Tryz.func119, Tryz.ntmps119
 go_wp2_with (go_at_call 118; ((with_reducible refine HG.out.mono ?_); rintro e w1 ⟨rfl, hb1⟩; have hc1 := (hb1.ce 0 hB0s).trans c0))
 have hbw := hB0.trans (hb1.mono hB0.size)
 clear e0 c0 hb1 hc1
 go_loopw [6, 26] (fun o i wr => ∃ (k : Nat) (pre : Bx), k <= all.length /\ i = .int .i64 k /\ Own (rSl rRg) 70 wr w.heap.size T o pre /\ pre.length = k /\ Hid (Z1l r all = (Z4p (r.cells.drop k) (all.drop k)).map (pre ++ ·)) /\ Below w.heap.size w wr) (fun _ i _ => all.length - (intOf i).toNat)
 case atStart => exact ⟨0, [], jE _, rfl, Own.nil _ _ _ _ _, rfl, HAR, hbw⟩
 case round =>
  clear HG HAR hbw
  obtain ⟨k, pre, hk, rfl, hown, hpl, HI, hb⟩ := hrel
  by_cases hlt : k < all.length
  ·obtain ⟨bA, off, cl, q, rfl, _, hbA, hx, hq, g1, g2⟩ := hE.cl (show k < r.cells.length by rw [HLEN]; exact hlt)
   obtain ⟨bB, off', v', s, rfl, _, hbB, hx', hs', g3⟩ := hF.sl hlt
   rw [<- hb.ce _ hbA] at g1 g2
   rw [<- hb.ce _ hbB] at g3
   have hgs := (HGS.out s (List.mem_of_getElem? hx')).2
   have HAT := hI (Y5x hx hx')
   have hik : (k : Int) < (all.length : Int) := by omega
   obtain ⟨no, rs⟩ := cl
   dsimp only at g1 g2 hq
   obtain ⟨W1, e1, hown1, hb1, hq1, hs1, c0, c1, g31, hs1z⟩ : ∃ W1, wr.alloc (.cells #[.bool no, q] 72) = W1 /\ Own (rSl rRg) 70 W1 w.heap.size T u6 pre /\ Below w.heap.size w W1 /\ (rSl rRg).rel W1 S [q] rs /\ (rSl rRg).rel W1 (fun b => T b /\ b < w.heap.size) [v'] s /\
     W1.cell? ⟨wr.heap.size, 0, none⟩ = some (.bool no) /\ W1.cell? ⟨wr.heap.size, 1, none⟩ = some q /\ W1.cell? ⟨bB, off' + k, none⟩ = some v' /\ wr.heap.size < W1.heap.size :=
    ⟨_, rfl, hown.alloc _, hb.alloc hb.size _, jG hq (hb.alloc hb.size _), jG ((rSl rRg).mono hs' fun b h h' => ⟨h, h'⟩) (hb.alloc hb.size _), jH _ _ _ _, jH _ _ _ _, (World.cell?_alloc_lt _ _ _ (Nat.lt_of_lt_of_le hbB hb.size)).trans g3, by simp⟩
   clear hown hq hs' hx hx' hE hF g3
   obtain ⟨A2, c2, rfl, _⟩ := rSl.elems hq1
   obtain ⟨A3, c3, rfl, _⟩ := rSl.elems hs1
   have hbase := hb1.size
   have hlt6 := hI hown1.lt
   have HUP : Hid (∀ w4, Below W1.heap.size W1 w4 -> ∀ b, Up (fun _ => False) w4.heap.size b -> Up T w.heap.size b /\ u6.ownBlock ≠ some b) := hI (by
    rintro w4 h4 b (h | h)
    ·exact h.elim
    ·exact ⟨.inr (nT hbase (nT h4.size h)), fun e => by have := hlt6.out _ e; have := h4.size; omega⟩)
   have HUP3 : Hid (∀ b, T b /\ b < w.heap.size -> Up T w.heap.size b /\ u6.ownBlock ≠ some b) := hI fun b h => ⟨.inl h.1, fun e => by have := hlt6.out _ e; omega⟩
   have HBY : Hid ((pre.length + 1) * (rSl rRg).bytes <= 140737488355328) := hI (by rw [hpl]; show (_ + _) * 24 <= _; omega)
   cases no
   ·by_cases hr0 : rs.length = 0
    ·have hca : Z2z ⟨false, rs⟩ s = s := by unfold Z2z; rw [if_neg (by simp), if_neg (by simp [hr0])]
     have HCA := hI hca
     clear hca hq1
     generalize rs.length = m0 at *
     subst hr0
     by_cases hz : s.length = 0
     ·have HF : Hid (Z1l r all = none) := hI (by rw [HI.out, HAT.out, HCA.out, if_pos hz]; rfl)
      go_wp2
      go_ret2
      exact ⟨_, by rw [HF.out]; rfl, by rw [HF.out]; exact Own.nil _ _ _ _ _, hb1.trans ((jA _ _).mono hb1.size)⟩
     ·have HF : Hid (Z1l r all = (Z4p (r.cells.drop (k + 1)) (all.drop (k + 1))).map ((pre ++ [s]) ++ ·)) := hI (by rw [HI.out, HAT.out, HCA.out, if_neg hz]; simp [jF, Function.comp_def])
      have hz2 : ((s.length : Int) == 0) = false := by rw [beq_eq_false_iff_ne]; omega
      go_wp2_with (at_builtin; refine Z0a (R := rSl rRg) (x := s) Y1t rfl (.tmp 56) (.tmp 58) rfl rfl (hown1) [.slice A3 s.length c3] rfl rfl (fun b => T b /\ b < w.heap.size) (hs1) (fun b h _ => HUP3.out b h) HBY.out (nT hbase (jA W1.heap.size W1).size) ?_; intro v9 w9 hown9 hb9 _ _)
      go_roundw
      case rel => exact ⟨k + 1, pre ++ [s], by omega, by go_num, hown9, by simp [hpl], HF, (hb1.trans ((jA _ _).mono hb1.size)).trans hb9⟩
      case measure => simp [intOf]; omega
    ·have hr1 : (0 : Int) < (rs.length : Int) := by omega
     have hca : Z2z ⟨false, rs⟩ s = Z04 s (Z3c rs) := by unfold Z2z; rw [if_neg (by simp), if_pos (by show 0 < rs.length; omega)]
     generalize hnr : Z3c rs = nr at *
     have HNR := hI hnr
     have HNG : Hid (Z2g nr) := hI (hnr ▸ (Z33 rs).1)
     clear hnr
     generalize hcs : Z04 s nr = cs at *
     have HCS := hI hcs
     have HCA := hI hca
     have hcl2 : cs.length <= 2000002 := hcs ▸ Z1z (Z6q s nr).1
     clear hcs hca
     by_cases hz : cs.length = 0
     ·have HF : Hid (Z1l r all = none) := hI (by rw [HI.out, HAT.out, HCA.out, if_pos hz]; rfl)
      go_wp2_with (first | (go_at_call 143; (with_reducible refine (Z92 W1 hq1 HNR.out).mono ?_); rintro e w4 ⟨z4, rfl, how4, hb4⟩; obtain ⟨A4, c4, rfl⟩ := how4.value; have hr4 := how4.rel (by decide); have hs4 := jG hs1 hb4) | (go_at_call 144; (with_reducible refine (Y5a w4 hs4 hr4 hgs HNG.out HCS.out).mono ?_); rintro e w5 ⟨z5, rfl, how5, hb5⟩; obtain ⟨A5, c5, rfl⟩ := how5.value))
      go_ret2
      exact ⟨_, by rw [HF.out]; rfl, by rw [HF.out]; exact Own.nil _ _ _ _ _, hb1.trans ((hb4.trans (hb5.mono hb4.size)).mono hb1.size)⟩
     ·have HF : Hid (Z1l r all = (Z4p (r.cells.drop (k + 1)) (all.drop (k + 1))).map ((pre ++ [cs]) ++ ·)) := hI (by rw [HI.out, HAT.out, HCA.out, if_neg hz]; simp [jF, Function.comp_def])
      have hz2 : ((cs.length : Int) == 0) = false := by rw [beq_eq_false_iff_ne]; omega
      go_wp2_with (first | (go_at_call 143; (with_reducible refine (Z92 W1 hq1 HNR.out).mono ?_); rintro e w4 ⟨z4, rfl, how4, hb4⟩; obtain ⟨A4, c4, rfl⟩ := how4.value; have hr4 := how4.rel (by decide); have hs4 := jG hs1 hb4) | (go_at_call 144; (with_reducible refine (Y5a w4 hs4 hr4 hgs HNG.out HCS.out).mono ?_); rintro e w5 ⟨z5, rfl, how5, hb5⟩; obtain ⟨A5, c5, rfl⟩ := how5.value) | (at_builtin; refine Z0a (R := rSl rRg) (x := cs) Y1t rfl (.tmp 56) (.tmp 58) rfl rfl ((hown1.below hb4).below hb5) [.slice A5 cs.length c5] rfl rfl (Up (fun _ => False) w4.heap.size) (how5.rel (by decide)) (fun b h _ => HUP.out w4 hb4 b h) HBY.out (nT hbase (hb4.trans (hb5.mono hb4.size)).size) ?_; intro v9 w9 hown9 hb9 _ _))
      go_roundw
      case rel => exact ⟨k + 1, pre ++ [cs], by omega, by go_num, hown9, by simp [hpl], HF, (hb1.trans ((hb4.trans (hb5.mono hb4.size)).mono hb1.size)).trans hb9⟩
      case measure => simp [intOf]; omega
   ·have hca : Z2z ⟨true, rs⟩ s = Z4l s (Z3c rs) := rfl
    generalize hnr : Z3c rs = nr at *
    have HNR := hI hnr
    have HNG : Hid (Z2g nr) := hI (hnr ▸ (Z33 rs).1)
    clear hnr
    generalize hcs : Z4l s nr = cs at *
    have HCS := hI hcs
    have HCA := hI hca
    have hcl2 : cs.length <= 2000002 := hcs ▸ Z1z (Z6s s nr).1
    clear hcs hca
    by_cases hz : cs.length = 0
    ·have HF : Hid (Z1l r all = none) := hI (by rw [HI.out, HAT.out, HCA.out, if_pos hz]; rfl)
     go_wp2_with (first | (go_at_call 143; (with_reducible refine (Z92 W1 hq1 HNR.out).mono ?_); rintro e w4 ⟨z4, rfl, how4, hb4⟩; obtain ⟨A4, c4, rfl⟩ := how4.value; have hr4 := how4.rel (by decide); have hs4 := jG hs1 hb4) | (go_at_call 142; (with_reducible refine (Y5m w4 hs4 hr4 hgs HNG.out HCS.out).mono ?_); rintro e w5 ⟨z5, rfl, how5, hb5⟩; obtain ⟨A5, c5, rfl⟩ := how5.value))
     go_ret2
     exact ⟨_, by rw [HF.out]; rfl, by rw [HF.out]; exact Own.nil _ _ _ _ _, hb1.trans ((hb4.trans (hb5.mono hb4.size)).mono hb1.size)⟩
    ·have HF : Hid (Z1l r all = (Z4p (r.cells.drop (k + 1)) (all.drop (k + 1))).map ((pre ++ [cs]) ++ ·)) := hI (by rw [HI.out, HAT.out, HCA.out, if_neg hz]; simp [jF, Function.comp_def])
     have hz2 : ((cs.length : Int) == 0) = false := by rw [beq_eq_false_iff_ne]; omega
     go_wp2_with (first | (go_at_call 143; (with_reducible refine (Z92 W1 hq1 HNR.out).mono ?_); rintro e w4 ⟨z4, rfl, how4, hb4⟩; obtain ⟨A4, c4, rfl⟩ := how4.value; have hr4 := how4.rel (by decide); have hs4 := jG hs1 hb4) | (go_at_call 142; (with_reducible refine (Y5m w4 hs4 hr4 hgs HNG.out HCS.out).mono ?_); rintro e w5 ⟨z5, rfl, how5, hb5⟩; obtain ⟨A5, c5, rfl⟩ := how5.value) | (at_builtin; refine Z0a (R := rSl rRg) (x := cs) Y1t rfl (.tmp 56) (.tmp 58) rfl rfl ((hown1.below hb4).below hb5) [.slice A5 cs.length c5] rfl rfl (Up (fun _ => False) w4.heap.size) (how5.rel (by decide)) (fun b h _ => HUP.out w4 hb4 b h) HBY.out (nT hbase (hb4.trans (hb5.mono hb4.size)).size) ?_; intro v9 w9 hown9 hb9 _ _))
     go_roundw
     case rel => exact ⟨k + 1, pre ++ [cs], by omega, by go_num, hown9, by simp [hpl], HF, (hb1.trans ((hb4.trans (hb5.mono hb4.size)).mono hb1.size)).trans hb9⟩
     case measure => simp [intOf]; omega
  ·have hke : k = all.length := by omega
   have HF : Hid (Z1l r all = some pre) := hI (by
    rw [HI.out, jB (by rw [HLEN]; omega), jB (by omega)]; simp [Z4p])
   obtain ⟨A9, c9, rfl⟩ := hown.value
   go_wp2
   go_ret2
   exact ⟨_, by rw [HF.out]; rfl, by rw [HF.out]; exact hown, hb⟩
theorem pow3 (k : Nat) (h : k <= 6) : 3 ^ k <= 729 := by
 have : k = 0 \/ k = 1 \/ k = 2 \/ k = 3 \/ k = 4 \/ k = 5 \/ k = 6 := by omega
 rcases this with rfl | rfl | rfl | rfl | rfl | rfl | rfl <;> decide
theorem Y4y {l : List Bx} {k : Nat} {x : Bx} {n : Nat} {i : List Bx} (h : l[k]? = some x) : (l.take (k + 1)).foldl (Z2e n) i = Z2e n ((l.take k).foldl (Z2e n) i) x := by
 rw [Z0b h, List.foldl_append]; rfl
theorem Y7o {S T : Nat -> Prop} {v u : Value} {a : Bx} {l : List Bx} (w : World) (hl : rBx.rel w S [v] a) (hm : (rSl rBx).rel w T [u] l) (hl6 : l.length <= 6) :
  Calls Tryz.prog 122 #[v, u] w fun e w' => ∃ z S', e = .returned z /\ (rSl rBx).rel w' S' [z] (Y0t a l) /\ Below w.heap.size w w' := by
 have hal := rSl.lenle hl (by decide)
 have HG := hI (Z23 (a.length : Int) w hl)
 have hla := hl
 obtain ⟨A, c, rfl, _⟩ := rSl.elems hl
 obtain ⟨B, d, rfl, _, _, _, hF⟩ := rSl.elems hm
 clear hl hm
 cases hg : Z00 a (a.length : Int)
 ·rw [hg] at HG
  have HF : Hid (Y0t a l = []) := hI (by unfold Y0t; rw [hg]; rfl)
  clear hg hla
  go_enter Tryz.func122, Tryz.ntmps122
  go_wp2_with (go_at_call 118; ((with_reducible refine HG.out.mono ?_); rintro e w1 ⟨rfl, hb1⟩))
  go_ret
  exact ⟨_, fun _ => True, rfl, by rw [HF.out]; exact ⟨none, 0, rfl, Nat.le_refl _, by decide, by decide, fun i x hx => by simp at hx⟩, hb1⟩
 rw [hg] at HG
 have HR : Hid (Y0t a l = l.foldl (Z2e a.length) [a]) := hI (by unfold Y0t; rw [hg]; rfl)
 clear hg
 have HLA := hI hla
 clear hla
 go_enter Tryz.func122, Tryz.ntmps122
 go_wp2_with (go_at_call 118; ((with_reducible refine HG.out.mono ?_); rintro e w1 ⟨rfl, hb1⟩; have h1a := Rd.lit1 (R := rBx) (w := w1) (S := S) (x := a) (cells := [.slice A a.length c]) 163 rfl (by decide) (by decide) (jG HLA.out hb1); have hb1a := hb1.alloc hb1.size (.cells #[.slice A a.length c] 163)))
 go_loopw [5, 20] (fun o i wr => ∃ (k : Nat) (out : List Bx) (Ao : Option Addr) (co : Nat), k <= l.length /\ i = .int .i64 k /\ o = .slice Ao out.length co /\ Hid (out.length <= 3 ^ k) /\ Hid (out = (l.take k).foldl (Z2e a.length) [a]) /\ Hid (∃ S9, (rSl rBx).rel wr S9 [.slice Ao out.length co] out) /\ Below w.heap.size w wr) (fun _ i _ => l.length - (intOf i).toNat)
 case atStart => exact ⟨0, [a], _, _, jE _, rfl, rfl, hI (by simp), hI rfl, hI ⟨_, h1a⟩, hb1a⟩
 case round =>
  obtain ⟨k, out, Ao, co, hk, rfl, rfl, HL3, HO, HS, hb⟩ := hrel
  by_cases hlt : k < l.length
  ·obtain ⟨p, off, v, x, rfl, _, hp, hx, hs, h1⟩ := Elems.sl (R := rSl rRg) hF hlt
   rw [<- hb.ce _ hp] at h1
   have hik : (k : Int) < (l.length : Int) := by omega
   have HX := hI (show rBx.rel _ _ _ _ from jG hs hb)
   have HT := hI (Y4y (n := a.length) (i := [a]) hx)
   have hpw := pow3 k (by omega)
   have hol : out.length <= 729 := nT HL3.out hpw
   have HPW : Hid (∀ o : List Bx, o.length <= 3 * out.length -> o.length <= 3 ^ (k + 1)) := hI fun o h => by have := HL3.out; rw [Nat.pow_succ]; omega
   obtain ⟨Av, cv, rfl, _⟩ := rSl.elems hs
   clear hx hs hpw
   cases hgx : Z00 x (a.length : Int)
   ·have hgX := hI hgx
    have HS' : Hid ((l.take (k + 1)).foldl (Z2e a.length) [a] = out) := hI (by rw [HT.out, <- HO.out]; unfold Z2e; rw [hgx]; rfl)
    clear hgx
    go_wp2_with (go_at_call 118; ((with_reducible refine (Z4n _ HX.out hgX.out).mono ?_); rintro e w2 ⟨rfl, hb2⟩))
    go_roundw
    case rel =>
     obtain ⟨So, hSo⟩ := HS.out
     exact ⟨k + 1, out, Ao, co, by omega, by go_num, rfl, hI (HPW.out out (by omega)), hI HS'.out.symm, hI ⟨So, jG hSo hb2⟩, hb.trans (hb2.mono hb.size)⟩
    case measure => simp [intOf]; omega
   ·have hgX := hI hgx
    have HS' : Hid ((l.take (k + 1)).foldl (Z2e a.length) [a] = out.flatMap (Z3r · x)) := hI (by rw [HT.out, <- HO.out]; unfold Z2e; rw [hgx]; rfl)
    clear hgx
    obtain ⟨So, hSo⟩ := HS.out
    have HSo := hI hSo
    clear hSo
    go_wp2_with (go_at_call 118; ((with_reducible refine (Z4n _ HX.out hgX.out).mono ?_); rintro e w2 ⟨rfl, hb2⟩))
    have hb2w := hb.trans (hb2.mono hb.size)
    have HSo2 := hI (show (rSl rBx).rel w2 (fun b => So b /\ b < w2.heap.size) [.slice Ao out.length co] out from (rSl rBx).mono (jG HSo.out hb2) fun b hb hlt => ⟨hb, hlt⟩)
    have HX2 := hI (show rBx.rel w2 _ _ _ from jG HX.out hb2)
    obtain ⟨_, _, _, _, _, _, hE2⟩ := rSl.elems HSo2.out
    clear HSo HX hb2
    go_loopw [8, 31] (fun o i wr => ∃ (j : Nat) (nxt : List Bx), j <= out.length /\ i = .int .i64 j /\ Own rBx 163 wr w2.heap.size (fun b => So b /\ b < w2.heap.size) o nxt /\ Hid (nxt = (out.take j).flatMap (Z3r · x)) /\ Hid (nxt.length <= 3 * j) /\ Below w2.heap.size w2 wr) (fun _ i _ => out.length - (intOf i).toNat)
    case atStart => exact ⟨0, [], jE _, rfl, Own.nil _ _ _ _ _, hI (by simp), hI (by simp), jA _ _⟩
    case round =>
     obtain ⟨j, nxt, hj, rfl, hown, HN, HNL, hb3⟩ := hrel
     by_cases hltj : j < out.length
     ·obtain ⟨q, off', v', y, rfl, _, hq, hy, hs', h2⟩ := Elems.sl (R := rSl rRg) hE2 hltj
      rw [<- hb3.ce _ hq] at h2
      have hij : (j : Int) < (out.length : Int) := by omega
      have HY := hI hy
      have HYR := hI (show rBx.rel wr _ _ _ from jG hs' hb3)
      have HXR := hI (show rBx.rel wr _ _ _ from jG HX2.out hb3)
      obtain ⟨Ay, cy, rfl, _⟩ := rSl.elems hs'
      clear hs' hy
      have hol3 : nxt.length <= 2187 := by have := HNL.out; omega
      have hLL := hI (Y6j y x)
      have hHT : Hid ((out.take (j + 1)).flatMap (Z3r · x) = nxt ++ Z3r y x) := hI (by rw [Z0b HY.out, List.flatMap_append, <- HN.out]; simp)
      generalize hL : Z3r y x = L at *
      have HLE := hI hL
      clear hL
      have hlt8 := hown.lt
      have hsz8 := hb3.size
      have HSS : Hid (∀ b, Up (fun b => So b /\ b < w2.heap.size) wr.heap.size b -> Up (fun b => So b /\ b < w2.heap.size) w2.heap.size b /\ u8.ownBlock ≠ some b) := hI (by
       intro b h
       rcases h with h | h
       ·exact ⟨.inl h, fun e => by have := hlt8 _ e; omega⟩
       ·exact ⟨.inr (nT hsz8 h), fun e => by have := hlt8 _ e; omega⟩)
      have HBY : Hid ((nxt.length + L.length) * rBx.bytes <= 140737488355328) := hI (by have := hLL.out; show (_ + _) * 24 <= _; omega)
      clear hlt8
      go_wp2_with (first | (go_at_call 147; ((with_reducible refine (Y7h wr HYR.out HXR.out HLE.out).mono ?_); rintro e w4 ⟨z4, rfl, how4, hb4⟩; obtain ⟨A4, c4, rfl⟩ := how4.value; have hown4 := hown.below hb4; have hE4 := (how4.elems (by decide) rfl).2)) | (at_builtin; refine Z3l (R := rBx) Y1s rfl (.tmp 35) (.tmp 38) rfl rfl hown4 rfl (Up (fun b => So b /\ b < w2.heap.size) wr.heap.size) rfl hE4 (fun _ _ h => h) (fun b h h' => HSS.out b h) HBY.out (nT hsz8 hb4.size) ?_; intro v5 w5 hown5 hb5 _ _))
      go_roundw
      case rel => exact ⟨j + 1, _, by omega, by go_num, hown5, hI hHT.out.symm, hI (by have := HNL.out; have := hLL.out; rw [jC]; omega), hb3.trans (hb4.mono hsz8) |>.trans hb5⟩
      case measure => simp [intOf]; omega
     ·have hje : j = out.length := by omega
      have HQ : Hid (nxt = (l.take (k + 1)).foldl (Z2e a.length) [a]) := hI (by rw [HN.out, hje, jD, HS'.out])
      have hol3 : nxt.length <= 3 * out.length := by have := HNL.out; omega
      have hown9 := hown
      obtain ⟨A9, c9, rfl⟩ := hown.value
      clear hown hE2
      go_wp2
      go_roundw
      case rel => exact ⟨k + 1, nxt, A9, c9, by omega, by go_num, rfl, hI (HPW.out nxt hol3), hI HQ.out, hI ⟨_, hown9.rel (by decide)⟩, hb2w.trans (hb3.mono hb2w.size)⟩
      case measure => simp [intOf]; omega
  ·have hke : k = l.length := by omega
   have HQ : Hid (Y0t a l = out) := hI (by rw [HR.out, HO.out, hke, jD])
   obtain ⟨S9, hS9⟩ := HS.out
   go_wp2
   go_ret
   exact ⟨_, S9, rfl, by rw [HQ.out]; exact hS9, hb⟩
theorem Y9t {S T : Nat -> Prop} {v u : Value} {a : Bx} {l L : List Bx} (w : World) (hl : rBx.rel w S [v] a) (hm : (rSl rBx).rel w T [u] l) (hl6 : l.length <= 6) (h : Y0t a l = L) :
  Calls Tryz.prog 122 #[v, u] w fun e w' => ∃ z S', e = .returned z /\ (rSl rBx).rel w' S' [z] L /\ Below w.heap.size w w' := h ▸ Y7o w hl hm hl6
