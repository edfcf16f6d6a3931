
/- The contract of Less of boxes. -/
import Derived.Test.YtlopccnehgolnabDoorBoxD
import Derived.BigRegion
import Derived.Deep.RegionWith
import Derived.Deep.DrawnRows
namespace Go.Proofs.YtlopccnehgolnabDoor
open Go.RowKit Rb

attribute [local go_sem ↓] Go.wp_at_zero Go.wp_at_succ

theorem el_RawB : ElemOf Tryd.prog (rRaw 1 24) 39 51 := .mk' Tryd.underlying39 (z := .slice none 0 0) (k := 1) (b := 24) (by kernel_rfl) rfl rfl rfl (by decide) (by decide)

def lessGo : Bx → Bx → Bx → List Bx
  | pre, s :: a, t :: b => (if (lessS s t).length = 0 then [] else [pre ++ lessS s t :: a]) ++ (if (bothS s t).length = 0 then [] else lessGo (pre ++ [bothS s t]) a b)
  | _, _, _ => []
def lessB (a b : Bx) : List Bx := if goodBx a (a.length : Int) && goodBx b (a.length : Int) then lessGo [] a b else []

section
variable {α : Type} {R : Rd α} {e : TypeId} {w : World} {S : Nat → Prop} {v : Value} {xs : List α} {x : α} {base : Nat}
/-- append of one element, just laid; the blocks that the elements are read by are told. -/
theorem run_append_oneS {P : Program} {t ty : TypeId} (hT : ElemOf P R t e) (hown : OwnS R e w base S v xs) {cs : List Value} {S1 : Nat → Prop} (hrel : R.rel w S1 cs x)
    (hS1 : ∀ b, S1 b → b < w.heap.size → v.ownBlock ≠ some b) (hbytes : (xs.length + 1) * R.bytes ≤ 140737488355328) (hbase : base ≤ w.heap.size) :
    ∃ v' w', (Builtin.append_ #[t, t] ty #[v, .slice (some ⟨w.heap.size, 0, none⟩) 1 1]).run P (w.alloc (.cells cs.toArray e)) = .ok v' w' ∧ OwnS R e w' base (fun b => (S b ∨ S1 b) ∧ b < w.heap.size ∧ v.ownBlock ≠ some b) v' (xs ++ [x]) ∧ w.grownBy w' v.ownBlock ∧
      (v'.ownBlock = v.ownBlock ∨ v'.ownBlock = some (w.heap.size + 1)) := by
  obtain ⟨i, z, hi, hz, hsize, hby, hzs⟩ := hT.hi
  have h63 : xs.length + 1 ≤ maxLen := by
    have := Nat.le_mul_of_pos_right (xs.length + 1) hT.hb
    unfold maxLen; omega
  have hal : OwnS R e (w.alloc (.cells cs.toArray e)) base (fun b => S b ∧ b < w.heap.size) v xs := by
    obtain ⟨cells, h1, h2, h3, h4⟩ := hown
    exact ⟨cells, h1.kept (Below.grownBy_ (row := none) ((Below.refl _ _).alloc (Nat.le_refl _) _)) (by cases v.ownBlock <;> simp), fun g hg h => h2 g hg h.1, h3, fun i x hx => R.keep (R.mono (h4 i x hx) fun b hb hlt => ⟨hb, hlt⟩) (.alloc _)⟩
  obtain ⟨cells, h1, h2, h3, h4⟩ := hal
  obtain ⟨v', w', hrun, k1, k2, _, k4⟩ := run_append_own_at (P := P) (w.alloc (.cells cs.toArray e)) base t ty e i z R.k R.bytes hT.ht hi hz hsize hby hzs hT.hk v xs.length cells h1 ⟨w.heap.size, 0, none⟩ 1 1 cs (by rw [Nat.one_mul]; exact R.len hrel) (news_at w cs e) (R.one hrel) h63 hbytes (by simp; omega)
  refine ⟨v', w', hrun, ⟨cells ++ cs, by rw [List.length_append]; exact k1, ?_, fun _ => by rw [List.length_append]; exact hbytes, ?_⟩, ?_, ?_⟩
  · rintro g hg ⟨_, hlt, hne⟩
    rcases k4 with k4 | k4
    · exact hne (k4 ▸ hg)
    · rw [k4] at hg; injection hg with hg; simp at hg; omega
  · intro j y hy
    have hl := h1.1
    obtain ⟨d1, d2⟩ := drop_take_append (k := R.k) hl (R.len hrel) j
    have hK : Keeps (fun b => (S b ∨ S1 b) ∧ b < w.heap.size ∧ v.ownBlock ≠ some b) (w.alloc (.cells cs.toArray e)) w' := .grown k2 fun g hg ⟨_, _, hne⟩ => hne hg
    rcases Nat.lt_or_ge j xs.length with hj | hj
    · rw [d1 hj]
      rw [List.getElem?_append_left hj] at hy
      exact R.keep (R.mono (h4 j y hy) fun b hb hlt => ⟨.inl hb.1, hb.2, fun hg => h2 b hg hb⟩) hK
    · have hj' : j = xs.length := by
        have : j < (xs ++ [x]).length := (List.getElem?_eq_some_iff.1 hy).1
        simp at this; omega
      subst hj'
      rw [d2]
      obtain rfl : x = y := by simpa using hy
      exact R.keep (R.keep (R.mono (S' := fun b => (S b ∨ S1 b) ∧ b < w.heap.size ∧ v.ownBlock ≠ some b) hrel fun b hb hlt => ⟨.inr hb, hlt, hS1 b hb hlt⟩) (.alloc _)) hK
  · exact ⟨k2.os, k2.tape, k2.output, Nat.le_trans (by simp) k2.size, fun j hj hne => (k2.block j (by simp; omega) hne).trans (Below.heap_alloc w _ j hj)⟩
  · simpa using k4

theorem wpList_append_newS {P : Program} {ops : Array Oper} {rest : List Oper} {o : Oper} {a : Act} {Q : Exit → Act → World → Prop} {t : TypeId} (hT : ElemOf P R t e) (hgd : o.guard = none) (s y : Operand)
    (ho : o.op = .call { callee := .builtin .append, args := #[s, y], argTypes := #[t, t] })
    (hs : a.eval s = v) (hown : OwnS R e w base S v xs) (cs : List Value) {n : Nat} (hx : a.eval y = .slice (some ⟨n, 0, none⟩) 1 1) (hn : w.heap.size = n) (S1 : Nat → Prop) (hrel : R.rel w S1 cs x)
    (hS1 : ∀ b, S1 b → b < w.heap.size → v.ownBlock ≠ some b) (hbytes : (xs.length + 1) * R.bytes ≤ 140737488355328) (hbase : base ≤ w.heap.size)
    (h : ∀ v' w', OwnS R e w' base (fun b => (S b ∨ S1 b) ∧ b < w.heap.size ∧ v.ownBlock ≠ some b) v' (xs ++ [x]) → w.grownBy w' v.ownBlock → (v'.ownBlock = v.ownBlock ∨ v'.ownBlock = some (w.heap.size + 1)) → wpList P ops Q rest (a.put o.dst v') w') :
    wpList P ops Q (o :: rest) a (w.alloc (.cells cs.toArray e)) := by
  subst hn
  obtain ⟨v', w', hr, h2, h3, h4⟩ := run_append_oneS (P := P) (t := t) (ty := o.type) hT hown hrel hS1 hbytes hbase
  refine wpList_plain hgd fun K hK => ?_
  unfold Oper.wp execOp
  simp only [ho, resolve, invoke, builtin, Sem.run_bind, Sem.run_pure, Result.andThen_ok, List.map_toArray, List.map_cons, List.map_nil, hs, hx, hr]
  exact hK _ _ (h v' w' h2 h3 h4)

theorem OwnS.value (h : OwnS R e w base S v xs) : ∃ A c, v = .slice A xs.length c := Own.value (R := R) (e := e) (w := w) (base := base) (S0 := S) ⟨S, h, fun _ hb => .inl hb⟩
theorem OwnS.lt (h : OwnS R e w base S v xs) : ∀ k, v.ownBlock = some k → base ≤ k ∧ k < w.heap.size := Own.lt (R := R) (e := e) (w := w) (base := base) (S0 := S) (v := v) (xs := xs) ⟨S, h, fun _ hb => .inl hb⟩
theorem OwnS.nil (R : Rd α) (e : TypeId) (w : World) (base : Nat) (S : Nat → Prop) : OwnS R e w base S (.slice none 0 0) [] :=
  ⟨[], World.ownsRow_nil w base e R.k, fun g hg => by simp [Value.ownBlock] at hg, fun _ => by simp, fun i x h => by simp at h⟩
theorem OwnS.below {w' : World} (h : OwnS R e w base S v xs) (hb : Below w.heap.size w w') : OwnS R e w' base S v xs := h.kept (Below.grownBy_ (row := none) hb) (by cases v.ownBlock <;> simp) (fun _ h => by cases h)
end

/-- A row of cells and the sets that they read as: a box. -/
theorem box_of_raw {w : World} {base : Nat} {v : Value} {raws : List (List Value)} {b : Bx} {S : Nat → Prop} (h : Own (rRaw 1 24) 51 w base (fun _ => False) v raws) (hl : raws.length = b.length)
    (hr : ∀ (i : Nat) p x, raws[i]? = some p → b[i]? = some x → (rSl rRg).rel w S p x) : rBx.rel w (fun x => S x ∨ v.ownBlock = some x) [v] b := by
  obtain ⟨A, c, hv, h1, h2, h3, h4⟩ := h.rel (by decide)
  simp only [List.cons.injEq, and_true] at hv
  refine ⟨A, c, by rw [hv, hl], by omega, h2, by rw [← hl]; exact h3, ?_⟩
  have hE : Elems (rRaw (rSl rRg).k (rSl rRg).bytes) w (fun x => v.ownBlock = some x) A raws := by
    intro i x hx
    obtain ⟨g, off, es, hA, hS, hb, hrr, hc⟩ := h4 i x hx
    exact ⟨g, off, es, hA, by rw [hv, hA]; rfl, hb, hrr, hc⟩
  exact Elems.unraw hE hl hr

theorem raws_set {w w' : World} {raws : List (List Value)} {l : Bx} {S S' : Nat → Prop} {k : Nat} {z : Value} {s : List Rg} (hk : k < raws.length) (h : ∀ (i : Nat) p x, raws[i]? = some p → l[i]? = some x → (rSl rRg).rel w S p x) (hK : ∀ cs x, (rSl rRg).rel w S cs x → (rSl rRg).rel w' S' cs x) (hz : (rSl rRg).rel w' S' [z] s) (hl : raws.length = l.length) :
    ∀ (i : Nat) p x, (raws.set k [z])[i]? = some p → (l.set k s)[i]? = some x → (rSl rRg).rel w' S' p x := by
  intro i p x hp hx
  by_cases hi : i = k
  · subst hi
    rw [List.getElem?_set_self hk] at hp
    rw [List.getElem?_set_self (by omega)] at hx
    rw [← Option.some.inj hp, ← Option.some.inj hx]
    exact hz
  · rw [List.getElem?_set_ne (by omega)] at hp
    rw [List.getElem?_set_ne (by omega)] at hx
    exact hK _ _ (h i p x hp hx)
/-- A cell of a row of cells. -/
theorem own_cell {w : World} {base g n c k : Nat} {raws : List (List Value)} {x : Value} {e : TypeId} (h : Own (rRaw 1 24) e w base (fun _ => False) (.slice (some ⟨g, 0, none⟩) n c) raws) (hx : raws[k]? = some [x]) : w.cell? ⟨g, k, none⟩ = some x := by
  obtain ⟨_, hE9⟩ := h.elems (by decide) rfl
  obtain ⟨b9, o9, es, hA9, _, _, ⟨he, _, _⟩, hc⟩ := hE9 k _ hx
  obtain ⟨rfl, rfl⟩ : g = b9 ∧ 0 = o9 := by simpa using hA9
  subst he
  have := hc 0 x rfl
  have e : 0 + k * (rRaw 1 24).k + 0 = k := by show 0 + k * 1 + 0 = k; omega
  rwa [e] at this
theorem pre_set {pre a : Bx} {k : Nat} {s s' : List Rg} (hp : pre.length = k) (h : a[k]? = some s) : (pre ++ a.drop k).set k s' = pre ++ s' :: a.drop (k + 1) := by
  rw [drop_cons h, List.set_append_right _ _ (by omega), hp, Nat.sub_self]; rfl

/-- What holds of Less's loop: the rest as a row of cells, the boxes that are left so far, the blocks that both are read by. -/
structure LessI (w : World) (S : Nat → Prop) (a b : Bx) (gr cz k m : Nat) (wr : World) (o : Value) (pre : Bx) (out : List Bx) (raws : List (List Value)) (S1 : Nat → Prop) (rs : List Bx) : Prop where
  hp : pre.length = k
  ho : out.length ≤ m
  hn : raws.length = a.length
  row : Own (rRaw 1 24) 51 wr w.heap.size (fun _ => False) (.slice (some ⟨gr, 0, none⟩) a.length cz) raws
  rd : ∀ (i : Nat) p x, raws[i]? = some p → (pre ++ a.drop k)[i]? = some x → (rSl rRg).rel wr S1 p x
  own : OwnS rBx 39 wr w.heap.size S1 o out
  ngr : ¬ S1 gr
  lt : ∀ b, S1 b → b < wr.heap.size ∧ Up S w.heap.size b
  ogr : o.ownBlock ≠ some gr
  grl : w.heap.size ≤ gr ∧ gr < wr.heap.size
  res : lessB a b = out ++ rs
  below : Below w.heap.size w wr

section
variable {w : World} {S : Nat → Prop} {a b : Bx} {gr cz k m : Nat} {wr : World} {o : Value} {pre : Bx} {out : List Bx} {raws : List (List Value)} {S1 : Nat → Prop} {rs : List Bx}

theorem LessI.keepB (I : LessI w S a b gr cz k m wr o pre out raws S1 rs) {w' : World} (hb : Below wr.heap.size wr w') : LessI w S a b gr cz k m w' o pre out raws S1 rs where
  hp := I.hp
  ho := I.ho
  hn := I.hn
  row := I.row.below hb
  rd := fun i p x hp hx => Rd.below (I.rd i p x hp hx) hb
  own := I.own.below hb
  ngr := I.ngr
  lt := fun b h => ⟨Nat.lt_of_lt_of_le (I.lt b h).1 hb.size, (I.lt b h).2⟩
  ogr := I.ogr
  grl := ⟨I.grl.1, Nat.lt_of_lt_of_le I.grl.2 hb.size⟩
  res := I.res
  below := I.below.trans (hb.mono I.below.size)

theorem LessI.again (I : LessI w S a b gr cz k m wr o pre out raws S1 rs) {rs' : List Bx} (h : rs = rs') : LessI w S a b gr cz k m wr o pre out raws S1 rs' := h ▸ I

theorem LessI.push (I : LessI w S a b gr cz k m wr o pre out raws S1 rs) {w6 w7 : World} {o' : Value} {S2 : Nat → Prop} {x : Bx} {rs' : List Bx} (hb : Below wr.heap.size wr w6) (hown : OwnS rBx 39 w7 w.heap.size (fun b => (S1 b ∨ S2 b) ∧ b < w6.heap.size ∧ o.ownBlock ≠ some b) o' (out ++ [x]))
    (hg : w6.grownBy w7 o.ownBlock) (ho' : o'.ownBlock = o.ownBlock ∨ o'.ownBlock = some (w6.heap.size + 1)) (hS2 : ∀ b, S2 b → b ≠ gr ∧ (S1 b ∨ wr.heap.size ≤ b)) (hres : rs = x :: rs') :
    LessI w S a b gr cz k (m + 1) w7 o' pre (out ++ [x]) raws (fun b => (S1 b ∨ S2 b) ∧ b < w6.heap.size ∧ o.ownBlock ≠ some b) rs' := by
  have I6 := I.keepB hb
  have hno : ∀ g, o.ownBlock = some g → ¬ S1 g := fun g hg => by obtain ⟨_, _, h2, _⟩ := I.own; exact h2 g hg
  refine ⟨I.hp, by have := I.ho; simp; omega, I.hn, I6.row.keptF (flat_Raw 1 24) hg (.inr fun e => I.ogr (by rw [← e]; rfl)), fun i p x hp hx => ?_, hown, fun h => ?_, fun b h => ?_, ?_, ⟨I.grl.1, Nat.lt_of_lt_of_le I6.grl.2 hg.size⟩, by rw [I.res, hres]; simp, ?_⟩
  · refine (rSl rRg).keep ((rSl rRg).mono (I6.rd i p x hp hx) (S' := fun b => (S1 b ∨ S2 b) ∧ b < w6.heap.size ∧ o.ownBlock ≠ some b) fun b hb hlt => ⟨.inl hb, hlt, fun e => hno b e hb⟩) (.grown hg fun g hg' h => h.2.2 hg')
  · rcases h.1 with h1 | h1
    · exact I.ngr h1
    · exact (hS2 gr h1).1 rfl
  · refine ⟨Nat.lt_of_lt_of_le h.2.1 hg.size, ?_⟩
    rcases h.1 with h1 | h1
    · exact (I.lt b h1).2
    · rcases (hS2 b h1).2 with h2 | h2
      · exact (I.lt b h2).2
      · exact .inr (Nat.le_trans I.below.size h2)
  · rcases ho' with h | h
    · rw [h]; exact I.ogr
    · rw [h]; intro e; injection e with e; have := I6.grl.2; omega
  · exact I6.below.trans ((Below.refl w.heap.size w6).grown hg I6.below.size fun k hk => (I.own.lt k hk).1)
theorem LessI.step (I : LessI w S a b gr cz k m wr o pre out raws S1 rs) (hk : k < a.length) {w8 : World} {z : Value} {s2 : List Rg} (hb : Below wr.heap.size wr w8) (hz : (rSl rRg).rel w8 (Up (fun _ => False) wr.heap.size) [z] s2) :
    LessI w S a b gr cz (k + 1) m (w8.setCell ⟨gr, k, none⟩ z) o (pre ++ [s2]) out (raws.set k [z]) (fun b => S1 b ∨ (wr.heap.size ≤ b ∧ b < w8.heap.size)) rs := by
  have I8 := I.keepB hb
  have hx : a[k]? = some a[k] := List.getElem?_eq_getElem hk
  have hkr : k < raws.length := by rw [I.hn]; exact hk
  have hn8 : ¬ (S1 gr ∨ (wr.heap.size ≤ gr ∧ gr < w8.heap.size)) := by
    rintro (h | h)
    · exact I.ngr h
    · have := I.grl.2; omega
  have hg := grownS w8 ⟨gr, k, none⟩ z
  have hone : z.oneCell' = true := (rSl rRg).one hz z (by simp)
  refine ⟨by simp [I.hp], I.ho, by simp [I.hn], ?_, ?_, ?_, hn8, fun b h => ?_, I.ogr, ⟨I.grl.1, by simpa using I8.grl.2⟩, I.res, I8.below.setCell I.grl.1 _⟩
  · have h1 := I8.row.set (x' := [z]) (u := z) (i := k) (j := 0) (g := gr) (cap := cz) (by rw [I.hn]) hkr (by decide : 0 < 1) (fun es S hr => by
      obtain ⟨rfl, hl1, _⟩ := hr
      have hl1' : raws[k].length = 1 := hl1
      generalize raws[k] = p at *
      match p, hl1' with
      | [q], _ => exact ⟨rfl, rfl, fun u hu => by simp at hu; subst hu; exact hone⟩)
    have e : k * (rRaw 1 24).k + 0 = k := by show k * 1 + 0 = k; omega
    rw [e] at h1
    exact h1
  · have hl : raws.length = (pre ++ a.drop k).length := by rw [I.hn, List.length_append, I.hp, List.length_drop]; omega
    have h1 := raws_set (s := s2) (z := z) (S' := fun b => S1 b ∨ (wr.heap.size ≤ b ∧ b < w8.heap.size)) (w' := w8.setCell ⟨gr, k, none⟩ z) hkr I8.rd
      (fun cs x h => (rSl rRg).keep ((rSl rRg).mono h fun b hb _ => .inl hb) (.grown hg fun g hg' h => by cases hg'; exact hn8 h))
      ((rSl rRg).keep ((rSl rRg).mono hz (S' := fun b => S1 b ∨ (wr.heap.size ≤ b ∧ b < w8.heap.size)) fun b hb hlt => by rcases hb with h | h; exact h.elim; exact .inr ⟨h, hlt⟩) (.grown hg fun g hg' h => by cases hg'; exact hn8 h)) hl
    rw [pre_set I.hp hx] at h1
    simpa using h1
  · have h1 := I8.own.kept hg (.inr I.ogr) (fun g hg' h => by cases hg'; exact I.ngr h)
    obtain ⟨cells, k1, k2, k3, k4⟩ := h1
    exact ⟨cells, k1, fun g hg' h => by
      rcases h with h | h
      · exact k2 g hg' h
      · have := (I.own.lt g hg').2; omega, k3, fun i x hx => rBx.mono (k4 i x hx) fun b hb _ => .inl hb⟩
  · rcases h with h | h
    · exact ⟨by simpa using (I8.lt b h).1, (I.lt b h).2⟩
    · exact ⟨by simpa using h.2, .inr (Nat.le_trans I.below.size h.1)⟩
theorem LessI.box (I : LessI w S a b gr cz k m wr o pre out raws S1 rs) (hk : k < a.length) {s ls : List Rg} (hx : a[k]? = some s) {w4 w5 : World} {z : Value} {gx cx : Nat} (hb4 : Below wr.heap.size wr w4) (hz4 : (rSl rRg).rel w4 (Up (fun _ => False) wr.heap.size) [z] ls)
    (hox : Own (rRaw 1 24) 51 w5 w4.heap.size (fun _ => False) (.slice (some ⟨gx, 0, none⟩) a.length cx) raws) (hb5 : Below w4.heap.size w4 w5) (hgx : w4.heap.size ≤ gx) :
    Below wr.heap.size wr (w5.setCell ⟨gx, k, none⟩ z) ∧ rBx.rel (w5.setCell ⟨gx, k, none⟩ z) (fun x => (S1 x ∨ (wr.heap.size ≤ x ∧ x < w4.heap.size)) ∨ x = gx) [.slice (some ⟨gx, 0, none⟩) a.length cx] (pre ++ ls :: a.drop (k + 1)) := by
  have hkr : k < raws.length := by rw [I.hn]; exact hk
  have hone : z.oneCell' = true := (rSl rRg).one hz4 z (by simp)
  have hb45 : Below wr.heap.size wr w5 := hb4.trans (hb5.mono hb4.size)
  have hb6 : Below wr.heap.size wr (w5.setCell ⟨gx, k, none⟩ z) := hb45.setCell (Nat.le_trans hb4.size hgx) _
  refine ⟨hb6, ?_⟩
  have h1 := hox.set (x' := [z]) (u := z) (i := k) (j := 0) (g := gx) (cap := cx) (by rw [I.hn]) hkr (by decide : 0 < 1) (fun es S hr => by
      obtain ⟨rfl, hl1, _⟩ := hr
      have hl1' : raws[k].length = 1 := hl1
      generalize raws[k] = p at *
      match p, hl1' with
      | [q], _ => exact ⟨rfl, rfl, fun u hu => by simp at hu; subst hu; exact hone⟩)
  have e : k * (rRaw 1 24).k + 0 = k := by show k * 1 + 0 = k; omega
  rw [e] at h1
  have hl : raws.length = (pre ++ a.drop k).length := by rw [I.hn, List.length_append, I.hp, List.length_drop]; omega
  have hzz : (rSl rRg).rel (w5.setCell ⟨gx, k, none⟩ z) (fun x => S1 x ∨ (wr.heap.size ≤ x ∧ x < w4.heap.size)) [z] ls := by
    have h2 := (rSl rRg).mono hz4 (S' := fun x => wr.heap.size ≤ x ∧ x < w4.heap.size) fun x hx hlt => by
      rcases hx with h | h
      · exact h.elim
      · exact ⟨h, hlt⟩
    exact (rSl rRg).mono ((rSl rRg).keep (Rd.below h2 hb5) (.setCell (by show ¬ (wr.heap.size ≤ gx ∧ gx < w4.heap.size); omega) _)) fun x hx _ => .inr hx
  have h3 := raws_set (s := ls) (z := z) (S' := fun x => S1 x ∨ (wr.heap.size ≤ x ∧ x < w4.heap.size)) (w' := w5.setCell ⟨gx, k, none⟩ z) hkr I.rd (fun cs x h => (rSl rRg).mono (Rd.below h hb6) fun x hx _ => .inl hx) hzz hl
  rw [pre_set I.hp hx] at h3
  have h4 := box_of_raw h1 (by rw [List.length_set, hl, ← pre_set I.hp hx (s' := ls), List.length_set]) h3
  refine rBx.mono h4 fun x hx _ => ?_
  rcases hx with h | h
  · exact .inl h
  · simp [Value.ownBlock] at h; exact .inr h.symm
end

end Go.Proofs.YtlopccnehgolnabDoor
