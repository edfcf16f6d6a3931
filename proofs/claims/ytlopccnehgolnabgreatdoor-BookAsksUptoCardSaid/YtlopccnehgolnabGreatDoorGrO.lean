/- The contract of Less of boxes. Contracts of boxes (does box answer at all), count. Plain laws of boxes: what Less and Rest leave, counted and measured. -/
import Derived.Test.YtlopccnehgolnabGreatDoorGrN
import Derived.BigRegion
import Derived.Deep.RegionWith
import Derived.Deep.DrawnRows
import Derived.Deep.RegionHeld3
namespace Go.Proofs.YtlopccnehgolnabGreatDoor
open Go.RowKit Rb

attribute [local go_sem ↓] Go.wp_at_zero Go.wp_at_succ

theorem el_RawB : ElemOf Tryz.prog (rRaw 1 24) 59 95 := .mk' Tryz.underlying59 (z := .slice none 0 0) (k := 1) (b := 24) (by kernel_rfl) rfl rfl rfl (by decide) (by decide)

/-- Clone, cell by cell. -/
theorem CloneR_any {S : Nat → Prop} {A : Option Addr} {c : Nat} {b : List (List Value)} (w : World) (hE : Elems (rRaw 1 24) w S A b) (hbb' : b.length ≤ 5864062014805) :
    Calls Tryz.prog 152 #[.slice A b.length c] w fun e w' => ∃ z, e = .returned z ∧ Own (rRaw 1 24) 95 w' w.heap.size (fun _ => False) z b ∧ Below w.heap.size w w' := by
  have hq := fun (w : World) (a : Option Addr) (n c : Nat) => Lib.run_eql_slice_nil (P := Tryz.prog) w 59 95 a n c 0 0 Tryz.underlying59
  rcases A with _ | a
  · have hb0 : b = [] := by
      cases b with
      | nil => rfl
      | cons x t =>
        obtain ⟨_, _, _, h, _⟩ := hE 0 x rfl
        cases h
    subst hb0
    go_enter Tryz.func152, Tryz.ntmps152
    go_wp2
    go_ret
    exact ⟨_, rfl, Own.nil _ _ _ _ _, Below.refl _ _⟩
  · have hE3 : Elems (rRaw 1 24) (w.alloc (.cells #[] 95)) S (some a) b := hE.keep (Keeps.alloc _)
    clear hE
    go_enter Tryz.func152, Tryz.ntmps152
    go_wp2_with (first | (at_builtin; go_must (refine wpList_append_many (R := rRaw 1 24) (v := .slice (some ⟨w.heap.size, 0, none⟩) 0 0) (S0 := fun _ => False) el_RawB rfl (.tmp 5) (.tmp 6) rfl rfl (Own.empty (rRaw 1 24) 95 w _ rfl) rfl (fun _ => False) rfl hE3 (fun _ _ h => h) (fun _ h => h.elim) ?_ (by simp) ?_); (simp only [rRaw, List.length_nil]; omega); intro v1 w1 hown1 hb1 _ _; obtain ⟨A3, c3, rfl⟩ := hown1.value; simp only [List.nil_append] at hown1))
    go_ret
    exact ⟨_, rfl, hown1, ((Below.refl _ _).alloc (Nat.le_refl _) _).trans hb1⟩

def lessGo : Bx → Bx → Bx → List Bx
  | pre, s :: a, t :: b => (if (lessS s t).length = 0 then [] else [pre ++ lessS s t :: a]) ++ (if (bothS s t).length = 0 then [] else lessGo (pre ++ [bothS s t]) a b)
  | _, _, _ => []
def lessB (a b : Bx) : List Bx := if goodBx a (a.length : Int) && goodBx b (a.length : Int) then lessGo [] a b else []

section
variable {α : Type} {R : Rd α} {e : TypeId} {w : World} {S : Nat → Prop} {v : Value} {xs : List α} {x : α} {base : Nat}
/-- append of one element, just laid; the blocks that the elements are read by are told. -/
theorem run_append_oneS {P : Program} {t ty : TypeId} (hT : ElemOf P R t e) (hown : OwnS R e w base S v xs) {cs : List Value} {S1 : Nat → Prop} (hrel : R.rel w S1 cs x)
    (hS1 : ∀ b, S1 b → b < w.heap.size → v.ownBlock ≠ some b) (hbytes : (xs.length + 1) * R.bytes ≤ 140737488355328) (hbase : base ≤ w.heap.size) :
    ∃ v' w', (Builtin.append_ #[t, t] ty #[v, .slice (some ⟨w.heap.size, 0, none⟩) 1 1]).run P (w.alloc (.cells cs.toArray e)) = .ok v' w' ∧ OwnS R e w' base (fun b => (S b ∨ S1 b) ∧ b < w.heap.size ∧ v.ownBlock ≠ some b) v' (xs ++ [x]) ∧ w.grownBy w' v.ownBlock ∧
      (v'.ownBlock = v.ownBlock ∨ v'.ownBlock = some (w.heap.size + 1)) := by
  obtain ⟨i, z, hi, hz, hsize, hby, hzs⟩ := hT.hi
  have h63 : xs.length + 1 ≤ maxLen := by
    have := Nat.le_mul_of_pos_right (xs.length + 1) hT.hb
    unfold maxLen; omega
  have hal : OwnS R e (w.alloc (.cells cs.toArray e)) base (fun b => S b ∧ b < w.heap.size) v xs := by
    obtain ⟨cells, h1, h2, h3, h4⟩ := hown
    exact ⟨cells, h1.kept (Below.grownBy_ (row := none) ((Below.refl _ _).alloc (Nat.le_refl _) _)) (by cases v.ownBlock <;> simp), fun g hg h => h2 g hg h.1, h3, fun i x hx => R.keep (R.mono (h4 i x hx) fun b hb hlt => ⟨hb, hlt⟩) (.alloc _)⟩
  obtain ⟨cells, h1, h2, h3, h4⟩ := hal
  obtain ⟨v', w', hrun, k1, k2, _, k4⟩ := run_append_own_at (P := P) (w.alloc (.cells cs.toArray e)) base t ty e i z R.k R.bytes hT.ht hi hz hsize hby hzs hT.hk v xs.length cells h1 ⟨w.heap.size, 0, none⟩ 1 1 cs (by rw [Nat.one_mul]; exact R.len hrel) (news_at w cs e) (R.one hrel) h63 hbytes (by simp; omega)
  refine ⟨v', w', hrun, ⟨cells ++ cs, by rw [List.length_append]; exact k1, ?_, fun _ => by rw [List.length_append]; exact hbytes, ?_⟩, ?_, ?_⟩
  · rintro g hg ⟨_, hlt, hne⟩
    rcases k4 with k4 | k4
    · exact hne (k4 ▸ hg)
    · rw [k4] at hg; injection hg with hg; simp at hg; omega
  · intro j y hy
    have hl := h1.1
    obtain ⟨d1, d2⟩ := drop_take_append (k := R.k) hl (R.len hrel) j
    have hK : Keeps (fun b => (S b ∨ S1 b) ∧ b < w.heap.size ∧ v.ownBlock ≠ some b) (w.alloc (.cells cs.toArray e)) w' := .grown k2 fun g hg ⟨_, _, hne⟩ => hne hg
    rcases Nat.lt_or_ge j xs.length with hj | hj
    · rw [d1 hj]
      rw [List.getElem?_append_left hj] at hy
      exact R.keep (R.mono (h4 j y hy) fun b hb hlt => ⟨.inl hb.1, hb.2, fun hg => h2 b hg hb⟩) hK
    · have hj' : j = xs.length := by
        have : j < (xs ++ [x]).length := (List.getElem?_eq_some_iff.1 hy).1
        simp at this; omega
      subst hj'
      rw [d2]
      obtain rfl : x = y := by simpa using hy
      exact R.keep (R.keep (R.mono (S' := fun b => (S b ∨ S1 b) ∧ b < w.heap.size ∧ v.ownBlock ≠ some b) hrel fun b hb hlt => ⟨.inr hb, hlt, hS1 b hb hlt⟩) (.alloc _)) hK
  · exact ⟨k2.os, k2.tape, k2.output, Nat.le_trans (by simp) k2.size, fun j hj hne => (k2.block j (by simp; omega) hne).trans (Below.heap_alloc w _ j hj)⟩
  · simpa using k4

theorem wpList_append_newS {P : Program} {ops : Array Oper} {rest : List Oper} {o : Oper} {a : Act} {Q : Exit → Act → World → Prop} {t : TypeId} (hT : ElemOf P R t e) (hgd : o.guard = none) (s y : Operand)
    (ho : o.op = .call { callee := .builtin .append, args := #[s, y], argTypes := #[t, t] })
    (hs : a.eval s = v) (hown : OwnS R e w base S v xs) (cs : List Value) {n : Nat} (hx : a.eval y = .slice (some ⟨n, 0, none⟩) 1 1) (hn : w.heap.size = n) (S1 : Nat → Prop) (hrel : R.rel w S1 cs x)
    (hS1 : ∀ b, S1 b → b < w.heap.size → v.ownBlock ≠ some b) (hbytes : (xs.length + 1) * R.bytes ≤ 140737488355328) (hbase : base ≤ w.heap.size)
    (h : ∀ v' w', OwnS R e w' base (fun b => (S b ∨ S1 b) ∧ b < w.heap.size ∧ v.ownBlock ≠ some b) v' (xs ++ [x]) → w.grownBy w' v.ownBlock → (v'.ownBlock = v.ownBlock ∨ v'.ownBlock = some (w.heap.size + 1)) → wpList P ops Q rest (a.put o.dst v') w') :
    wpList P ops Q (o :: rest) a (w.alloc (.cells cs.toArray e)) := by
  subst hn
  obtain ⟨v', w', hr, h2, h3, h4⟩ := run_append_oneS (P := P) (t := t) (ty := o.type) hT hown hrel hS1 hbytes hbase
  refine wpList_plain hgd fun K hK => ?_
  unfold Oper.wp execOp
  simp only [ho, resolve, invoke, builtin, Sem.run_bind, Sem.run_pure, Result.andThen_ok, List.map_toArray, List.map_cons, List.map_nil, hs, hx, hr]
  exact hK _ _ (h v' w' h2 h3 h4)

theorem OwnS.value (h : OwnS R e w base S v xs) : ∃ A c, v = .slice A xs.length c := Own.value (R := R) (e := e) (w := w) (base := base) (S0 := S) ⟨S, h, fun _ hb => .inl hb⟩
theorem OwnS.lt (h : OwnS R e w base S v xs) : ∀ k, v.ownBlock = some k → base ≤ k ∧ k < w.heap.size := Own.lt (R := R) (e := e) (w := w) (base := base) (S0 := S) (v := v) (xs := xs) ⟨S, h, fun _ hb => .inl hb⟩
theorem OwnS.nil (R : Rd α) (e : TypeId) (w : World) (base : Nat) (S : Nat → Prop) : OwnS R e w base S (.slice none 0 0) [] :=
  ⟨[], World.ownsRow_nil w base e R.k, fun g hg => by simp [Value.ownBlock] at hg, fun _ => by simp, fun i x h => by simp at h⟩
theorem OwnS.below {w' : World} (h : OwnS R e w base S v xs) (hb : Below w.heap.size w w') : OwnS R e w' base S v xs := h.kept (Below.grownBy_ (row := none) hb) (by cases v.ownBlock <;> simp) (fun _ h => by cases h)
end

/-- A row of cells and the sets that they read as: a box. -/
theorem box_of_raw {w : World} {base : Nat} {v : Value} {raws : List (List Value)} {b : Bx} {S : Nat → Prop} (h : Own (rRaw 1 24) 95 w base (fun _ => False) v raws) (hl : raws.length = b.length)
    (hr : ∀ (i : Nat) p x, raws[i]? = some p → b[i]? = some x → (rSl rRg).rel w S p x) : rBx.rel w (fun x => S x ∨ v.ownBlock = some x) [v] b := by
  obtain ⟨A, c, hv, h1, h2, h3, h4⟩ := h.rel (by decide)
  simp only [List.cons.injEq, and_true] at hv
  refine ⟨A, c, by rw [hv, hl], by omega, h2, by rw [← hl]; exact h3, ?_⟩
  have hE : Elems (rRaw (rSl rRg).k (rSl rRg).bytes) w (fun x => v.ownBlock = some x) A raws := by
    intro i x hx
    obtain ⟨g, off, es, hA, hS, hb, hrr, hc⟩ := h4 i x hx
    exact ⟨g, off, es, hA, by rw [hv, hA]; rfl, hb, hrr, hc⟩
  exact Elems.unraw hE hl hr

theorem raws_set {w w' : World} {raws : List (List Value)} {l : Bx} {S S' : Nat → Prop} {k : Nat} {z : Value} {s : List Rg} (hk : k < raws.length) (h : ∀ (i : Nat) p x, raws[i]? = some p → l[i]? = some x → (rSl rRg).rel w S p x) (hK : ∀ cs x, (rSl rRg).rel w S cs x → (rSl rRg).rel w' S' cs x) (hz : (rSl rRg).rel w' S' [z] s) (hl : raws.length = l.length) :
    ∀ (i : Nat) p x, (raws.set k [z])[i]? = some p → (l.set k s)[i]? = some x → (rSl rRg).rel w' S' p x := by
  intro i p x hp hx
  by_cases hi : i = k
  · subst hi
    rw [List.getElem?_set_self hk] at hp
    rw [List.getElem?_set_self (by omega)] at hx
    rw [← Option.some.inj hp, ← Option.some.inj hx]
    exact hz
  · rw [List.getElem?_set_ne (by omega)] at hp
    rw [List.getElem?_set_ne (by omega)] at hx
    exact hK _ _ (h i p x hp hx)
/-- A cell of a row of cells. -/
theorem own_cell {w : World} {base g n c k : Nat} {raws : List (List Value)} {x : Value} {e : TypeId} (h : Own (rRaw 1 24) e w base (fun _ => False) (.slice (some ⟨g, 0, none⟩) n c) raws) (hx : raws[k]? = some [x]) : w.cell? ⟨g, k, none⟩ = some x := by
  obtain ⟨_, hE9⟩ := h.elems (by decide) rfl
  obtain ⟨b9, o9, es, hA9, _, _, ⟨he, _, _⟩, hc⟩ := hE9 k _ hx
  obtain ⟨rfl, rfl⟩ : g = b9 ∧ 0 = o9 := by simpa using hA9
  subst he
  have := hc 0 x rfl
  have e : 0 + k * (rRaw 1 24).k + 0 = k := by show 0 + k * 1 + 0 = k; omega
  rwa [e] at this
theorem pre_set {pre a : Bx} {k : Nat} {s s' : List Rg} (hp : pre.length = k) (h : a[k]? = some s) : (pre ++ a.drop k).set k s' = pre ++ s' :: a.drop (k + 1) := by
  rw [drop_cons h, List.set_append_right _ _ (by omega), hp, Nat.sub_self]; rfl

/-- What holds of Less's loop: the rest as a row of cells, the boxes that are left so far, the blocks that both are read by. -/
structure LessI (w : World) (S : Nat → Prop) (a b : Bx) (gr cz k m : Nat) (wr : World) (o : Value) (pre : Bx) (out : List Bx) (raws : List (List Value)) (S1 : Nat → Prop) (rs : List Bx) : Prop where
  hp : pre.length = k
  ho : out.length ≤ m
  hn : raws.length = a.length
  row : Own (rRaw 1 24) 95 wr w.heap.size (fun _ => False) (.slice (some ⟨gr, 0, none⟩) a.length cz) raws
  rd : ∀ (i : Nat) p x, raws[i]? = some p → (pre ++ a.drop k)[i]? = some x → (rSl rRg).rel wr S1 p x
  own : OwnS rBx 59 wr w.heap.size S1 o out
  ngr : ¬ S1 gr
  lt : ∀ b, S1 b → b < wr.heap.size ∧ Up S w.heap.size b
  ogr : o.ownBlock ≠ some gr
  grl : w.heap.size ≤ gr ∧ gr < wr.heap.size
  res : lessB a b = out ++ rs
  below : Below w.heap.size w wr

section
variable {w : World} {S : Nat → Prop} {a b : Bx} {gr cz k m : Nat} {wr : World} {o : Value} {pre : Bx} {out : List Bx} {raws : List (List Value)} {S1 : Nat → Prop} {rs : List Bx}

theorem LessI.keepB (I : LessI w S a b gr cz k m wr o pre out raws S1 rs) {w' : World} (hb : Below wr.heap.size wr w') : LessI w S a b gr cz k m w' o pre out raws S1 rs where
  hp := I.hp
  ho := I.ho
  hn := I.hn
  row := I.row.below hb
  rd := fun i p x hp hx => Rd.below (I.rd i p x hp hx) hb
  own := I.own.below hb
  ngr := I.ngr
  lt := fun b h => ⟨Nat.lt_of_lt_of_le (I.lt b h).1 hb.size, (I.lt b h).2⟩
  ogr := I.ogr
  grl := ⟨I.grl.1, Nat.lt_of_lt_of_le I.grl.2 hb.size⟩
  res := I.res
  below := I.below.trans (hb.mono I.below.size)

theorem LessI.again (I : LessI w S a b gr cz k m wr o pre out raws S1 rs) {rs' : List Bx} (h : rs = rs') : LessI w S a b gr cz k m wr o pre out raws S1 rs' := h ▸ I

theorem LessI.push (I : LessI w S a b gr cz k m wr o pre out raws S1 rs) {w6 w7 : World} {o' : Value} {S2 : Nat → Prop} {x : Bx} {rs' : List Bx} (hb : Below wr.heap.size wr w6) (hown : OwnS rBx 59 w7 w.heap.size (fun b => (S1 b ∨ S2 b) ∧ b < w6.heap.size ∧ o.ownBlock ≠ some b) o' (out ++ [x]))
    (hg : w6.grownBy w7 o.ownBlock) (ho' : o'.ownBlock = o.ownBlock ∨ o'.ownBlock = some (w6.heap.size + 1)) (hS2 : ∀ b, S2 b → b ≠ gr ∧ (S1 b ∨ wr.heap.size ≤ b)) (hres : rs = x :: rs') :
    LessI w S a b gr cz k (m + 1) w7 o' pre (out ++ [x]) raws (fun b => (S1 b ∨ S2 b) ∧ b < w6.heap.size ∧ o.ownBlock ≠ some b) rs' := by
  have I6 := I.keepB hb
  have hno : ∀ g, o.ownBlock = some g → ¬ S1 g := fun g hg => by obtain ⟨_, _, h2, _⟩ := I.own; exact h2 g hg
  refine ⟨I.hp, by have := I.ho; simp; omega, I.hn, I6.row.keptF (flat_Raw 1 24) hg (.inr fun e => I.ogr (by rw [← e]; rfl)), fun i p x hp hx => ?_, hown, fun h => ?_, fun b h => ?_, ?_, ⟨I.grl.1, Nat.lt_of_lt_of_le I6.grl.2 hg.size⟩, by rw [I.res, hres]; simp, ?_⟩
  · refine (rSl rRg).keep ((rSl rRg).mono (I6.rd i p x hp hx) (S' := fun b => (S1 b ∨ S2 b) ∧ b < w6.heap.size ∧ o.ownBlock ≠ some b) fun b hb hlt => ⟨.inl hb, hlt, fun e => hno b e hb⟩) (.grown hg fun g hg' h => h.2.2 hg')
  · rcases h.1 with h1 | h1
    · exact I.ngr h1
    · exact (hS2 gr h1).1 rfl
  · refine ⟨Nat.lt_of_lt_of_le h.2.1 hg.size, ?_⟩
    rcases h.1 with h1 | h1
    · exact (I.lt b h1).2
    · rcases (hS2 b h1).2 with h2 | h2
      · exact (I.lt b h2).2
      · exact .inr (Nat.le_trans I.below.size h2)
  · rcases ho' with h | h
    · rw [h]; exact I.ogr
    · rw [h]; intro e; injection e with e; have := I6.grl.2; omega
  · exact I6.below.trans ((Below.refl w.heap.size w6).grown hg I6.below.size fun k hk => (I.own.lt k hk).1)
theorem LessI.step (I : LessI w S a b gr cz k m wr o pre out raws S1 rs) (hk : k < a.length) {w8 : World} {z : Value} {s2 : List Rg} (hb : Below wr.heap.size wr w8) (hz : (rSl rRg).rel w8 (Up (fun _ => False) wr.heap.size) [z] s2) :
    LessI w S a b gr cz (k + 1) m (w8.setCell ⟨gr, k, none⟩ z) o (pre ++ [s2]) out (raws.set k [z]) (fun b => S1 b ∨ (wr.heap.size ≤ b ∧ b < w8.heap.size)) rs := by
  have I8 := I.keepB hb
  have hx : a[k]? = some a[k] := List.getElem?_eq_getElem hk
  have hkr : k < raws.length := by rw [I.hn]; exact hk
  have hn8 : ¬ (S1 gr ∨ (wr.heap.size ≤ gr ∧ gr < w8.heap.size)) := by
    rintro (h | h)
    · exact I.ngr h
    · have := I.grl.2; omega
  have hg := grownS w8 ⟨gr, k, none⟩ z
  have hone : z.oneCell' = true := (rSl rRg).one hz z (by simp)
  refine ⟨by simp [I.hp], I.ho, by simp [I.hn], ?_, ?_, ?_, hn8, fun b h => ?_, I.ogr, ⟨I.grl.1, by simpa using I8.grl.2⟩, I.res, I8.below.setCell I.grl.1 _⟩
  · have h1 := I8.row.set (x' := [z]) (u := z) (i := k) (j := 0) (g := gr) (cap := cz) (by rw [I.hn]) hkr (by decide : 0 < 1) (fun es S hr => by
      obtain ⟨rfl, hl1, _⟩ := hr
      have hl1' : raws[k].length = 1 := hl1
      generalize raws[k] = p at *
      match p, hl1' with
      | [q], _ => exact ⟨rfl, rfl, fun u hu => by simp at hu; subst hu; exact hone⟩)
    have e : k * (rRaw 1 24).k + 0 = k := by show k * 1 + 0 = k; omega
    rw [e] at h1
    exact h1
  · have hl : raws.length = (pre ++ a.drop k).length := by rw [I.hn, List.length_append, I.hp, List.length_drop]; omega
    have h1 := raws_set (s := s2) (z := z) (S' := fun b => S1 b ∨ (wr.heap.size ≤ b ∧ b < w8.heap.size)) (w' := w8.setCell ⟨gr, k, none⟩ z) hkr I8.rd
      (fun cs x h => (rSl rRg).keep ((rSl rRg).mono h fun b hb _ => .inl hb) (.grown hg fun g hg' h => by cases hg'; exact hn8 h))
      ((rSl rRg).keep ((rSl rRg).mono hz (S' := fun b => S1 b ∨ (wr.heap.size ≤ b ∧ b < w8.heap.size)) fun b hb hlt => by rcases hb with h | h; exact h.elim; exact .inr ⟨h, hlt⟩) (.grown hg fun g hg' h => by cases hg'; exact hn8 h)) hl
    rw [pre_set I.hp hx] at h1
    simpa using h1
  · have h1 := I8.own.kept hg (.inr I.ogr) (fun g hg' h => by cases hg'; exact I.ngr h)
    obtain ⟨cells, k1, k2, k3, k4⟩ := h1
    exact ⟨cells, k1, fun g hg' h => by
      rcases h with h | h
      · exact k2 g hg' h
      · have := (I.own.lt g hg').2; omega, k3, fun i x hx => rBx.mono (k4 i x hx) fun b hb _ => .inl hb⟩
  · rcases h with h | h
    · exact ⟨by simpa using (I8.lt b h).1, (I.lt b h).2⟩
    · exact ⟨by simpa using h.2, .inr (Nat.le_trans I.below.size h.1)⟩
theorem LessI.box (I : LessI w S a b gr cz k m wr o pre out raws S1 rs) (hk : k < a.length) {s ls : List Rg} (hx : a[k]? = some s) {w4 w5 : World} {z : Value} {gx cx : Nat} (hb4 : Below wr.heap.size wr w4) (hz4 : (rSl rRg).rel w4 (Up (fun _ => False) wr.heap.size) [z] ls)
    (hox : Own (rRaw 1 24) 95 w5 w4.heap.size (fun _ => False) (.slice (some ⟨gx, 0, none⟩) a.length cx) raws) (hb5 : Below w4.heap.size w4 w5) (hgx : w4.heap.size ≤ gx) :
    Below wr.heap.size wr (w5.setCell ⟨gx, k, none⟩ z) ∧ rBx.rel (w5.setCell ⟨gx, k, none⟩ z) (fun x => (S1 x ∨ (wr.heap.size ≤ x ∧ x < w4.heap.size)) ∨ x = gx) [.slice (some ⟨gx, 0, none⟩) a.length cx] (pre ++ ls :: a.drop (k + 1)) := by
  have hkr : k < raws.length := by rw [I.hn]; exact hk
  have hone : z.oneCell' = true := (rSl rRg).one hz4 z (by simp)
  have hb45 : Below wr.heap.size wr w5 := hb4.trans (hb5.mono hb4.size)
  have hb6 : Below wr.heap.size wr (w5.setCell ⟨gx, k, none⟩ z) := hb45.setCell (Nat.le_trans hb4.size hgx) _
  refine ⟨hb6, ?_⟩
  have h1 := hox.set (x' := [z]) (u := z) (i := k) (j := 0) (g := gx) (cap := cx) (by rw [I.hn]) hkr (by decide : 0 < 1) (fun es S hr => by
      obtain ⟨rfl, hl1, _⟩ := hr
      have hl1' : raws[k].length = 1 := hl1
      generalize raws[k] = p at *
      match p, hl1' with
      | [q], _ => exact ⟨rfl, rfl, fun u hu => by simp at hu; subst hu; exact hone⟩)
  have e : k * (rRaw 1 24).k + 0 = k := by show k * 1 + 0 = k; omega
  rw [e] at h1
  have hl : raws.length = (pre ++ a.drop k).length := by rw [I.hn, List.length_append, I.hp, List.length_drop]; omega
  have hzz : (rSl rRg).rel (w5.setCell ⟨gx, k, none⟩ z) (fun x => S1 x ∨ (wr.heap.size ≤ x ∧ x < w4.heap.size)) [z] ls := by
    have h2 := (rSl rRg).mono hz4 (S' := fun x => wr.heap.size ≤ x ∧ x < w4.heap.size) fun x hx hlt => by
      rcases hx with h | h
      · exact h.elim
      · exact ⟨h, hlt⟩
    exact (rSl rRg).mono ((rSl rRg).keep (Rd.below h2 hb5) (.setCell (by show ¬ (wr.heap.size ≤ gx ∧ gx < w4.heap.size); omega) _)) fun x hx _ => .inr hx
  have h3 := raws_set (s := ls) (z := z) (S' := fun x => S1 x ∨ (wr.heap.size ≤ x ∧ x < w4.heap.size)) (w' := w5.setCell ⟨gx, k, none⟩ z) hkr I.rd (fun cs x h => (rSl rRg).mono (Rd.below h hb6) fun x hx _ => .inl hx) hzz hl
  rw [pre_set I.hp hx] at h3
  have h4 := box_of_raw h1 (by rw [List.length_set, hl, ← pre_set I.hp hx (s' := ls), List.length_set]) h3
  refine rBx.mono h4 fun x hx _ => ?_
  rcases hx with h | h
  · exact .inl h
  · simp [Value.ownBlock] at h; exact .inr h.symm
end

set_option maxRecDepth 100000 in
set_option maxHeartbeats 800000 in
theorem BLess_any {S T : Nat → Prop} {v u : Value} {a b : Bx} (w : World) (hl : rBx.rel w S [v] a) (hm : rBx.rel w T [u] b) :
    Calls Tryz.prog 114 #[v, u] w fun e w' => ∃ z, e = .returned z ∧ Own rBx 59 w' w.heap.size S z (lessB a b) ∧ Below w.heap.size w w' := by
  have hal := rSl.lenle hl (by decide)
  have HG := Lib.hid (BGood_any (a.length : Int) w hl)
  have HG2 := Lib.hid fun w' (hb : Below w.heap.size w w') => BGood_any (a.length : Int) w' (Rd.below hm hb)
  obtain ⟨A, c, rfl, _, _, hbb, hE⟩ := rSl.elems hl
  obtain ⟨B, d, rfl, _, _, _, hF⟩ := rSl.elems hm
  have hbb' : a.length ≤ 5864062014805 := by simp only [rSl] at hbb; omega
  clear hl hm hbb
  cases hg : goodBx a (a.length : Int)
  · rw [hg] at HG
    have HF : Hid (lessB a b = []) := Lib.hid (by unfold lessB; rw [hg]; rfl)
    clear hg
    go_enter Tryz.func114, Tryz.ntmps114
    go_wp2_with (first | (go_at_call 52; ((with_reducible refine HG.out.mono ?_); rintro e w1 ⟨rfl, hb1⟩)))
    go_ret
    exact ⟨_, rfl, by rw [HF.out]; exact Own.nil _ _ _ _ _, hb1⟩
  rw [hg] at HG
  cases hg2 : goodBx b (a.length : Int)
  · rw [hg2] at HG2
    have HF : Hid (lessB a b = []) := Lib.hid (by unfold lessB; rw [hg, hg2]; rfl)
    clear hg hg2
    go_enter Tryz.func114, Tryz.ntmps114
    go_wp2_with (first | (go_at_call 52; ((with_reducible refine HG.out.mono ?_); rintro e w1 ⟨rfl, hb1⟩)) | (go_at_call 52; ((with_reducible refine (HG2.out _ hb1).mono ?_); rintro e w2 ⟨rfl, hb2⟩)))
    go_ret
    exact ⟨_, rfl, by rw [HF.out]; exact Own.nil _ _ _ _ _, hb1.trans (hb2.mono hb1.size)⟩
  rw [hg2] at HG2
  obtain ⟨ga, _, ha3⟩ := goodBx_iff.1 hg
  obtain ⟨gb, hab, _⟩ := goodBx_iff.1 hg2
  have HGS := Lib.hid (And.intro ga gb)
  have HL0 : Hid (lessB a b = [] ++ lessGo [] (a.drop 0) (b.drop 0)) := Lib.hid (by unfold lessB; rw [hg, hg2]; simp)
  clear hg hg2 ga gb
  have HAB := Lib.hid hab
  obtain ⟨raws, hrl, hRaw, hRR⟩ := hE.raw
  have hRaw' : Elems (rRaw 1 24) w S A raws := hRaw
  have HRR := Lib.hid hRR
  have HRL := Lib.hid hrl
  have HCL : Hid (∀ w', Below w.heap.size w w' → Calls Tryz.prog 152 #[.slice A a.length c] w' fun e w2 => ∃ Az cz, e = .returned (.slice Az a.length cz) ∧ Own (rRaw 1 24) 95 w2 w'.heap.size (fun _ => False) (.slice Az a.length cz) raws ∧ Below w'.heap.size w' w2) :=
    Lib.hid fun w' hb => by
      rw [← hrl]
      refine (CloneR_any w' (hRaw'.keep (.of_below hb)) (by omega)).mono fun e w2 ⟨z, h1, h2, h3⟩ => ?_
      obtain ⟨Az, cz, rfl⟩ := h2.value
      exact ⟨Az, cz, h1, h2, h3⟩
  clear hab hRaw hRaw' hRR hrl
  go_enter Tryz.func114, Tryz.ntmps114
  go_wp2_with (first | (go_at_call 52; ((with_reducible refine HG.out.mono ?_); rintro e w1 ⟨rfl, hb1⟩)) | (go_at_call 52; ((with_reducible refine (HG2.out _ hb1).mono ?_); rintro e w2 ⟨rfl, hb2⟩; have hb12 := hb1.trans (hb2.mono hb1.size))) | (go_at_call 152; ((with_reducible refine (HCL.out _ hb12).mono ?_); rintro e w3 ⟨Az, cz, rfl, hor, hb3⟩)))
  have hbx := hb12.trans (hb3.mono hb12.size)
  have hsz12 := hb12.size
  rcases Nat.eq_zero_or_pos a.length with ha0 | ha0
  · have HF : Hid (lessB a b = []) := Lib.hid (by rw [HL0.out, List.eq_nil_of_length_eq_zero ha0]; rfl)
    go_loopw [5, 26] (fun o i wr => o = .slice none 0 0 ∧ i = .int .i64 0 ∧ Below w.heap.size w wr) (fun _ _ _ => 0)
    case atStart => exact ⟨rfl, rfl, hbx⟩
    case round =>
      obtain ⟨rfl, rfl, hb⟩ := hrel
      go_wp2
      go_ret
      exact ⟨_, rfl, by rw [HF.out]; exact Own.nil _ _ _ _ _, hb⟩
  obtain ⟨gr, rfl, hgr1, hgr2⟩ : ∃ gr, Az = some ⟨gr, 0, none⟩ ∧ w2.heap.size ≤ gr ∧ gr < w3.heap.size := by
    rcases hor.form with ⟨_, h⟩ | ⟨g, cap, h, h1, h2⟩
    · have := HRL.out; rw [h] at this; simp at this; omega
    · injection h with h _ _; exact ⟨g, h, h1, h2⟩
  have I0 : LessI w S a b gr cz 0 0 w3 (.slice none 0 0) [] [] raws (fun b => S b ∧ b < w.heap.size) (lessGo [] (a.drop 0) (b.drop 0)) :=
    ⟨rfl, Nat.le_refl _, HRL.out, hor.lower hsz12, fun i p x hp hx => (rSl rRg).mono (Rd.below ((rSl rRg).mono (HRR.out i p x hp (by simpa using hx)) (S' := fun b => S b ∧ b < w.heap.size) fun b hb hlt => ⟨hb, hlt⟩) hbx) fun b hb _ => hb, OwnS.nil _ _ _ _ _,
      fun h => by omega, fun b h => ⟨Nat.lt_of_lt_of_le h.2 hbx.size, .inl h.1⟩, by simp [Value.ownBlock], ⟨by omega, hgr2⟩, HL0.out, hbx⟩
  have HI0 := Lib.hid I0
  clear I0 hor HRR HRL HL0 hgr1 hgr2 hE
  go_loopw [5, 26] (fun o i wr => ∃ (k : Nat) (pre : Bx) (out : List Bx) (raws : List (List Value)) (S1 : Nat → Prop), k ≤ a.length ∧ i = .int .i64 k ∧ Hid (LessI w S a b gr cz k k wr o pre out raws S1 (lessGo pre (a.drop k) (b.drop k)))) (fun _ i _ => a.length - (intOf i).toNat)
  case atStart => exact ⟨0, _, _, _, _, Nat.zero_le _, rfl, HI0⟩
  case round =>
    obtain ⟨k, pre, out, raws, S1, hk, rfl, HI⟩ := hrel
    by_cases hlt : k < a.length
    · have hltb : k < b.length := by have := HAB.out; omega
      have hx : a[k]? = some a[k] := List.getElem?_eq_getElem hlt
      obtain ⟨q, off', v', t, rfl, _, hq, hx', hs', h2⟩ := hF.sl hltb
      have hga := (HGS.out.1 a[k] (List.getElem_mem hlt)).2
      have hgb := (HGS.out.2 t (List.mem_of_getElem? hx')).2
      have hxp : (pre ++ a.drop k)[k]? = some a[k] := by
        have := HI.out.hp
        rw [List.getElem?_append_right (by omega), this, Nat.sub_self, List.getElem?_drop]; exact hx
      have hRS : lessGo pre (a.drop k) (b.drop k) = (if (lessS a[k] t).length = 0 then [] else [pre ++ lessS a[k] t :: a.drop (k + 1)]) ++ (if (bothS a[k] t).length = 0 then [] else lessGo (pre ++ [bothS a[k] t]) (a.drop (k + 1)) (b.drop (k + 1))) := by
        conv => lhs; rw [drop_cons hx, drop_cons hx', lessGo]
      have HRS := Lib.hid hRS
      have hkr : k < raws.length := by rw [HI.out.hn]; exact hlt
      obtain ⟨vs, hvs, hrs⟩ : ∃ vs, raws[k]? = some [vs] ∧ (rSl rRg).rel wr S1 [vs] a[k] := by
        have h := HI.out.rd k raws[k] a[k] (List.getElem?_eq_getElem hkr) hxp
        have h' := h
        obtain ⟨A9, c9, h9, _⟩ := h'
        rw [h9] at h
        refine ⟨_, ?_, h⟩
        rw [List.getElem?_eq_getElem hkr, h9]
      obtain ⟨hbw, hsz0⟩ : Below w.heap.size w wr ∧ gr < wr.heap.size := ⟨HI.out.below, HI.out.grl.2⟩
      have hrow := HI.out.row
      have hfr := hrow.free rfl
      have h1 : wr.cell? ⟨gr, k, none⟩ = some vs := by
        obtain ⟨_, hE9⟩ := hrow.elems (by decide) rfl
        obtain ⟨b9, o9, es, hA9, _, _, ⟨he, _, _⟩, hc⟩ := hE9 k _ hvs
        obtain ⟨rfl, rfl⟩ : gr = b9 ∧ 0 = o9 := by simpa using hA9
        subst he
        have := hc 0 vs rfl
        have e : 0 + k * (rRaw 1 24).k + 0 = k := by show 0 + k * 1 + 0 = k; omega
        rwa [e] at this
      rw [← hbw.cell (p := ⟨q, _, none⟩) hq] at h2
      have hik : (k : Int) < (a.length : Int) := by omega
      have hik2 : (k : Int) < (b.length : Int) := by omega
      have hCL := Less_any wr.drew (Rd.drew hrs) (Rd.drew (Rd.below hs' hbw)) hga hgb
      have HCLs := Lib.hid hCL
      have HVS := Lib.hid hvs
      have HXP := Lib.hid hxp
      have HX := Lib.hid hx
      have HGA := Lib.hid (And.intro hga hgb)
      obtain ⟨Av, cv, rfl, _⟩ := rSl.elems hrs
      obtain ⟨At, ct, rfl, _⟩ := rSl.elems hs'
      have HST := Lib.hid hs'
      have HB2 := Lib.hid (show w.cell? ⟨q, off' + k, none⟩ = some (.slice At t.length ct) by rw [← hbw.cell (p := ⟨q, _, none⟩) hq]; exact h2)
      generalize hak : a[k] = s at *
      clear hx hx' hga hgb hxp hRS hvs hrs hrow hCL hs' hF
      go_wp2
      go_still_tail 8, (by kernel_rfl)
      change wpList _ _ _ _ _ wr.drew
      have hwd0 : Below wr.heap.size wr wr.drew := drewN_below (Below.refl _ _) 1
      have hszd : wr.drew.heap.size = wr.heap.size := rfl
      generalize wr.drew = wd at *
      have HWD := Lib.hid hwd0
      have HSZ := Lib.hid hszd
      clear hwd0 hszd
      by_cases hz : (lessS s t).length = 0
      · have HM1 : Hid (lessGo pre (a.drop k) (b.drop k) = (if (bothS s t).length = 0 then [] else lessGo (pre ++ [bothS s t]) (a.drop (k + 1)) (b.drop (k + 1)))) := Lib.hid (by rw [HRS.out, if_pos hz, List.nil_append])
        generalize lessS s t = ls at *
        go_wp2_with (first | (go_at_call 122; ((with_reducible refine HCLs.out.mono ?_); rintro e w4 ⟨z4, rfl, how4, hb4⟩; obtain ⟨A4, c4, rfl⟩ := how4.value)))
        obtain ⟨wm, rfl, om, rfl, outm, S1m, HM⟩ : ∃ wm, wm = w4 ∧ ∃ om, om = u5 ∧ ∃ (outm : List Bx) (S1m : Nat → Prop), Hid (LessI w S a b gr cz k (k + 1) wm om pre outm raws S1m (if (bothS s t).length = 0 then [] else lessGo (pre ++ [bothS s t]) (a.drop (k + 1)) (b.drop (k + 1)))) :=
          ⟨_, rfl, _, rfl, out, S1, Lib.hid (by
            have h := (HI.out.keepB (HWD.out.trans (by rw [← HSZ.out]; exact hb4))).again HM1.out
            exact { h with ho := Nat.le_succ_of_le h.ho })⟩
        have hbm := HM.out.below
        have mrow := HM.out.row
        have mf := mrow.free rfl
        have m1 : wm.cell? ⟨gr, k, none⟩ = some (.slice Av s.length cv) := by
          obtain ⟨_, hE9⟩ := mrow.elems (by decide) rfl
          obtain ⟨b9, o9, es, hA9, _, _, ⟨he, _, _⟩, hc⟩ := hE9 k _ HVS.out
          obtain ⟨rfl, rfl⟩ : gr = b9 ∧ 0 = o9 := by simpa using hA9
          subst he
          have := hc 0 _ rfl
          have e : 0 + k * (rRaw 1 24).k + 0 = k := by show 0 + k * 1 + 0 = k; omega
          rwa [e] at this
        have m2 : wm.cell? ⟨q, off' + k, none⟩ = some (.slice At t.length ct) := (hbm.cell (p := ⟨q, _, none⟩) hq).trans HB2.out
        have hCB := Both_any wm.drew (Rd.drew (HM.out.rd k _ _ HVS.out HXP.out)) (Rd.drew (Rd.below HST.out hbm)) HGA.out.1 HGA.out.2
        have HCB := Lib.hid hCB
        have hgm := HM.out.grl
        have hnq : ¬ gr = q := by omega
        have hqm : q < wm.drew.heap.size := Nat.lt_of_lt_of_le hq hbm.size
        have hgm2 : gr < wm.drew.heap.size := hgm.2
        clear hCB mrow
        go_region_with (first | (go_at_call 124; ((with_reducible refine HCB.out.mono ?_); rintro e w8 ⟨z8, rfl, how8, hb8⟩; obtain ⟨A8, c8, rfl⟩ := how8.value; have n2 := (hb8.cell (p := ⟨q, off' + k, none⟩) hqm).trans m2; have n1 := (hb8.cell (p := ⟨gr, k, none⟩) hgm2).trans m1; have nf : w8.frozen? ⟨gr, k, none⟩ = false := (hb8.frozen (p := ⟨gr, k, none⟩) hgm2).trans (mf k))))
        all_goals
          have hb8' : Below wm.heap.size wm w8 := (drewN_below (Below.refl _ _) 1).trans hb8
          have HS8 := Lib.hid (HM.out.step hlt hb8' (show (rSl rRg).rel w8 (Up (fun _ => False) wm.heap.size) [_] (bothS s t) from how8.rel (by decide)))
          have hgs : (w8.setCell ⟨gr, k, none⟩ (.slice A8 (bothS s t).length c8)).cell? ⟨gr, k, none⟩ = some (.slice A8 (bothS s t).length c8) := World.cell?_setCell_same _ _ _ n1
          clear n1 n2 nf m1 m2 mf how8 hb8 hb8'
          generalize hw9 : w8.setCell ⟨gr, k, none⟩ (.slice A8 (bothS s t).length c8) = w9 at *
          clear hw9
          by_cases hz2 : (bothS s t).length = 0
          · have HR := Lib.hid (show lessB a b = outm by have := HS8.out.res; rw [if_pos hz2, List.append_nil] at this; exact this)
            generalize bothS s t = bs at *
            go_wp2
            go_ret
            exact ⟨_, rfl, by rw [HR.out]; exact ⟨_, HS8.out.own, fun b hb => (HS8.out.lt b hb).2⟩, HS8.out.below⟩
          · have HR := Lib.hid (HS8.out.again (if_neg hz2))
            have hz3 : ((bothS s t).length == 0) = false := by simpa using hz2
            generalize bothS s t = bs at *
            go_wp2
            go_roundw
            case rel => exact ⟨k + 1, _, _, _, _, by omega, by go_num, HR⟩
            case measure => simp [intOf]; omega
      · have HM2 : Hid (lessGo pre (a.drop k) (b.drop k) = (pre ++ lessS s t :: a.drop (k + 1)) :: (if (bothS s t).length = 0 then [] else lessGo (pre ++ [bothS s t]) (a.drop (k + 1)) (b.drop (k + 1)))) := Lib.hid (by rw [HRS.out, if_neg hz]; rfl)
        have hzp : 0 < (lessS s t).length := by omega
        have HIO := Lib.hid HI.out.own
        have HOL : Hid ((out.length + 1) * rBx.bytes ≤ 140737488355328) := Lib.hid (by have := HI.out.ho; show (out.length + 1) * 24 ≤ _; omega)
        have HNB : Hid (∀ {n gx N : Nat}, wr.heap.size ≤ n → n ≤ gx → ∀ x, ((S1 x ∨ (wr.heap.size ≤ x ∧ x < n)) ∨ x = gx) → x < N → (u5 : Value).ownBlock ≠ some x) := Lib.hid fun hn hg x hx _ e => by
          have h9 := (HI.out.own.lt x e).2
          rcases hx with (h | h) | h
          · obtain ⟨_, _, h2, _⟩ := HI.out.own; exact h2 x e h
          · omega
          · omega
        have HN2 : Hid (∀ {n gx : Nat}, wr.heap.size ≤ n → n ≤ gx → ∀ x, ((S1 x ∨ (wr.heap.size ≤ x ∧ x < n)) ∨ x = gx) → x ≠ gr ∧ (S1 x ∨ wr.heap.size ≤ x)) := Lib.hid fun hn hg x hx => by
          have := HI.out.grl.2
          rcases hx with (h | h) | h
          · exact ⟨fun e => HI.out.ngr (e ▸ h), .inl h⟩
          · exact ⟨by omega, .inr h.1⟩
          · exact ⟨by omega, .inr (by omega)⟩
        have HCC : Hid (∀ w4, Below wr.heap.size wr w4 → Calls Tryz.prog 152 #[.slice (some ⟨gr, 0, none⟩) a.length cz] w4 fun e w5 => ∃ gx cx, e = .returned (.slice (some ⟨gx, 0, none⟩) a.length cx) ∧ Own (rRaw 1 24) 95 w5 w4.heap.size (fun _ => False) (.slice (some ⟨gx, 0, none⟩) a.length cx) raws ∧ Below w4.heap.size w4 w5 ∧ w4.heap.size ≤ gx ∧ gx < w5.heap.size) :=
          Lib.hid fun w4 hb => by
            obtain ⟨_, hE9⟩ := (HI.out.row.below hb).elems (by decide) rfl
            rw [← HI.out.hn]
            refine (CloneR_any w4 hE9 (by have := HI.out.hn; omega)).mono fun e w5 ⟨z, h1, h2, h3⟩ => ?_
            rcases h2.form with ⟨_, h⟩ | ⟨g, cap, h, h4, h5⟩
            · have := HI.out.hn; rw [h] at this; simp at this; omega
            · subst h; exact ⟨g, cap, h1, h2, h3, h4, h5⟩
        clear hz
        generalize hls : lessS s t = ls at *
        have HLS := Lib.hid hls
        clear hls
        go_wp2_with (first | (go_at_call 122; ((with_reducible refine HCLs.out.mono ?_); rintro e w4 ⟨z4, rfl, how4, hb4⟩; obtain ⟨A4, c4, rfl⟩ := how4.value; have hb4r := HWD.out.trans (by rw [← HSZ.out]; exact hb4))) | (go_at_call 152; ((with_reducible refine (HCC.out _ hb4r).mono ?_); rintro e w5 ⟨gx, cx, rfl, hox, hb5, hgx1, hgx2⟩; have fx := hox.free rfl k; have x1 := own_cell hox HVS.out; obtain ⟨w6, e6, hb6, hrx⟩ : ∃ w6, w5.setCell ⟨gx, k, none⟩ (.slice A4 ls.length c4) = w6 ∧ Below wr.heap.size wr w6 ∧ rBx.rel w6 (fun x => (S1 x ∨ (wr.heap.size ≤ x ∧ x < w4.heap.size)) ∨ x = gx) [.slice (some ⟨gx, 0, none⟩) a.length cx] (pre ++ ls :: a.drop (k + 1)) := ⟨_, rfl, HI.out.box hlt HX.out hb4r (show (rSl rRg).rel w4 (Up (fun _ => False) wr.heap.size) [_] ls from by rw [← HSZ.out]; exact how4.rel (by decide)) hox hb5 hgx1⟩; have hown6 := HIO.out.below hb6)) | (at_builtin; go_must (refine wpList_append_newS (R := rBx) (x := pre ++ ls :: a.drop (k + 1)) el_Bxs rfl (.tmp 47) (.tmp 49) rfl rfl hown6 [_] rfl rfl (fun x => (S1 x ∨ (wr.heap.size ≤ x ∧ x < w4.heap.size)) ∨ x = gx) hrx (HNB.out hb4r.size hgx1) HOL.out (Nat.le_trans HI.out.below.size hb6.size) ?_); intro o7 w7 hown7 hg7 ho7))
        obtain ⟨wm, rfl, om, rfl, outm, S1m, HM⟩ : ∃ wm, wm = w7 ∧ ∃ om, om = o7 ∧ ∃ (outm : List Bx) (S1m : Nat → Prop), Hid (LessI w S a b gr cz k (k + 1) wm om pre outm raws S1m (if (bothS s t).length = 0 then [] else lessGo (pre ++ [bothS s t]) (a.drop (k + 1)) (b.drop (k + 1)))) :=
          ⟨_, rfl, _, rfl, _, _, Lib.hid (HI.out.push hb6 hown7 hg7 ho7 (HN2.out hb4r.size hgx1) HM2.out)⟩
        have hbm := HM.out.below
        have mrow := HM.out.row
        have mf := mrow.free rfl
        have m1 : wm.cell? ⟨gr, k, none⟩ = some (.slice Av s.length cv) := by
          obtain ⟨_, hE9⟩ := mrow.elems (by decide) rfl
          obtain ⟨b9, o9, es, hA9, _, _, ⟨he, _, _⟩, hc⟩ := hE9 k _ HVS.out
          obtain ⟨rfl, rfl⟩ : gr = b9 ∧ 0 = o9 := by simpa using hA9
          subst he
          have := hc 0 _ rfl
          have e : 0 + k * (rRaw 1 24).k + 0 = k := by show 0 + k * 1 + 0 = k; omega
          rwa [e] at this
        have m2 : wm.cell? ⟨q, off' + k, none⟩ = some (.slice At t.length ct) := (hbm.cell (p := ⟨q, _, none⟩) hq).trans HB2.out
        have hCB := Both_any wm.drew (Rd.drew (HM.out.rd k _ _ HVS.out HXP.out)) (Rd.drew (Rd.below HST.out hbm)) HGA.out.1 HGA.out.2
        have HCB := Lib.hid hCB
        have hgm := HM.out.grl
        have hnq : ¬ gr = q := by omega
        have hqm : q < wm.drew.heap.size := Nat.lt_of_lt_of_le hq hbm.size
        have hgm2 : gr < wm.drew.heap.size := hgm.2
        clear hCB mrow
        go_region_with (first | (go_at_call 124; ((with_reducible refine HCB.out.mono ?_); rintro e w8 ⟨z8, rfl, how8, hb8⟩; obtain ⟨A8, c8, rfl⟩ := how8.value; have n2 := (hb8.cell (p := ⟨q, off' + k, none⟩) hqm).trans m2; have n1 := (hb8.cell (p := ⟨gr, k, none⟩) hgm2).trans m1; have nf : w8.frozen? ⟨gr, k, none⟩ = false := (hb8.frozen (p := ⟨gr, k, none⟩) hgm2).trans (mf k))))
        all_goals
          have hb8' : Below wm.heap.size wm w8 := (drewN_below (Below.refl _ _) 1).trans hb8
          have HS8 := Lib.hid (HM.out.step hlt hb8' (show (rSl rRg).rel w8 (Up (fun _ => False) wm.heap.size) [_] (bothS s t) from how8.rel (by decide)))
          have hgs : (w8.setCell ⟨gr, k, none⟩ (.slice A8 (bothS s t).length c8)).cell? ⟨gr, k, none⟩ = some (.slice A8 (bothS s t).length c8) := World.cell?_setCell_same _ _ _ n1
          clear n1 n2 nf m1 m2 mf how8 hb8 hb8'
          generalize hw9 : w8.setCell ⟨gr, k, none⟩ (.slice A8 (bothS s t).length c8) = w9 at *
          clear hw9
          by_cases hz2 : (bothS s t).length = 0
          · have HR := Lib.hid (show lessB a b = outm by have := HS8.out.res; rw [if_pos hz2, List.append_nil] at this; exact this)
            generalize bothS s t = bs at *
            go_wp2
            go_ret
            exact ⟨_, rfl, by rw [HR.out]; exact ⟨_, HS8.out.own, fun b hb => (HS8.out.lt b hb).2⟩, HS8.out.below⟩
          · have HR := Lib.hid (HS8.out.again (if_neg hz2))
            have hz3 : ((bothS s t).length == 0) = false := by simpa using hz2
            generalize bothS s t = bs at *
            go_wp2
            go_roundw
            case rel => exact ⟨k + 1, _, _, _, _, by omega, by go_num, HR⟩
            case measure => simp [intOf]; omega
    · have hke : k = a.length := by omega
      have HR := Lib.hid (show lessB a b = out by
        have := HI.out.res
        rw [List.drop_eq_nil_of_le (by omega), lessGo] at this
        · rw [List.append_nil] at this; exact this
        · intro _ _ _ _ h _; cases h)
      go_wp2
      go_ret
      exact ⟨_, rfl, by rw [HR.out]; exact ⟨_, HI.out.own, fun b hb => (HI.out.lt b hb).2⟩, HI.out.below⟩
end Go.Proofs.YtlopccnehgolnabGreatDoor

namespace Go.Proofs.YtlopccnehgolnabGreatDoor
open Go.RowKit Rb

def exA : Bx := [[(1, 9)], [(1, 9)]]
def exB : Bx := [[(5, 6)], [(1, 9)]]
theorem ex_less : lessB exA exB = [[[(1, 4), (7, 9)], [(1, 9)]]] := by decide
theorem ex_good : goodBx exA 2 = true := by decide
theorem ex_size : sizeBx exA = 81 := by
  unfold sizeBx
  rw [if_pos (by decide)]
  decide
theorem ex_point : pointBx [[(1, 4), (7, 9)], [(1, 9)]] = [1, 1] := by decide
theorem ex_has : inBx [[(1, 4), (7, 9)], [(1, 9)]] [1, 1] = true := by decide

theorem lit_box (w : World) (x y : Int) (hx : InI x) (hy : InI y) : rBx.rel ((((w.alloc (.cells #[.int .i64 x, .int .i64 y] 123)).alloc (.cells #[.int .i64 1, .int .i64 9] 123))).alloc (.cells #[.slice (some ⟨w.heap.size, 0, none⟩) 1 1, .slice (some ⟨w.heap.size + 1, 0, none⟩) 1 1] 95)) (fun _ => True)
    [.slice (some ⟨w.heap.size + 1 + 1, 0, none⟩) 2 2] [[(x, y)], [(1, 9)]] := by
  have h1 := Rd.lit1 (R := rRg) (w := w) (S := fun _ => True) (x := (x, y)) (cells := [.int .i64 x, .int .i64 y]) 123 rfl (by decide) (by decide) ⟨rfl, hx, hy⟩
  have h2 := Rd.lit1 (R := rRg) (w := w.alloc (.cells #[.int .i64 x, .int .i64 y] 123)) (S := fun _ => True) (x := (1, 9)) (cells := [.int .i64 1, .int .i64 9]) (n := w.heap.size + 1) 123 (by simp) (by decide) (by decide) ⟨rfl, by unfold InI; omega, by unfold InI; omega⟩
  exact Rd.lit2 (R := rSl rRg) (S := fun _ => True) (x := [(x, y)]) (y := [(1, 9)]) (c1 := [.slice (some ⟨w.heap.size, 0, none⟩) 1 1]) (c2 := [.slice (some ⟨w.heap.size + 1, 0, none⟩) 1 1]) (n := w.heap.size + 1 + 1) 95 (by simp) (by decide) (by decide) (Rd.alloc h1 _) h2


end Go.Proofs.YtlopccnehgolnabGreatDoor

namespace Go.Proofs.YtlopccnehgolnabGreatDoor
open Go.RowKit Rb

theorem sizeN_cntM : ∀ {l : List Rg} {a : Int}, GoodFrom a l → -1000002 ≤ a → sizeN l = (cnt (hasL l) (-1000000) 2000001 : Nat)
  | [], _, _, _ => by
    have : cnt (hasL []) (-1000000) 2000001 = 0 := (cnt_congr _ (fun n => hasL_nil n) _).trans (cnt_none _ _)
    rw [this]; rfl
  | r :: l, a, h, ha => by
    have hg : a + 1 < r.1 ∧ r.1 ≤ r.2 ∧ -MX ≤ r.1 ∧ r.2 ≤ MX := GoodFrom.his h r (by simp)
    unfold MX at hg
    have ih := sizeN_cntM h.tail (by omega)
    have h1 : cnt (hasL (r :: l)) (-1000000) 2000001 = cnt (inR r) (-1000000) 2000001 + cnt (hasL l) (-1000000) 2000001 := by
      rw [← cnt_or _ fun n hn => by
        have h1 := (inR_iff r n).1 hn
        rw [Bool.eq_false_iff]; intro h2
        have := h.tail.above n h2
        omega]
      exact cnt_congr _ (fun n => hasL_cons r l n) _
    have h2 := cnt_rg r (-1000000) hg.2.1 hg.2.2.1 2000001
    rw [if_neg (by omega)] at h2
    rw [sizeN_cons, ih, h1]
    push_cast
    rw [h2]
    split <;> omega
theorem sizeN_splitM {a b : List Rg} (ga : GoodS a) : sizeN (bothS a b) + sizeN (lessS a b) = sizeN a := by
  rw [sizeN_cntM (bothS_good a b).1 (by unfold MX; omega), sizeN_cntM (lessS_good a b).1 (by unfold MX; omega), sizeN_cntM ga (by unfold MX; omega)]
  have : cnt (hasL a) (-1000000) 2000001 = cnt (hasL (bothS a b)) (-1000000) 2000001 + cnt (hasL (lessS a b)) (-1000000) 2000001 := by
    rw [← cnt_or _ fun n hn => by
      rw [bothS_has ga] at hn; rw [lessS_has ga]
      cases h1 : hasL a n <;> cases h2 : hasL b n <;> simp_all]
    exact cnt_congr _ (fun n => by rw [bothS_has ga, lessS_has ga]; cases hasL a n <;> cases hasL b n <;> rfl) _
  rw [this]; push_cast; rfl

theorem inBx_append : ∀ {p : Bx} {ms : List Int} {q : Bx} {ns : List Int}, p.length = ms.length → inBx (p ++ q) (ms ++ ns) = (inBx p ms && inBx q ns)
  | [], [], _, _, _ => by simp [inBx]
  | s :: p, m :: ms, q, ns, h => by
    simp only [List.cons_append, inBx]
    rw [inBx_append (by simpa using h), Bool.and_assoc]
  | [], _ :: _, _, _, h => by simp at h
  | _ :: _, [], _, _, h => by simp at h

/-- In how many boxes an input is; how many inputs they have. -/
def cntIn (l : List Bx) (ns : List Int) : Nat := (l.filter (inBx · ns)).length
def sumSz (l : List Bx) : Int := l.foldr (fun b n => sizeBx b + n) 0
def sumP (l : List Bx) : Int := l.foldr (fun b n => prodS b + n) 0
theorem cntIn_nil (ns : List Int) : cntIn [] ns = 0 := rfl
theorem cntIn_cons (b : Bx) (l : List Bx) (ns : List Int) : cntIn (b :: l) ns = (if inBx b ns then 1 else 0) + cntIn l ns := by
  unfold cntIn
  rw [List.filter_cons]
  split <;> simp; omega
theorem cntIn_append (l m : List Bx) (ns : List Int) : cntIn (l ++ m) ns = cntIn l ns + cntIn m ns := by
  unfold cntIn; rw [List.filter_append, List.length_append]
theorem sumSz_append (l m : List Bx) : sumSz (l ++ m) = sumSz l + sumSz m := by
  induction l with
  | nil => simp [sumSz]
  | cons b l ih =>
    show sizeBx b + sumSz (l ++ m) = sizeBx b + sumSz l + sumSz m
    rw [ih]; omega

def Sets (b : Bx) : Prop := ∀ s ∈ b, 0 < s.length ∧ GoodS s

theorem lessGo_count : ∀ {a b pre : Bx} {ms ns : List Int}, Sets a → Sets b → a.length = b.length → a.length = ns.length → pre.length = ms.length →
    cntIn (lessGo pre a b) (ms ++ ns) = if inBx pre ms && (inBx a ns && !inBx b ns) then 1 else 0
  | [], [], pre, ms, [], _, _, _, _, _ => by simp [lessGo, cntIn_nil, inBx]
  | s :: a, t :: b, pre, ms, n :: ns, ha, hb, h1, h2, h3 => by
    have gs := (ha s (by simp)).2
    have ih := lessGo_count (a := a) (b := b) (pre := pre ++ [bothS s t]) (ms := ms ++ [n]) (ns := ns) (fun x hx => ha x (by simp [hx])) (fun x hx => hb x (by simp [hx])) (by simpa using h1) (by simpa using h2) (by simp [h3])
    have e1 : cntIn (if (lessS s t).length = 0 then [] else [pre ++ lessS s t :: a]) (ms ++ n :: ns) = if inBx pre ms && ((hasL s n && !hasL t n) && inBx a ns) then 1 else 0 := by
      rw [← lessS_has gs]
      split
      · rename_i h
        rw [List.eq_nil_of_length_eq_zero h]; simp [cntIn_nil, hasL_nil]
      · rw [cntIn_cons, cntIn_nil, inBx_append h3]; simp [inBx]
    have e2 : cntIn (if (bothS s t).length = 0 then [] else lessGo (pre ++ [bothS s t]) a b) (ms ++ n :: ns) = if inBx pre ms && ((hasL s n && hasL t n) && (inBx a ns && !inBx b ns)) then 1 else 0 := by
      split
      · rename_i h
        have : (hasL s n && hasL t n) = false := by rw [← bothS_has gs, List.eq_nil_of_length_eq_zero h]; rfl
        rw [this]; simp [cntIn_nil]
      · have e : ms ++ n :: ns = (ms ++ [n]) ++ ns := by simp
        rw [e, ih, inBx_append h3]
        simp [inBx, bothS_has gs, Bool.and_assoc]
    rw [lessGo, cntIn_append, e1, e2]
    simp only [inBx]
    rcases Bool.eq_false_or_eq_true (inBx pre ms) with q1 | q1 <;> rcases Bool.eq_false_or_eq_true (hasL s n) with q2 | q2 <;> rcases Bool.eq_false_or_eq_true (hasL t n) with q3 | q3 <;>
      rcases Bool.eq_false_or_eq_true (inBx a ns) with q4 | q4 <;> rcases Bool.eq_false_or_eq_true (inBx b ns) with q5 | q5 <;> simp [q1, q2, q3, q4, q5]
  | [], _ :: _, _, _, _, _, _, h, _, _ => by simp at h
  | _ :: _, [], _, _, _, _, _, h, _, _ => by simp at h
  | [], [], _, _, _ :: _, _, _, _, h, _ => by simp at h
  | _ :: _, _ :: _, _, _, [], _, _, _, h, _ => by simp at h

theorem prodS_append : ∀ (p q : Bx), prodS (p ++ q) = prodS p * prodS q
  | [], q => by simp [prodS]
  | s :: p, q => by simp only [List.cons_append, prodS, prodS_append p q, Int.mul_assoc]
/-- How many inputs two boxes have in common. -/
def prodBoth : Bx → Bx → Int
  | s :: a, t :: b => sizeN (bothS s t) * prodBoth a b
  | _, _ => 1
theorem sumP_append (l m : List Bx) : sumP (l ++ m) = sumP l + sumP m := by
  induction l with
  | nil => simp [sumP]
  | cons b l ih =>
    show prodS b + sumP (l ++ m) = prodS b + sumP l + sumP m
    rw [ih]; omega
theorem lessGo_size : ∀ {a b pre : Bx}, Sets a → a.length = b.length → sumP (lessGo pre a b) + prodS pre * prodBoth a b = prodS pre * prodS a
  | [], [], pre, _, _ => by simp [lessGo, sumP, prodBoth, prodS]
  | s :: a, t :: b, pre, ha, h1 => by
    have gs := (ha s (by simp)).2
    have ih := lessGo_size (a := a) (b := b) (pre := pre ++ [bothS s t]) (fun x hx => ha x (by simp [hx])) (by simpa using h1)
    have hs := sizeN_splitM (b := t) gs
    have e1 : sumP (if (lessS s t).length = 0 then [] else [pre ++ lessS s t :: a]) = prodS pre * (sizeN (lessS s t) * prodS a) := by
      split
      · rename_i h
        rw [List.eq_nil_of_length_eq_zero h]; simp [sumP, sizeN]
      · show prodS (pre ++ lessS s t :: a) + 0 = _
        rw [prodS_append, Int.add_zero]; rfl
    have e2 : sumP (if (bothS s t).length = 0 then [] else lessGo (pre ++ [bothS s t]) a b) + prodS pre * (sizeN (bothS s t) * prodBoth a b) = prodS pre * (sizeN (bothS s t) * prodS a) := by
      split
      · rename_i h
        rw [List.eq_nil_of_length_eq_zero h]; simp [sumP, sizeN]
      · rw [prodS_append] at ih
        simp only [prodS, Int.mul_one, Int.mul_assoc] at ih
        exact ih
    rw [lessGo, sumP_append, e1]
    simp only [prodS, prodBoth]
    rw [← hs, Int.add_mul, Int.mul_add]
    omega
  | [], _ :: _, _, _, h => by simp at h
  | _ :: _, [], _, _, h => by simp at h

theorem lessGo_sets : ∀ {a b pre : Bx}, Sets pre → Sets a → ∀ x ∈ lessGo pre a b, Sets x ∧ (a.length = b.length → x.length = pre.length + a.length)
  | s :: a, t :: b, pre, hp, ha, x, hx => by
    rw [lessGo, List.mem_append] at hx
    rcases hx with hx | hx
    · split at hx
      · simp at hx
      · rename_i h
        simp at hx
        subst hx
        refine ⟨fun y hy => ?_, fun _ => by simp⟩
        simp only [List.mem_append, List.mem_cons] at hy
        rcases hy with hy | rfl | hy
        · exact hp y hy
        · exact ⟨by omega, (lessS_good _ _).1⟩
        · exact ha y (by simp [hy])
    · split at hx
      · simp at hx
      · rename_i h
        have := lessGo_sets (a := a) (b := b) (pre := pre ++ [bothS s t]) (fun y hy => by
          simp only [List.mem_append, List.mem_singleton] at hy
          rcases hy with hy | rfl
          · exact hp y hy
          · exact ⟨by omega, (bothS_good _ _).1⟩) (fun y hy => ha y (by simp [hy])) x hx
        exact ⟨this.1, fun hl => by have := this.2 (by simpa using hl); simp at this ⊢; omega⟩
  | [], [], _, _, _, x, hx => by simp [lessGo] at hx
  | [], _ :: _, _, _, _, x, hx => by simp [lessGo] at hx
  | _ :: _, [], _, _, _, x, hx => by simp [lessGo] at hx

theorem zipBoth_size : ∀ (a b : Bx), (match zipBoth a b with | some x => prodS x | none => 0) = prodBoth a b ∧ ∀ x, zipBoth a b = some x → Sets x ∧ (a.length = b.length → x.length = a.length)
  | s :: a, t :: b => by
    have ih := zipBoth_size a b
    rw [zipBoth]
    by_cases h : (bothS s t).length = 0
    · rw [if_pos h]
      refine ⟨?_, fun x hx => by cases hx⟩
      simp only [prodBoth]
      rw [List.eq_nil_of_length_eq_zero h]; simp [sizeN]
    · rw [if_neg h]
      cases hz : zipBoth a b with
      | none =>
        rw [hz] at ih
        refine ⟨?_, fun x hx => by cases hx⟩
        simp only [Option.map_none, prodBoth]
        rw [← ih.1]; simp
      | some y =>
        rw [hz] at ih
        refine ⟨?_, fun x hx => ?_⟩
        · simp only [Option.map_some, prodBoth, prodS]
          rw [← ih.1]
        · simp at hx
          subst hx
          have := ih.2 y rfl
          refine ⟨fun z hzz => ?_, fun hl => by have := this.2 (by simpa using hl); simp [this]⟩
          simp only [List.mem_cons] at hzz
          rcases hzz with rfl | hzz
          · exact ⟨by omega, (bothS_good _ _).1⟩
          · exact this.1 z hzz
  | [], [] => ⟨rfl, fun x hx => by cases hx; exact ⟨fun _ h => by simp at h, fun _ => rfl⟩⟩
  | [], _ :: _ => ⟨rfl, fun x hx => by cases hx; exact ⟨fun _ h => by simp at h, fun h => by simp at h⟩⟩
  | _ :: _, [] => ⟨rfl, fun x hx => by cases hx; exact ⟨fun _ h => by simp at h, fun h => by simp at h⟩⟩

theorem goodBx_of {x : Bx} {n : Nat} (h : Sets x) (hl : x.length = n) (hn : n ≤ 3) : goodBx x (n : Int) = true := goodBx_iff.2 ⟨h, by omega, by omega⟩
theorem sizeBx_of {x : Bx} (h : Sets x) (hn : x.length ≤ 3) : sizeBx x = prodS x := by unfold sizeBx; rw [if_pos (goodBx_of h rfl hn)]
theorem sumSz_of {l : List Bx} (h : ∀ x ∈ l, Sets x ∧ x.length ≤ 3) : sumSz l = sumP l := by
  induction l with
  | nil => rfl
  | cons b l ih =>
    show sizeBx b + sumSz l = prodS b + sumP l
    rw [sizeBx_of (h b (by simp)).1 (h b (by simp)).2, ih fun x hx => h x (by simp [hx])]
theorem prodS_bd : ∀ {b : Bx}, Sets b → 0 ≤ prodS b ∧ prodS b ≤ 2000002 ^ b.length
  | [], _ => by simp [prodS]
  | s :: b, h => by
    have h1 := sizeN_bd2 (h s (by simp)).2
    have h2 := prodS_bd (b := b) fun x hx => h x (by simp [hx])
    have h3 := mul_bd h1.1 h1.2 h2.1 h2.2
    simp only [prodS, List.length_cons]
    rw [Int.pow_succ, Int.mul_comm ((2000002 : Int) ^ b.length)]
    exact h3
theorem sizeBx_bd (b : Bx) : 0 ≤ sizeBx b ∧ sizeBx b ≤ 8000024000024000008 := by
  unfold sizeBx
  split
  · rename_i h
    obtain ⟨h1, _, h3⟩ := goodBx_iff.1 h
    have h2 := prodS_bd h1
    refine ⟨h2.1, Int.le_trans h2.2 ?_⟩
    have : b.length = 0 ∨ b.length = 1 ∨ b.length = 2 ∨ b.length = 3 := by omega
    rcases this with h | h | h | h <;> rw [h] <;> decide
  · decide

/-- The least input of a box is in it. -/
theorem point_in : ∀ {b : Bx}, Sets b → inBx b (pointBx b) = true
  | [], _ => rfl
  | s :: b, h => by
    have ih := point_in (b := b) fun x hx => h x (by simp [hx])
    have hs := h s (by simp)
    match s, hs with
    | r :: t, hs =>
      have h1 : pointBx ((r :: t) :: b) = r.1 :: pointBx b := rfl
      rw [h1, inBx, ih, hasL_cons]
      have : inR r r.1 = true := (inR_iff _ _).2 ⟨Int.le_refl _, hs.2.2.2.1⟩
      rw [this]; rfl

end Go.Proofs.YtlopccnehgolnabGreatDoor
