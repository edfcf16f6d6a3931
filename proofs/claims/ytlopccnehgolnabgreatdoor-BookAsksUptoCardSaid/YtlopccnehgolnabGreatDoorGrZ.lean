/- What the bound of the second form gives: the texts of a table's inputs, joined, fit into memory. What the bound of the second form gives of a book: the texts of each table's inputs, joined, fit into memory. -/
import Derived.Test.YtlopccnehgolnabGreatDoorGrY
import Derived.Test.YtlopccnehgolnabGreatDoorOpenTb
import Derived.Test.YtlopccnehgolnabGreatDoorRows
import Derived.Test.YtlopccnehgolnabGreatDoorOpenBk
namespace Go.Proofs.YtlopccnehgolnabGreatDoor
open Go.ChangeShapes Go.WideShapes Go.ChangeAt Go.RowKit Go.Deep

theorem bulk_part {H : Type} {d : DataW H} {l : List (DataW H)} (h : d ∈ l) : Rows.uptoBulk d ≤ Rows.uptoBulkAll l := by
  induction l with
  | nil => cases h
  | cons x r ih =>
    simp only [Rows.uptoBulkAll]
    rcases List.mem_cons.1 h with e | e
    · subst e; omega
    · have := ih e; omega
theorem bulk_app {H : Type} (l r : List (DataW H)) : Rows.uptoBulkAll (l ++ r) = Rows.uptoBulkAll l + Rows.uptoBulkAll r := by
  induction l with
  | nil => simp [Rows.uptoBulkAll]
  | cons x l ih => simp only [List.cons_append, Rows.uptoBulkAll, ih]; omega

def sumT (l : List Txt) : Nat := (l.map fun s => s.length + 1).sum
theorem join_len : ∀ l : List Txt, (joinC l).length ≤ sumT l
  | [] => by simp [joinC, Lib.join_nil, sumT]
  | x :: r => by
    unfold joinC
    rw [Lib.join_cons]
    have h : ∀ r : List Txt, (Lib.joinTail [44] r).length = sumT r := by
      intro r
      induction r with
      | nil => rfl
      | cons y r ih =>
        have : (Lib.joinTail [44] (y :: r)).length = (y.length + 1) + (Lib.joinTail [44] r).length := by simp [Lib.joinTail] <;> omega
        rw [this, ih]
        simp [sumT]
    rw [List.length_append, h]
    simp [sumT] <;> omega

set_option maxRecDepth 100000 in
theorem bulk_txts {H : Type} {enc : TypeId × Value → H} {w : World} {base : Nat} {sp : Nat → Bool} {held : Bool} {fuel : Nat} {v : Value} {x : DataW H × List MemPlace} {S : Nat → Prop} {l : List Txt}
    (h : DataW.trod enc Tryz.prog w base sp held fuel 39 [v] = some x) (hl : (rSl rStr).rel w S [v] l) : sumT l ≤ Rows.uptoBulk x.1 := by
  obtain ⟨A, c, rfl, _, _, _, hE⟩ := rSl.elems hl
  rcases open_slice Tryz.underlying39 h with ⟨hv, _⟩ | ⟨a, len, cap, m, n, D, Pl, hv, _, hlc, hm, hmm, hx, hi⟩
  · have hv' : l.length = 0 := by injection hv with hv _; injection hv
    rw [List.eq_nil_of_length_eq_zero hv']
    simp [sumT]
  · injection hv with hv _
    injection hv with hA hlen _
    subst hA hlen
    have hmlen : l.length ≤ m := by rw [hmm]; split <;> omega
    have key : ∀ i s, l[i]? = some s → Rows.uptoBulk (D i) = s.length + 1 := by
      intro i s hs
      have hil : i < l.length := (List.getElem?_eq_some_iff.1 hs).1
      obtain ⟨b, off, s', hA, _, _, hs', _, hc⟩ := hE.str hil
      obtain rfl : s = s' := by rw [hs] at hs'; exact Option.some.inj hs'
      obtain rfl : a = ⟨b, off, none⟩ := Option.some.inj hA
      obtain ⟨cs', hc', htr⟩ := hi i (by omega)
      obtain ⟨_, hlen', hcell⟩ := World.cells?_some hc'
      obtain ⟨z, rfl, hz, _⟩ := DataW.trod_string Tryz.underlying9 htr
      have h1 := hcell 0 (by rw [show Tryz.prog.cellsOf 9 = 1 by kernel_rfl]; omega)
      have hadd : ((⟨b, off, none⟩ : Addr).add (i * Tryz.prog.cellsOf 9)).add 0 = ⟨b, off + i, none⟩ := by
        rw [show Tryz.prog.cellsOf 9 = 1 by kernel_rfl, Nat.mul_one]
        unfold Addr.add; split <;> simp_all
      rw [hadd, hc] at h1
      have h2 : (Value.string ⟨s.toArray⟩) = Value.string z := by simpa using h1
      injection h2 with h2
      have h3 : D i = .lit (.string z.data.toList) := congrArg Prod.fst hz
      rw [h3, ← h2]
      simp [Rows.uptoBulk]
    have hsum : ∀ n, n ≤ l.length → sumT (l.take n) = Rows.uptoBulkAll ((List.range n).map D) := by
      intro n
      induction n with
      | zero => intro _; simp [sumT, Rows.uptoBulkAll]
      | succ n ih =>
        intro hn
        have hg : l[n]? = some l[n] := List.getElem?_eq_getElem (by omega)
        rw [List.take_add_one, hg, Option.toList_some, List.range_succ, List.map_append, bulk_app, ← ih (by omega)]
        simp only [sumT, List.map_append, List.sum_append, List.map_cons, List.map_nil, List.sum_cons, List.sum_nil, Rows.uptoBulkAll, key n _ hg]
    have := hsum l.length (Nat.le_refl _)
    rw [List.take_length] at this
    rw [this, hx]
    simp only [Rows.uptoBulk]
    omega

set_option maxRecDepth 100000 in
theorem bulk_ins {H : Type} {enc : TypeId × Value → H} {w : World} {base : Nat} {sp : Nat → Bool} {held : Bool} {fuel : Nat} {cs : List Value} {x : DataW H × List MemPlace} {S : Nat → Prop} {t : Tb}
    (h : DataW.trod enc Tryz.prog w base sp held fuel 42 cs = some x) (hl : rTb.rel w S cs t) : sumT t.ins ≤ Rows.uptoBulk x.1 := by
  obtain ⟨v, u, rfl, _, _, hi, _⟩ := hl
  obtain ⟨xs, n, _, hx, _, hlx, hat⟩ := DataW.trod_struct tb_struct h
  have hf : (Tryz.prog.fieldsOf 42)[3]? = some ⟨ "Inputs", 39, 3, false, "", "", 32⟩ := by rw [← Array.getElem?_toList, tb_fields]; rfl
  have hj : 3 < xs.length := by rw [hlx]; exact (Array.getElem?_eq_some_iff.1 hf).1
  have h1 := hat 3 _ hf
  rw [List.getElem?_eq_getElem hj] at h1
  have h2 := bulk_txts (v := v) (by rw [show Tryz.prog.cellsOf 39 = 1 by kernel_rfl] at h1; exact h1) hi
  refine Nat.le_trans h2 ?_
  rw [hx]
  have := bulk_part (d := xs[3].1) (l := xs.map (·.1)) (List.mem_map.2 ⟨xs[3], List.getElem_mem hj, rfl⟩)
  simp only [Rows.uptoBulk]
  omega

/-- Of an argument that the bound covers. -/
theorem fits_of_bulk {H : Type} {enc : TypeId × Value → H} {w : World} {base : Nat} {sp : Nat → Bool} {held : Bool} {v : Value} {d : DataW H} {p : List MemPlace} {S : Nat → Prop} {t : Tb} {ds : List (DataW H)}
    (h : DataW.Trod enc Tryz.prog w base sp held 42 v d p) (hl : rTb.rel w S v.cells.toList t) (hd : d ∈ ds) (hk : Rows.uptoSmall H ds = true) : JoinFits t.ins := by
  obtain ⟨fuel, hf⟩ := h
  have h1 := bulk_ins hf hl
  have h2 := bulk_part hd
  have h3 : Rows.uptoBulkAll ds ≤ 1048576 := of_decide_eq_true hk
  have h4 := join_len t.ins
  unfold JoinFits
  dsimp only at h1
  omega

end Go.Proofs.YtlopccnehgolnabGreatDoor

namespace Go.Proofs.YtlopccnehgolnabGreatDoor
open Go.ChangeShapes Go.WideShapes Go.ChangeAt Go.RowKit Go.Deep

theorem addr_at (b off n : Nat) : (⟨b, off, none⟩ : Addr).add n = ⟨b, off + n, none⟩ := by
  unfold Addr.add
  split
  · rename_i h; subst h; rfl
  · rfl

set_option maxRecDepth 100000 in
theorem bulk_tabs {H : Type} {enc : TypeId × Value → H} {w : World} {base : Nat} {sp : Nat → Bool} {held : Bool} {fuel : Nat} {v : Value} {x : DataW H × List MemPlace} {S : Nat → Prop} {l : List Tb}
    (h : DataW.trod enc Tryz.prog w base sp held fuel 31 [v] = some x) (hl : (rSl rTb).rel w S [v] l) : ∀ t ∈ l, sumT t.ins ≤ Rows.uptoBulk x.1 := by
  obtain ⟨A, c, rfl, _, _, _, hE⟩ := rSl.elems hl
  intro t ht
  obtain ⟨i, hi0, rfl⟩ := List.getElem_of_mem ht
  rcases open_slice Tryz.underlying31 h with ⟨hv, _⟩ | ⟨a, len, cap, m, n, D, Pl, hv, _, hlc, hm, hmm, hx, hi⟩
  · have hv' : l.length = 0 := by injection hv with hv _; injection hv
    omega
  · injection hv with hv _
    injection hv with hA hlen _
    subst hA hlen
    have hmlen : l.length ≤ m := by rw [hmm]; split <;> omega
    obtain ⟨b, off, es, hA, _, _, hr, hc⟩ := hE i l[i] (List.getElem?_eq_getElem hi0)
    obtain rfl : a = ⟨b, off, none⟩ := Option.some.inj hA
    obtain ⟨cs', hc', htr⟩ := hi i (by omega)
    obtain ⟨_, hlen', hcell⟩ := World.cells?_some hc'
    have hk : Tryz.prog.cellsOf 42 = 5 := by kernel_rfl
    rw [hk] at hlen' hcell
    have hle : es.length = 5 := rTb.len hr
    have he : es = cs' := by
      refine List.ext_getElem? fun j => ?_
      by_cases hj : j < 5
      · have h1 := hcell j hj
        have h2 : es[j]? = some es[j] := List.getElem?_eq_getElem (by omega)
        have h3 := hc j _ h2
        have hadd : ((⟨b, off, none⟩ : Addr).add (i * 5)).add j = (⟨b, off + i * 5 + j, none⟩ : Addr) := by
          rw [addr_at, addr_at]
        rw [hadd] at h1
        have h4 : w.cell? ⟨b, off + i * 5 + j, none⟩ = some es[j] := h3
        rw [h4] at h1
        rw [h2, h1]
      · rw [List.getElem?_eq_none (by omega), List.getElem?_eq_none (by omega)]
    subst he
    have h1 := bulk_ins htr hr
    refine Nat.le_trans h1 ?_
    have h2 := bulk_part (d := D i) (l := (List.range l.length).map D) (List.mem_map.2 ⟨i, List.mem_range.2 hi0, rfl⟩)
    rw [hx]
    simp only [Rows.uptoBulk]
    omega

set_option maxRecDepth 100000 in
theorem bulk_book {H : Type} {enc : TypeId × Value → H} {w : World} {base : Nat} {sp : Nat → Bool} {held : Bool} {fuel : Nat} {cs : List Value} {x : DataW H × List MemPlace} {S : Nat → Prop} {b : Bk}
    (h : DataW.trod enc Tryz.prog w base sp held fuel 33 cs = some x) (hl : rBk.rel w S cs b) : ∀ t ∈ b.tabs, sumT t.ins ≤ Rows.uptoBulk x.1 := by
  obtain ⟨v, u, rfl, _, hi⟩ := hl
  obtain ⟨xs, n, _, hx, _, hlx, hat⟩ := DataW.trod_struct bk_struct h
  have hf : (Tryz.prog.fieldsOf 33)[1]? = some ⟨ "Tables", 31, 1, false, "", "", 24⟩ := by rw [← Array.getElem?_toList, bk_fields]; rfl
  have hj : 1 < xs.length := by rw [hlx]; exact (Array.getElem?_eq_some_iff.1 hf).1
  have h1 := hat 1 _ hf
  rw [List.getElem?_eq_getElem hj] at h1
  have h2 := bulk_tabs (v := u) (by rw [show Tryz.prog.cellsOf 31 = 1 by kernel_rfl] at h1; exact h1) hi
  intro t ht
  refine Nat.le_trans (h2 t ht) ?_
  rw [hx]
  have := bulk_part (d := xs[1].1) (l := xs.map (·.1)) (List.mem_map.2 ⟨xs[1], List.getElem_mem hj, rfl⟩)
  simp only [Rows.uptoBulk]
  omega

/-- Of an argument that the bound covers. -/
theorem fits_of_bulkB {H : Type} {enc : TypeId × Value → H} {w : World} {base : Nat} {sp : Nat → Bool} {held : Bool} {v : Value} {d : DataW H} {p : List MemPlace} {S : Nat → Prop} {b : Bk} {ds : List (DataW H)}
    (h : DataW.Trod enc Tryz.prog w base sp held 33 v d p) (hl : rBk.rel w S v.cells.toList b) (hd : d ∈ ds) (hk : Rows.uptoSmall H ds = true) : ∀ t ∈ b.tabs, JoinFits t.ins := by
  obtain ⟨fuel, hf⟩ := h
  intro t ht
  have h1 := bulk_book hf hl t ht
  have h2 := bulk_part hd
  have h3 : Rows.uptoBulkAll ds ≤ 1048576 := of_decide_eq_true hk
  have h4 := join_len t.ins
  unfold JoinFits
  dsimp only at h1
  omega

end Go.Proofs.YtlopccnehgolnabGreatDoor
