
/- Tables as data: texts, cells, rules, tables; what is said of them. -/
import Derived.Test.YtlopccnehgolnabDoorSpanA
import Derived.Lib.QuietBelow
namespace Go.Proofs.YtlopccnehgolnabDoor
open Go.RowKit Rb

abbrev Txt := List UInt8
def named (s : Txt) : Bool := s.all (fun c => decide (97 ≤ c.toNat) && decide (c.toNat ≤ 122)) && (decide (1 ≤ s.length) && decide (s.length ≤ 8))

structure Cl where
  no : Bool
  rs : List Rg
structure Rl where
  cells : List Cl
  out : Int
structure Tb where
  name : Txt
  pol : Int
  comp : Bool
  ins : List Txt
  rules : List Rl

def goodCell (c : Cl) : Bool := decide (c.rs.length ≤ 4) && isSet c.rs && !(c.no && decide (c.rs.length = 0))
def goodRule (n : Nat) (r : Rl) : Bool := isNum r.out && decide (r.cells.length = n) && r.cells.all goodCell
/-- Names, each once. -/
def goodIns : List Txt → List Txt → Bool
  | _, [] => true
  | seen, s :: t => named s && !seen.contains s && goodIns (seen ++ [s]) t
def goodHead (t : Tb) : Bool := named t.name && decide (1 ≤ t.pol) && decide (t.pol ≤ 7) && decide (1 ≤ t.ins.length) && decide (t.ins.length ≤ 3) && decide (1 ≤ t.rules.length) && decide (t.rules.length ≤ 6)
def goodT (t : Tb) : Bool := goodHead t && goodIns [] t.ins && t.rules.all (goodRule t.ins.length)

def cellHolds (c : Cl) (n : Int) : Bool := decide (c.rs.length = 0) && !c.no || (hasL c.rs n != c.no)
def cellsHold : List Cl → List Int → Bool
  | [], [] => true
  | c :: cs, n :: ns => cellHolds c n && cellsHold cs ns
  | _, _ => false
def ruleHolds (r : Rl) (ns : List Int) : Bool := cellsHold r.cells ns
def holdsAt (rs : List Rl) (ns : List Int) (i : Nat) : Bool := match rs[i]? with | some r => ruleHolds r ns | none => false
/-- The numbers of the rules that hold, of the first k. -/
def matchesTo (rs : List Rl) (ns : List Int) (k : Nat) : List Int := ((List.range k).filter (holdsAt rs ns)).map fun i => ((i : Nat) : Int)
def matchesL (rs : List Rl) (ns : List Int) : List Int := matchesTo rs ns rs.length

theorem cellsHold_len : ∀ {cs : List Cl} {ns : List Int}, cellsHold cs ns = true → cs.length = ns.length
  | [], [], _ => rfl
  | c :: cs, n :: ns, h => by
    simp only [cellsHold, Bool.and_eq_true] at h
    simp [cellsHold_len h.2]
  | [], _ :: _, h => by simp [cellsHold] at h
  | _ :: _, [], h => by simp [cellsHold] at h

/-- Data of a struct: a truth value and a list of ranges. -/
def rCl : Rd Cl where
  k := 2
  bytes := 32
  rel w S cs x := ∃ v, cs = [.bool x.no, v] ∧ (rSl rRg).rel w S [v] x.rs
  len h := by obtain ⟨v, rfl, _⟩ := h; rfl
  keep h hk := by obtain ⟨v, e, h⟩ := h; exact ⟨v, e, (rSl rRg).keep h hk⟩
  mono h hk := by obtain ⟨v, e, h⟩ := h; exact ⟨v, e, (rSl rRg).mono h hk⟩
  one h u hu := by
    obtain ⟨v, rfl, h⟩ := h
    simp at hu
    rcases hu with rfl | rfl
    · rfl
    · exact (rSl rRg).one h _ (by simp)

def rRl : Rd Rl where
  k := 2
  bytes := 32
  rel w S cs x := ∃ v, cs = [v, .int .i64 x.out] ∧ InI x.out ∧ (rSl rCl).rel w S [v] x.cells
  len h := by obtain ⟨v, rfl, _⟩ := h; rfl
  keep h hk := by obtain ⟨v, e, i, h⟩ := h; exact ⟨v, e, i, (rSl rCl).keep h hk⟩
  mono h hk := by obtain ⟨v, e, i, h⟩ := h; exact ⟨v, e, i, (rSl rCl).mono h hk⟩
  one h u hu := by
    obtain ⟨v, rfl, i, h⟩ := h
    simp at hu
    rcases hu with rfl | rfl
    · exact (rSl rCl).one h _ (by simp)
    · rfl

def rTb : Rd Tb where
  k := 5
  bytes := 80
  rel w S cs x := ∃ v u, cs = [.string ⟨x.name.toArray⟩, .int .i64 x.pol, .bool x.comp, v, u] ∧ x.name.length ≤ 140737488355328 ∧ InI x.pol ∧ (rSl rStr).rel w S [v] x.ins ∧ (rSl rRl).rel w S [u] x.rules
  len h := by obtain ⟨v, u, rfl, _⟩ := h; rfl
  keep h hk := by obtain ⟨v, u, e, i, j, h1, h2⟩ := h; exact ⟨v, u, e, i, j, (rSl rStr).keep h1 hk, (rSl rRl).keep h2 hk⟩
  mono h hk := by obtain ⟨v, u, e, i, j, h1, h2⟩ := h; exact ⟨v, u, e, i, j, (rSl rStr).mono h1 hk, (rSl rRl).mono h2 hk⟩
  one h u hu := by
    obtain ⟨v, u', rfl, i, j, h1, h2⟩ := h
    simp at hu
    rcases hu with rfl | rfl | rfl | rfl | rfl
    · rfl
    · rfl
    · rfl
    · exact (rSl rStr).one h1 _ (by simp)
    · exact (rSl rRl).one h2 _ (by simp)

section
variable {α : Type} {R : Rd α} {w : World} {S : Nat → Prop} {A : Option Addr} {l : List α}
/-- A slice that reads as a list. -/
theorem rSl.elems {v : Value} (h : (rSl R).rel w S [v] l) : ∃ A c, v = .slice A l.length c ∧ l.length ≤ c ∧ c ≤ maxLen ∧ l.length * R.bytes ≤ 140737488355328 ∧ Elems R w S A l := by
  obtain ⟨A, c, hv, h1, h2, h3, h4⟩ := h
  simp only [List.cons.injEq, and_true] at hv
  exact ⟨A, c, hv, h1, h2, h3, h4⟩
theorem Elems.intAt {l : List Int} (h : Elems rInt w S A l) {i : Nat} (hi : i < l.length) : ∃ b off n, A = some ⟨b, off, none⟩ ∧ S b ∧ b < w.heap.size ∧ l[i]? = some n ∧ InI n ∧ w.cell? ⟨b, off + i, none⟩ = some (.int .i64 n) := by
  obtain ⟨b, off, es, hA, hS, hb, ⟨rfl, h1⟩, hc⟩ := h i l[i] (List.getElem?_eq_getElem hi)
  exact ⟨b, off, l[i], hA, hS, hb, List.getElem?_eq_getElem hi, h1, by have := hc 0 _ rfl; simpa [rInt] using this⟩
theorem Elems.str {l : List Txt} (h : Elems rStr w S A l) {i : Nat} (hi : i < l.length) : ∃ b off s, A = some ⟨b, off, none⟩ ∧ S b ∧ b < w.heap.size ∧ l[i]? = some s ∧ s.length ≤ 140737488355328 ∧ w.cell? ⟨b, off + i, none⟩ = some (.string ⟨s.toArray⟩) := by
  obtain ⟨b, off, es, hA, hS, hb, ⟨rfl, h1⟩, hc⟩ := h i l[i] (List.getElem?_eq_getElem hi)
  exact ⟨b, off, l[i], hA, hS, hb, List.getElem?_eq_getElem hi, h1, by have := hc 0 _ rfl; simpa [rStr] using this⟩
theorem Elems.cl {l : List Cl} (h : Elems rCl w S A l) {i : Nat} (hi : i < l.length) : ∃ b off x v, A = some ⟨b, off, none⟩ ∧ S b ∧ b < w.heap.size ∧ l[i]? = some x ∧ (rSl rRg).rel w S [v] x.rs ∧
    w.cell? ⟨b, off + i * 2, none⟩ = some (.bool x.no) ∧ w.cell? ⟨b, off + i * 2 + 1, none⟩ = some v := by
  obtain ⟨b, off, es, hA, hS, hb, ⟨v, rfl, h1⟩, hc⟩ := h i l[i] (List.getElem?_eq_getElem hi)
  exact ⟨b, off, l[i], v, hA, hS, hb, List.getElem?_eq_getElem hi, h1, hc 0 _ rfl, hc 1 _ rfl⟩
theorem Elems.rl {l : List Rl} (h : Elems rRl w S A l) {i : Nat} (hi : i < l.length) : ∃ b off x v, A = some ⟨b, off, none⟩ ∧ S b ∧ b < w.heap.size ∧ l[i]? = some x ∧ InI x.out ∧ (rSl rCl).rel w S [v] x.cells ∧
    w.cell? ⟨b, off + i * 2, none⟩ = some v ∧ w.cell? ⟨b, off + i * 2 + 1, none⟩ = some (.int .i64 x.out) := by
  obtain ⟨b, off, es, hA, hS, hb, ⟨v, rfl, h0, h1⟩, hc⟩ := h i l[i] (List.getElem?_eq_getElem hi)
  exact ⟨b, off, l[i], v, hA, hS, hb, List.getElem?_eq_getElem hi, h0, h1, hc 0 _ rfl, hc 1 _ rfl⟩
end

theorem txt_eq (a b : Txt) : (⟨a.toArray⟩ : ByteArray) = ⟨b.toArray⟩ ↔ a = b := by
  constructor
  · intro h
    have := congrArg (fun x : ByteArray => x.data.toList) h
    simpa using this
  · rintro rfl; rfl

@[go_sem] theorem btl (s : Txt) : (⟨s.toArray⟩ : ByteArray).toList = s := by rw [ByteArray.toList_eq]
@[go_sem] theorem bget (s : Txt) (k : Nat) (h : k < (⟨s.toArray⟩ : ByteArray).size) : (⟨s.toArray⟩ : ByteArray)[k] = s[k]'(by simpa [ByteArray.size] using h) := rfl
def idxOf {α : Type} [BEq α] (l : List α) (s : α) : Int := match l.findIdx? (· == s) with | some i => i | none => -1

/-- A class of worlds: old memory as it was; and a load in it. -/
@[go_sem] theorem regrown_cell {w : World} {a : Addr} (d : Nat) (os : Array Obj) (h : a.block < w.heap.size) : (Go.Sort.grow (redrawn w d) os).cell? a = w.cell? a :=
  (below_regrown w d os).cell h
theorem el_I : ElemOf Tryd.prog rInt 75 3 := .mk' Tryd.underlying75 (z := .int .i64 0) (k := 1) (b := 8) (by kernel_rfl) rfl rfl rfl (by decide) (by decide)
theorem flat_I : Flat rInt := fun _ _ _ _ _ _ h => h
theorem flat_R : Flat rRg := fun _ _ _ _ _ _ h => h
theorem matchesTo_succ (rs : List Rl) (ns : List Int) (k : Nat) : matchesTo rs ns (k + 1) = matchesTo rs ns k ++ (if holdsAt rs ns k then [(k : Int)] else []) := by
  unfold matchesTo
  rw [List.range_succ, List.filter_append, List.map_append]
  cases h : holdsAt rs ns k <;> simp [h]
theorem matchesTo_len (rs : List Rl) (ns : List Int) (k : Nat) : (matchesTo rs ns k).length ≤ k := by
  unfold matchesTo
  rw [List.length_map]
  exact Nat.le_trans (List.length_filter_le _ _) (by simp)
end Go.Proofs.YtlopccnehgolnabDoor
