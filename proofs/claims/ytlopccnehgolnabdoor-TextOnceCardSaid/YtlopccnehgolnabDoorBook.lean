
/- Books as data; the contracts of FindDomain and FindTable. -/
import Derived.Test.YtlopccnehgolnabDoorTabT
namespace Go.Proofs.YtlopccnehgolnabDoor
open Go.RowKit Rb

structure Dm where
  name : Txt
  lo : Int
  hi : Int
structure Bk where
  doms : List Dm
  tabs : List Tb

def rDm : Rd Dm where
  k := 3
  bytes := 32
  rel _ _ cs x := cs = [.string ⟨x.name.toArray⟩, .int .i64 x.lo, .int .i64 x.hi] ∧ x.name.length ≤ 140737488355328 ∧ InI x.lo ∧ InI x.hi
  len h := by obtain ⟨rfl, _⟩ := h; rfl
  keep h _ := h
  mono h _ := h
  one h u hu := by
    obtain ⟨rfl, _⟩ := h
    simp at hu
    rcases hu with rfl | rfl | rfl <;> rfl

def rBk : Rd Bk where
  k := 2
  bytes := 48
  rel w S cs x := ∃ v u, cs = [v, u] ∧ (rSl rDm).rel w S [v] x.doms ∧ (rSl rTb).rel w S [u] x.tabs
  len h := by obtain ⟨v, u, rfl, _⟩ := h; rfl
  keep h hk := by obtain ⟨v, u, e, h1, h2⟩ := h; exact ⟨v, u, e, (rSl rDm).keep h1 hk, (rSl rTb).keep h2 hk⟩
  mono h hk := by obtain ⟨v, u, e, h1, h2⟩ := h; exact ⟨v, u, e, (rSl rDm).mono h1 hk, (rSl rTb).mono h2 hk⟩
  one h u hu := by
    obtain ⟨v, u', rfl, h1, h2⟩ := h
    simp at hu
    rcases hu with rfl | rfl
    · exact (rSl rDm).one h1 _ (by simp)
    · exact (rSl rTb).one h2 _ (by simp)

def tb0 : Tb := ⟨[], 0, false, [], []⟩
def tbOf (o : Option Tb) : Tb := match o with | some t => t | none => tb0
def dm0 : Dm := ⟨[], 0, 0⟩
def dmOf (o : Option Dm) : Dm := match o with | some d => d | none => dm0
def findT (l : List Tb) (s : Txt) : Option Tb := l.find? fun t => t.name == s
def findD (l : List Dm) (s : Txt) : Option Dm := l.find? fun d => d.name == s
theorem find_at {α : Type} {p : α → Bool} {l : List α} {k : Nat} {x : α} (h : l[k]? = some x) : (l.drop k).find? p = if p x then some x else (l.drop (k + 1)).find? p := by
  rw [drop_cons h, List.find?_cons]
  cases p x <;> rfl

/-- Five cells are stored over. -/
theorem store5 {w : World} {q : Nat} {u0 u1 u2 u3 u4 : Value} (v0 v1 v2 v3 v4 : Value) (h0 : w.cell? ⟨q, 0, none⟩ = some u0) (h1 : w.cell? ⟨q, 1, none⟩ = some u1) (h2 : w.cell? ⟨q, 2, none⟩ = some u2) (h3 : w.cell? ⟨q, 3, none⟩ = some u3) (h4 : w.cell? ⟨q, 4, none⟩ = some u4) :
    ∃ W, ((((w.setCell ⟨q, 0, none⟩ v0).setCell ⟨q, 1, none⟩ v1).setCell ⟨q, 2, none⟩ v2).setCell ⟨q, 3, none⟩ v3).setCell ⟨q, 4, none⟩ v4 = W ∧ (∀ B, B ≤ q → ∀ w0, Below B w0 w → Below B w0 W) ∧
      W.cell? ⟨q, 0, none⟩ = some v0 ∧ W.cell? ⟨q, 1, none⟩ = some v1 ∧ W.cell? ⟨q, 2, none⟩ = some v2 ∧ W.cell? ⟨q, 3, none⟩ = some v3 ∧ W.cell? ⟨q, 4, none⟩ = some v4 := by
  have o : ∀ (w : World) (i j : Nat) (v : Value), i ≠ j → (w.setCell ⟨q, i, none⟩ v).cell? ⟨q, j, none⟩ = w.cell? ⟨q, j, none⟩ := fun w i j v h => World.cell?_setCell_other _ _ _ _ (by simp <;> omega)
  refine ⟨_, rfl, fun B hB w0 hb => ((((hb.setCell hB _).setCell hB _).setCell hB _).setCell hB _).setCell hB _, ?_, ?_, ?_, ?_, ?_⟩
  · rw [o _ 4 0 _ (by decide), o _ 3 0 _ (by decide), o _ 2 0 _ (by decide), o _ 1 0 _ (by decide)]
    exact World.cell?_setCell_same _ _ _ h0
  · rw [o _ 4 1 _ (by decide), o _ 3 1 _ (by decide), o _ 2 1 _ (by decide)]
    exact World.cell?_setCell_same _ _ _ ((o _ 0 1 _ (by decide)).trans h1)
  · rw [o _ 4 2 _ (by decide), o _ 3 2 _ (by decide)]
    exact World.cell?_setCell_same _ _ _ ((o _ 1 2 _ (by decide)).trans ((o _ 0 2 _ (by decide)).trans h2))
  · rw [o _ 4 3 _ (by decide)]
    exact World.cell?_setCell_same _ _ _ ((o _ 2 3 _ (by decide)).trans ((o _ 1 3 _ (by decide)).trans ((o _ 0 3 _ (by decide)).trans h3)))
  · exact World.cell?_setCell_same _ _ _ ((o _ 3 4 _ (by decide)).trans ((o _ 2 4 _ (by decide)).trans ((o _ 1 4 _ (by decide)).trans ((o _ 0 4 _ (by decide)).trans h4))))

section
variable {w : World} {S : Nat → Prop} {A : Option Addr} {l : List Tb}
/-- A table in a row of tables. -/
theorem Elems.tb (h : Elems rTb w S A l) {i : Nat} (hi : i < l.length) : ∃ b off x A1 c1 A2 c2, A = some ⟨b, off, none⟩ ∧ b < w.heap.size ∧ l[i]? = some x ∧ rTb.rel w S [.string ⟨x.name.toArray⟩, .int .i64 x.pol, .bool x.comp, .slice A1 x.ins.length c1, .slice A2 x.rules.length c2] x ∧
    w.cell? ⟨b, off + i * 5, none⟩ = some (.string ⟨x.name.toArray⟩) ∧ w.cell? ⟨b, off + i * 5 + 1, none⟩ = some (.int .i64 x.pol) ∧ w.cell? ⟨b, off + i * 5 + 2, none⟩ = some (.bool x.comp) ∧ w.cell? ⟨b, off + i * 5 + 3, none⟩ = some (.slice A1 x.ins.length c1) ∧ w.cell? ⟨b, off + i * 5 + 4, none⟩ = some (.slice A2 x.rules.length c2) := by
  obtain ⟨b, off, es, hA, hS, hb, hr, hc⟩ := h i l[i] (List.getElem?_eq_getElem hi)
  have hr' := hr
  obtain ⟨v, u, rfl, _, _, h1, h2⟩ := hr
  obtain ⟨A1, c1, rfl, _⟩ := rSl.elems h1
  obtain ⟨A2, c2, rfl, _⟩ := rSl.elems h2
  exact ⟨b, off, l[i], A1, c1, A2, c2, hA, hb, List.getElem?_eq_getElem hi, hr', hc 0 _ rfl, hc 1 _ rfl, hc 2 _ rfl, hc 3 _ rfl, hc 4 _ rfl⟩
theorem tb0_rel (w : World) : rTb.rel w (fun _ => True) [.string ⟨#[]⟩, .int .i64 0, .bool false, .slice none 0 0, .slice none 0 0] tb0 :=
  ⟨_, _, rfl, by decide, by unfold InI; decide, ⟨none, 0, rfl, Nat.le_refl _, by decide, by simp [tb0], fun i x hx => by simp [tb0] at hx⟩, ⟨none, 0, rfl, Nat.le_refl _, by decide, by simp [tb0], fun i x hx => by simp [tb0] at hx⟩⟩
end

end Go.Proofs.YtlopccnehgolnabDoor
