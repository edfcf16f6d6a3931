
/- Contract of Less: the set of what is in one set and not in another one. -/
import Derived.Test.YtlopccnehgolnaaDoorPairB
namespace Go.Proofs.YtlopccnehgolnaaDoor
open Go.RowKit Rb

theorem grown_cell {w w' : World} {row : Option Nat} (hg : w.grownBy w' row) {q : Nat} (hq : q < w.heap.size) (hne : row ≠ some q) (o : Nat) :
    w'.cell? ⟨q, o, none⟩ = w.cell? ⟨q, o, none⟩ ∧ w'.frozen? ⟨q, o, none⟩ = w.frozen? ⟨q, o, none⟩ :=
  ⟨World.cell?_of_block (w := w) (hg.block q hq fun e => hne e.symm), World.frozen?_of_block (w := w) (hg.block q hq fun e => hne e.symm)⟩
theorem grown_setCell (w : World) (p : Addr) (u : Value) : w.grownBy (w.setCell p u) (some p.block) :=
  ⟨rfl, rfl, rfl, by simp [World.setCell], fun k _ hne => Below.heap_setCell _ _ _ _ (fun e => hne (by rw [e]))⟩
theorem Own.kept_flat {α : Type} {R : Rd α} {e : TypeId} {w w' : World} {base : Nat} {S0 : Nat → Prop} {v : Value} {xs : List α} {row : Option Nat} (h : Own R e w base S0 v xs) (hF : Flat R) (hg : w.grownBy w' row) (hne : v.ownBlock = none ∨ v.ownBlock ≠ row) :
    Own R e w' base (fun _ => False) v xs := by
  obtain ⟨S, ⟨cells, h1, _, h3, h4⟩, _⟩ := h
  exact ⟨fun _ => False, ⟨cells, h1.kept hg hne, fun _ _ h => h, h3, fun i x hx => hF _ _ _ _ _ _ (h4 i x hx)⟩, fun _ h => h.elim⟩

/-- What a round of Less leaves. -/
structure LessOut (a b : List Rg) (x n : Nat) (out : List Rg) : Prop where
  len : out.length ≤ n + b.length + 1
  inv : InvO b (a.take (x + 1)) out

theorem LessOut.of {a b out out3 bs : List Rg} {x : Nat} {lo0 up lo : Int} (ht : a.take (x + 1) = a.take x ++ [(lo0, up)]) (hi : InvO b (a.take x) out) (hl : InvL out b (lo0, up) bs out3 lo) (hs : bs = [] ∨ up < lo) (hn : out3.length ≤ out.length + b.length) :
    LessOut a b x out.length (putR out3 (lo, up)) :=
  ⟨by have := putR_len out3 (lo, up); omega, by rw [ht]; exact hi.step (hl.fin hs)⟩

end Go.Proofs.YtlopccnehgolnaaDoor
