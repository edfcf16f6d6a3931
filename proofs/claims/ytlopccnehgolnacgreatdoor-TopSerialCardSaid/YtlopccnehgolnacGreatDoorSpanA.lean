import Derived.Test.YtlopccnehgolnacGreatDoorProg
import Derived.Test.YtlopccnehgolnacGreatDoorGK0
import Derived.LoopTactic
import Derived.Outline
import Derived.Deep.QuietTactic
import Derived.BigQuiet
import Derived.KernelRfl
import Derived.Lib.Hide
namespace Go.Proofs.YtlopccnehgolnacGreatDoor
open Go.RowKit Rb
def rRg : Rd Rg where
 k := 2
 bytes := 16
 rel _ _ cs x := cs = [.int .i64 x.1, .int .i64 x.2] /\ InI x.1 /\ InI x.2
 len h := by rw [h.1]; rfl
 keep h _ := h
 mono h _ := h
 one h u hu := by rw [h.1] at hu; simp at hu; rcases hu with rfl | rfl <;> rfl
def rRgs : Rd (List Rg) := rSl rRg
section
variable {w : World} {S : Nat -> Prop} {A : Option Addr} {l : List Rg}
theorem Elems.rg (h : Elems rRg w S A l) {i : Nat} (hi : i < l.length) : ∃ b off lo up, A = some (zn b off) /\ S b /\ b < w.heap.size /\ l[i]? = some (lo, up) /\ InI lo /\ InI up /\
  w.cell? (zn b (off + i * 2)) = some (.int .i64 lo) /\ w.cell? (zn b (off + i * 2 + 1)) = some (.int .i64 up) := by
 obtain ⟨b, off, es, hA, hS, hb, ⟨rfl, h1, h2⟩, hc⟩ := h i l[i] (L0f hi)
 exact ⟨b, off, l[i].1, l[i].2, hA, hS, hb, L0f hi, h1, h2, hc 0 _ rfl, hc 1 _ rfl⟩
theorem rRgs.elems {v : Value} (h : rRgs.rel w S [v] l) : ∃ A c, v = .slice A l.length c /\ l.length <= c /\ c <= maxLen /\ l.length <= 8796093022208 /\ Elems rRg w S A l := by
 obtain ⟨A, c, hv, h1, h2, h3, h4⟩ := h
 simp only [L1f, and_true] at hv
 exact ⟨A, c, hv, h1, h2, by have : l.length * 16 <= 140737488355328 := h3; omega, h4⟩
end
theorem Z0c {α : Type} {l : List α} {k : Nat} {x : α} (h : l[k]? = some x) : l.take (k + 1) = l.take k ++ [x] := by
 rw [L1k, h]; rfl
theorem Y7f (n : Int) (w : World) : Calls Tryz.prog 130 #[.int .i64 n] w fun e w' => e = .returned (.bool (Z0z n)) /\ w = w' := by
 go_enter Tryz.func130, Tryz.ntmps130
 go_wp2
 all_goals
  go_ret
  refine ⟨Z0m ?_, rfl⟩
  rw [L3t, Z07]
  simp
  omega
theorem Y8y (l : List Rg) (r : Rg) (n : Int) : hasL (l ++ [r]) n = (hasL l n || inR r n) := by simp [hasL]
theorem Z0p {α : Type} {l : List α} {k : Nat} {x : α} (h : l[k]? = some x) : l.drop k = x :: l.drop (k + 1) := by
 obtain ⟨hk, rfl⟩ := L0n.1 h
 exact List.drop_eq_getElem_cons hk
