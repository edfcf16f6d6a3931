
/- The contract of the reference's SameTable, of two tables that read alike. -/
import Derived.Test.YtlopccnehgolnabDoorJoin
import Derived.Test.YtlopccnehgolnabDoorCopyT
import Derived.Test.YtlopccnehgolnabDoorAlloc2
import Derived.Deep.DeepMust
namespace Go.Proofs.YtlopccnehgolnabDoor
open Go.RowKit Rb

def joinC (l : List Txt) : List UInt8 := Lib.join l [44]
/-- The texts, joined, fit into memory. -/
def JoinFits (l : List Txt) : Prop := (joinC l).length ≤ 140737488355328

theorem Join_any {S : Nat → Prop} {v : Value} {l : List Txt} (w : World) (hl : (rSl rStr).rel w S [v] l) (hj : JoinFits l) :
    Calls Tryd.prog 18 #[v, .string ⟨#[44]⟩] w fun e w' => e = .returned (.string ⟨(joinC l).toArray⟩) ∧ Below w.heap.size w w' := by
  obtain ⟨A, c, rfl, hc, _, hb, hE⟩ := rSl.elems hl
  have hlen : l.length ≤ 8796093022208 := by simp only [rStr] at hb; omega
  rcases Nat.eq_zero_or_pos l.length with h0 | h0
  · obtain rfl : l = [] := List.eq_nil_of_length_eq_zero h0
    exact (Tryd.strings_Join_none A c ⟨#[44]⟩ w).mono fun e w' ⟨he, hw⟩ => ⟨he, hw ▸ Below.refl _ _⟩
  · obtain ⟨b, off, s, rfl, _, hb, hx, _, _⟩ := hE.str h0
    have hm : (l.map fun s : Txt => (⟨s.toArray⟩ : ByteArray)).map (·.data.toList) = l := by
      rw [List.map_map]
      exact (List.map_congr_left fun s _ => by simp).trans (List.map_id l)
    have h := Tryd.strings_Join b off c (l.map fun s : Txt => (⟨s.toArray⟩ : ByteArray)) ⟨#[44]⟩ w (fun j x hx => by
      rw [List.getElem?_map, Option.map_eq_some_iff] at hx
      obtain ⟨s', hs', rfl⟩ := hx
      have hlt : j < l.length := (List.getElem?_eq_some_iff.1 hs').1
      obtain ⟨b', off', s'', hA, _, _, hx', _, hc'⟩ := hE.str hlt
      obtain ⟨rfl, rfl⟩ : b = b' ∧ off = off' := by simpa using hA
      obtain rfl : s' = s'' := by rw [hs'] at hx'; exact Option.some.inj hx'
      exact hc') hb (by rw [List.length_map]; omega) (by rw [List.length_map]; exact hc) (by rw [hm]; exact hj)
    rw [List.length_map, hm] at h
    exact h

theorem SameSet_same {S T : Nat → Prop} {v u : Value} {a : List Rg} (w : World) (hl : (rSl rRg).rel w S [v] a) (hm : (rSl rRg).rel w T [u] a) :
    Calls Tryd.prog 44 #[v, u] w fun e w' => e = .returned (.bool true) ∧ Below w.heap.size w w' := by
  have h := SameSet_any w hl hm
  rwa [decide_eq_true rfl] at h

end Go.Proofs.YtlopccnehgolnabDoor
