
/- Contracts of the plain readers of sets of ranges: number, InSet, IsSet, SameSet, Good, Has. -/
import Derived.Test.YtlopccnehgolnabDoorProg
import Derived.Test.YtlopccnehgolnabDoorBase
import Derived.Test.YtlopccnehgolnabDoorSpanMath
import Derived.LoopTactic
import Derived.Outline
import Derived.Deep.QuietTactic
import Derived.BigQuiet
import Derived.KernelRfl
import Derived.Lib.Hide
namespace Go.Proofs.YtlopccnehgolnabDoor
open Go.RowKit Rb

/-- A range as its two numbers. -/
def rRg : Rd Rg where
  k := 2
  bytes := 16
  rel _ _ cs x := cs = [.int .i64 x.1, .int .i64 x.2] ∧ InI x.1 ∧ InI x.2
  len h := by rw [h.1]; rfl
  keep h _ := h
  mono h _ := h
  one h u hu := by rw [h.1] at hu; simp at hu; rcases hu with rfl | rfl <;> rfl
/-- A list of ranges. -/
def rRgs : Rd (List Rg) := rSl rRg

section
variable {w : World} {S : Nat → Prop} {A : Option Addr} {l : List Rg}
theorem Elems.rg (h : Elems rRg w S A l) {i : Nat} (hi : i < l.length) : ∃ b off lo up, A = some ⟨b, off, none⟩ ∧ S b ∧ b < w.heap.size ∧ l[i]? = some (lo, up) ∧ InI lo ∧ InI up ∧
    w.cell? ⟨b, off + i * 2, none⟩ = some (.int .i64 lo) ∧ w.cell? ⟨b, off + i * 2 + 1, none⟩ = some (.int .i64 up) := by
  obtain ⟨b, off, es, hA, hS, hb, ⟨rfl, h1, h2⟩, hc⟩ := h i l[i] (List.getElem?_eq_getElem hi)
  exact ⟨b, off, l[i].1, l[i].2, hA, hS, hb, List.getElem?_eq_getElem hi, h1, h2, hc 0 _ rfl, hc 1 _ rfl⟩
theorem rRgs.elems {v : Value} (h : rRgs.rel w S [v] l) : ∃ A c, v = .slice A l.length c ∧ l.length ≤ c ∧ c ≤ maxLen ∧ l.length ≤ 8796093022208 ∧ Elems rRg w S A l := by
  obtain ⟨A, c, hv, h1, h2, h3, h4⟩ := h
  simp only [List.cons.injEq, and_true] at hv
  exact ⟨A, c, hv, h1, h2, by have : l.length * 16 ≤ 140737488355328 := h3; omega, h4⟩
end

theorem take_getElem? {α : Type} {l : List α} {k : Nat} {x : α} (h : l[k]? = some x) : l.take (k + 1) = l.take k ++ [x] := by
  rw [List.take_add_one, h]; rfl

theorem number_any (n : Int) (w : World) : Calls Tryd.prog 64 #[.int .i64 n] w fun e w' => e = .returned (.bool (isNum n)) ∧ w = w' := by
  go_enter Tryd.func64, Tryd.ntmps64
  go_wp2
  all_goals
    go_ret
    refine ⟨ret_bool ?_, rfl⟩
    rw [Bool.eq_iff_iff, isNum_iff]
    simp
    omega

theorem isNumber_any (n : Int) (w : World) : Calls Tryd.prog 31 #[.int .i64 n] w fun e w' => e = .returned (.bool (isNum n)) ∧ w = w' := by
  go_enter Tryd.func31, Tryd.ntmps31
  go_wp2
  all_goals
    go_ret
    refine ⟨ret_bool ?_, rfl⟩
    rw [Bool.eq_iff_iff, isNum_iff]
    simp
    omega

theorem hasL_snoc (l : List Rg) (r : Rg) (n : Int) : hasL (l ++ [r]) n = (hasL l n || inR r n) := by simp [hasL]

theorem InSet_any {S : Nat → Prop} {v : Value} {l : List Rg} (m : Int) (w : World) (hl : rRgs.rel w S [v] l) :
    Calls Tryd.prog 42 #[v, .int .i64 m] w fun e w' => e = .returned (.bool (hasL l m)) ∧ Below w.heap.size w w' := by
  obtain ⟨A, c, rfl, _, _, hn, hE⟩ := rRgs.elems hl
  clear hl
  go_enter Tryd.func42, Tryd.ntmps42
  go_wp2
  go_loopw [5, 10] (fun r i wr => ∃ k : Nat, k ≤ l.length ∧ i = .int .i64 k ∧ r = .bool (hasL (l.take k) m) ∧ Below w.heap.size w wr) (fun _ i _ => l.length - (intOf i).toNat)
  case atStart => exact ⟨0, Nat.zero_le _, rfl, rfl, Below.refl _ _⟩
  case round =>
    obtain ⟨k, hk, rfl, rfl, hbl⟩ := hrel
    by_cases hlt : k < l.length
    · obtain ⟨b, off, lo, up, rfl, _, hb, hx, _, _, h1, h2⟩ := hE.rg hlt
      rw [← hbl.cell (p := ⟨b, _, none⟩) hb] at h1 h2
      have hs := hasL_snoc (l.take k) (lo, up) m
      rw [← take_getElem? hx] at hs
      have HS := Lib.hid hs
      clear hs hx hE
      cases hh : hasL (l.take k) m
      all_goals
        rw [hh] at HS
        clear hh
        go_wp2
        all_goals
          go_roundw
          case rel => exact ⟨k + 1, by omega, by go_num, by rw [HS.out]; simp [inR, *], hbl.alloc hbl.size _⟩
          case measure => simp [intOf]; omega
    · go_wp2
      go_ret
      exact ⟨ret_bool (by rw [List.take_of_length_le (by omega)]), hbl⟩

theorem drop_cons {α : Type} {l : List α} {k : Nat} {x : α} (h : l[k]? = some x) : l.drop k = x :: l.drop (k + 1) := by
  obtain ⟨hk, rfl⟩ := List.getElem?_eq_some_iff.1 h
  exact List.drop_eq_getElem_cons hk

theorem IsSet_any {S : Nat → Prop} {v : Value} {l : List Rg} (w : World) (hl : rRgs.rel w S [v] l) :
    Calls Tryd.prog 32 #[v] w fun e w' => e = .returned (.bool (isSet l)) ∧ Below w.heap.size w w' := by
  obtain ⟨A, c, rfl, _, _, hn, hE⟩ := rRgs.elems hl
  clear hl
  go_enter Tryd.func32, Tryd.ntmps32
  go_wp2
  go_loopw [3, 8] (fun r i wr => ∃ (k : Nat) (a : Int), k ≤ l.length ∧ i = .int .i64 k ∧ r = .int .i64 a ∧ -1000002 ≤ a ∧ a ≤ 1000000 ∧ Hid (isSet l = isSetB a (l.drop k)) ∧ Below w.heap.size w wr) (fun _ i _ => l.length - (intOf i).toNat)
  case atStart => exact ⟨0, -1000002, Nat.zero_le _, rfl, rfl, by omega, by omega, Lib.hid rfl, Below.refl _ _⟩
  case round =>
    obtain ⟨k, a, hk, rfl, rfl, ha1, ha2, HS, hbl⟩ := hrel
    by_cases hlt : k < l.length
    · obtain ⟨b, off, lo, up, rfl, _, hb, hx, _, _, h1, h2⟩ := hE.rg hlt
      rw [← hbl.cell (p := ⟨b, _, none⟩) hb] at h1 h2
      have hs := HS.out
      rw [drop_cons hx, isSetB] at hs
      dsimp only at hs
      have hb2 := hbl.alloc hbl.size (.cells #[.int .i64 lo, .int .i64 up] 72)
      have hN := isNum_iff up
      have HN := Lib.hid hN
      clear HS hx hE hN
      have done : ∀ {q : Bool}, isSet l = q → q = false → isSet l = false := fun h h' => h.trans h'
      have cases5 : isNum lo = false ∨ (isNum lo = true ∧ isNum up = false) ∨ (isNum lo = true ∧ isNum up = true ∧ up < lo) ∨ (isNum lo = true ∧ isNum up = true ∧ lo ≤ up ∧ lo ≤ a + 1) ∨ (isNum lo = true ∧ isNum up = true ∧ lo ≤ up ∧ a + 1 < lo) := by
        cases isNum lo <;> cases isNum up <;> simp <;> omega
      rcases cases5 with c1 | ⟨c1, c2⟩ | ⟨c1, c2, c3⟩ | ⟨c1, c2, c3, c4⟩ | ⟨c1, c2, c3, c4⟩
      · have HS : Hid (isSet l = false) := Lib.hid (done hs (by simp [c1]))
        clear hs
        go_wp2_with (first | (go_at_call 31; refine (isNumber_any _ _).mono ?_; rintro e w' ⟨rfl, rfl⟩))
        go_ret
        exact ⟨ret_bool HS.out.symm, hb2⟩
      · have HS : Hid (isSet l = false) := Lib.hid (done hs (by simp [c2]))
        clear hs
        go_wp2_with (first | (go_at_call 31; refine (isNumber_any _ _).mono ?_; rintro e w' ⟨rfl, rfl⟩))
        go_ret
        exact ⟨ret_bool HS.out.symm, hb2⟩
      · have HS : Hid (isSet l = false) := Lib.hid (done hs (by simp [show ¬ lo ≤ up by omega]))
        clear hs
        go_wp2_with (first | (go_at_call 31; refine (isNumber_any _ _).mono ?_; rintro e w' ⟨rfl, rfl⟩))
        go_ret
        exact ⟨ret_bool HS.out.symm, hb2⟩
      · have HS : Hid (isSet l = false) := Lib.hid (done hs (by simp [show ¬ a + 1 < lo by omega]))
        clear hs
        go_wp2_with (first | (go_at_call 31; refine (isNumber_any _ _).mono ?_; rintro e w' ⟨rfl, rfl⟩))
        go_ret
        exact ⟨ret_bool HS.out.symm, hb2⟩
      · have HS : Hid (isSet l = isSetB up (l.drop (k + 1))) := Lib.hid (by rw [hs]; simp [c1, c2, c3, c4])
        clear hs
        have hu : -1000000 ≤ up ∧ up ≤ 1000000 := HN.out.1 c2
        go_wp2_with (first | (go_at_call 31; refine (isNumber_any _ _).mono ?_; rintro e w' ⟨rfl, rfl⟩))
        go_roundw
        case rel => exact ⟨k + 1, up, by omega, by go_num, rfl, by omega, by omega, HS, hb2⟩
        case measure => simp [intOf]; omega
    · have hs := HS.out
      rw [List.drop_eq_nil_of_le (by omega), isSetB] at hs
      have HS' := Lib.hid hs
      clear hs
      go_wp2
      go_ret
      exact ⟨ret_bool HS'.out.symm, hbl⟩

end Go.Proofs.YtlopccnehgolnabDoor
