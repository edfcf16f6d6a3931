
/- Contracts of Has. -/
import Derived.Test.YtlopccnehgolnabDoorSpanB
namespace Go.Proofs.YtlopccnehgolnabDoor
open Go.RowKit Rb

theorem HasFn_any (lo up m : Int) (p : Nat) (w : World) (hp : w.cell? ⟨p, 0, none⟩ = some (.int .i64 m)) :
    Calls Tryd.prog 120 #[.agg #[.int .i64 lo, .int .i64 up], .pointer (some ⟨p, 0, none⟩)] w fun e w' => e = .returned (.bool (inR (lo, up) m)) ∧ Below w.heap.size w w' := by
  have hp2 : (w.alloc (.cells #[.int .i64 lo, .int .i64 up] 72)).cell? ⟨p, 0, none⟩ = some (.int .i64 m) := by
    rw [World.cell?_alloc_lt _ _ _ (World.block_lt_of_cell? _ _ hp)]; exact hp
  clear hp
  by_cases h : lo ≤ m
  all_goals
    go_enter Tryd.func120, Tryd.ntmps120
    go_wp2
    go_ret
    exact ⟨ret_bool (by first | (simp [inR, h]; done) | (simp [inR]; omega)), (Below.refl _ _).alloc (Nat.le_refl _) _⟩

/-- Where the first range lies that has m; none: -1. -/
def findHas (l : List Rg) (m : Int) : Int := match l.findIdx? (fun r => inR r m) with | some i => i | none => -1
theorem findHas_hit {l : List Rg} {m : Int} {k : Nat} {r : Rg} (hk : l[k]? = some r) (h0 : hasL (l.take k) m = false) (h : inR r m = true) : findHas l m = k ∧ hasL l m = true := by
  obtain ⟨hlt, rfl⟩ := List.getElem?_eq_some_iff.1 hk
  have hf : l.findIdx? (fun r => inR r m) = some k := by
    rw [List.findIdx?_eq_some_iff_getElem]
    refine ⟨hlt, h, fun j hj => ?_⟩
    have : ¬ (∃ x, x ∈ l.take k ∧ inR x m = true) := by
      intro ⟨x, hx, hm⟩
      have : hasL (l.take k) m = true := by simp only [hasL, List.any_eq_true]; exact ⟨x, hx, hm⟩
      rw [h0] at this; cases this
    have hj' : l[j]'(by omega) ∈ l.take k := by
      rw [List.mem_take_iff_getElem]
      exact ⟨j, by omega, rfl⟩
    cases hh : inR (l[j]'(by omega)) m
    · simp
    · exact absurd ⟨_, hj', hh⟩ this
  refine ⟨by unfold findHas; rw [hf], ?_⟩
  simp only [hasL, List.any_eq_true]
  exact ⟨_, List.getElem_mem hlt, h⟩
theorem findHas_miss {l : List Rg} {m : Int} (h : hasL l m = false) : findHas l m = -1 := by
  have hf : l.findIdx? (fun r => inR r m) = none := by
    rw [List.findIdx?_eq_none_iff]
    intro x hx
    cases hh : inR x m
    · rfl
    · have : hasL l m = true := by simp only [hasL, List.any_eq_true]; exact ⟨x, hx, hh⟩
      rw [h] at this; cases this
  unfold findHas; rw [hf]

theorem HasIndex_any {S : Nat → Prop} {v : Value} {l : List Rg} (m : Int) (p : Nat) (w : World) (hl : rRgs.rel w S [v] l) (hp : w.cell? ⟨p, 0, none⟩ = some (.int .i64 m)) :
    Calls Tryd.prog 133 #[v, .func (.func 120) #[] #[.pointer (some ⟨p, 0, none⟩)]] w fun e w' => e = .returned (.int .i64 (findHas l m)) ∧ Below w.heap.size w w' := by
  obtain ⟨A, c, rfl, _, _, hn, hE⟩ := rRgs.elems hl
  have hpl := World.block_lt_of_cell? _ _ hp
  clear hl
  go_enter Tryd.func133, Tryd.ntmps133
  go_wp2
  go_loopw [5, 8] (fun _ i wr => ∃ k : Nat, k ≤ l.length ∧ i = .int .i64 k ∧ Hid (hasL (l.take k) m = false) ∧ Below w.heap.size w wr) (fun _ i _ => l.length - (intOf i).toNat)
  case atStart => exact ⟨0, Nat.zero_le _, rfl, Lib.hid (by simp [hasL]), Below.refl _ _⟩
  case round =>
    obtain ⟨k, hk, rfl, HS, hbl⟩ := hrel
    by_cases hlt : k < l.length
    · obtain ⟨b, off, lo, up, rfl, _, hb, hx, _, _, h1, h2⟩ := hE.rg hlt
      rw [← hbl.cell (p := ⟨b, _, none⟩) hb] at h1 h2
      have hp' : wr.cell? ⟨p, 0, none⟩ = some (.int .i64 m) := by rw [hbl.cell (p := ⟨p, 0, none⟩) hpl]; exact hp
      have HX := Lib.hid hx
      have hcon := HasFn_any lo up m p wr hp'
      have HC := Lib.hid hcon
      clear hx hE hp hp' hcon
      have hi : (k : Int) < (l.length : Int) := by omega
      cases hh : inR (lo, up) m
      · have HS' : Hid (hasL (l.take (k + 1)) m = false) := Lib.hid (by rw [take_getElem? HX.out, hasL_snoc, HS.out, hh]; rfl)
        rw [hh] at HC
        clear hh
        go_wp2_with (first | (go_at_call 120; refine HC.out.mono ?_; rintro e w' ⟨rfl, hw⟩))
        go_roundw
        case rel => exact ⟨k + 1, by omega, by go_num, HS', hbl.trans (hw.mono hbl.size)⟩
        case measure => simp [intOf]; omega
      · have HF : Hid (findHas l m = k) := Lib.hid (findHas_hit HX.out HS.out hh).1
        rw [hh] at HC
        clear hh
        go_wp2_with (first | (go_at_call 120; refine HC.out.mono ?_; rintro e w' ⟨rfl, hw⟩))
        go_ret
        exact ⟨ret_int HF.out.symm, hbl.trans (hw.mono hbl.size)⟩
    · go_wp2
      go_ret
      exact ⟨ret_int (findHas_miss (by have := HS.out; rwa [List.take_of_length_le (by omega)] at this)).symm, hbl⟩

theorem findHas_cases (l : List Rg) (m : Int) : decide (0 ≤ findHas l m) = hasL l m := by
  cases hh : hasL l m
  · rw [findHas_miss hh]; rfl
  · unfold findHas
    cases hq : l.findIdx? (fun r => inR r m) with
    | some i => simp
    | none =>
      rw [List.findIdx?_eq_none_iff] at hq
      simp only [hasL, List.any_eq_true] at hh
      obtain ⟨x, hx, hm⟩ := hh
      rw [hq x hx] at hm; cases hm

theorem HasContains_any {S : Nat → Prop} {v : Value} {l : List Rg} (m : Int) (p : Nat) (w : World) (hl : rRgs.rel w S [v] l) (hp : w.cell? ⟨p, 0, none⟩ = some (.int .i64 m)) :
    Calls Tryd.prog 119 #[v, .func (.func 120) #[] #[.pointer (some ⟨p, 0, none⟩)]] w fun e w' => e = .returned (.bool (hasL l m)) ∧ Below w.heap.size w w' := by
  have HI := Lib.hid (HasIndex_any m p w hl hp)
  have HD := Lib.hid (findHas_cases l m)
  clear hl hp
  go_enter Tryd.func119, Tryd.ntmps119
  go_wp2_with (first | (go_at_call 133; refine HI.out.mono ?_; rintro e w' ⟨rfl, hw⟩))
  go_ret
  exact ⟨ret_bool HD.out, hw⟩

theorem Has_any {S : Nat → Prop} {v : Value} {l : List Rg} (m : Int) (w : World) (hl : rRgs.rel w S [v] l) :
    Calls Tryd.prog 98 #[v, .int .i64 m] w fun e w' => e = .returned (.bool (hasL l m)) ∧ Below w.heap.size w w' := by
  have HI := Lib.hid (HasContains_any m w.heap.size (w.alloc (.cells #[.int .i64 m] 3)) (Rd.alloc hl _) (World.cell?_alloc_new _ _ _ _))
  have hb : ∀ w', Below (w.alloc (.cells #[.int .i64 m] 3)).heap.size (w.alloc (.cells #[.int .i64 m] 3)) w' → Below w.heap.size w w' := fun w' h =>
    ((Below.refl _ _).alloc (Nat.le_refl _) _).trans (h.mono (by simp))
  clear hl
  go_enter Tryd.func98, Tryd.ntmps98
  go_wp2_with (first | (go_at_call 119; refine HI.out.mono ?_; rintro e w' ⟨rfl, hw⟩))
  go_ret
  exact ⟨rfl, hb _ hw⟩

end Go.Proofs.YtlopccnehgolnabDoor
