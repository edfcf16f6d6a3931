
/- Contract of the reference's edges. -/
import Derived.Test.YtlopccnehgolnabDoorEdges
namespace Go.Proofs.YtlopccnehgolnabDoor
open Go.RowKit Rb

/-- The captured list, as the calls of 'add' leave it; block q is none of its own. -/
def EdgInv (w : World) (p : Nat) (l : List Int) (wr : World) : Prop :=
  (∃ v, wr.heap[p]? = some (.cells #[v] 75 (0, 0)) ∧ Own rInt 3 wr (p + 1) (fun _ => False) v l) ∧ Below p w wr ∧ IsE l ∧ p < wr.heap.size
theorem EdgInv.alloc {w : World} {p : Nat} {l : List Int} {wr : World} (h : EdgInv w p l wr) (o : Obj) : EdgInv w p l (wr.alloc o) := by
  obtain ⟨⟨v, h1, h2⟩, h3, h4, h5⟩ := h
  exact ⟨⟨v, (Below.heap_alloc wr o p h5).trans h1, h2.alloc o⟩, h3.alloc (Nat.le_of_lt h5) o, h4, by simp; omega⟩

/-- A call of 'add'. -/
theorem add_inv {w : World} {p : Nat} {l : List Int} {wr : World} (n : Int) (h : EdgInv w p l wr) : Calls Tryd.prog 63 #[.int .i64 n, .pointer (some ⟨p, 0, none⟩)] wr fun e w' =>
    e = .returned (.tuple #[]) ∧ EdgInv w p (addE n l) w' ∧ wr.heap.size ≤ w'.heap.size := by
  obtain ⟨⟨v, h1, h2⟩, h3, h4, h5⟩ := h
  have key : Calls Tryd.prog 63 #[.int .i64 n, .pointer (some ⟨p, 0, none⟩)] wr (AddPost wr p v (addE n l)) := by
    cases hn : isNum n
    · exact add_no n hn p wr v l h1 h2
    · exact add_yes n hn p wr v l h1 h2 h4
  refine key.mono fun e w' ⟨he, v', k1, k2, k3, _, _⟩ => ⟨he, ⟨⟨v', k1, k2⟩, h3.trans k3, addE_is n h4, Nat.lt_of_lt_of_le h5 k3.size⟩, k3.size⟩

/-- .. where a box of the caller's lies above. -/
theorem add_inv2 {w : World} {p : Nat} {l : List Int} {wr : World} {t : TypeId} (n : Int) (h : EdgInv w p l wr) (cs : Array Value) : Calls Tryd.prog 63 #[.int .i64 n, .pointer (some ⟨p, 0, none⟩)] (wr.alloc (.cells cs t)) fun e w' =>
    e = .returned (.tuple #[]) ∧ EdgInv w p (addE n l) w' ∧ w'.heap[wr.heap.size]? = some (.cells cs t (0, 0)) ∧ wr.heap.size < w'.heap.size ∧ (∃ v', w'.heap[p]? = some (.cells #[v'] 75 (0, 0)) ∧ v'.ownBlock ≠ some wr.heap.size) := by
  have h' := h.alloc (.cells cs t)
  have hq : (wr.alloc (.cells cs t)).heap[wr.heap.size]? = some (.cells cs t (0, 0)) := heap_alloc_new wr _
  obtain ⟨⟨v0, g1, g2⟩, _, _, g5⟩ := h
  have hvo : v0.ownBlock ≠ some wr.heap.size := fun e => by have := (g2.lt _ e).2; omega
  obtain ⟨⟨v, h1, h2⟩, h3, h4, h5⟩ := h'
  obtain rfl : v0 = v := by
    have : (wr.alloc (.cells cs t)).heap[p]? = wr.heap[p]? := Below.heap_alloc wr _ p g5
    rw [this, g1] at h1
    injection h1 with h1; injection h1 with h1 _; simpa using h1
  have key : Calls Tryd.prog 63 #[.int .i64 n, .pointer (some ⟨p, 0, none⟩)] (wr.alloc (.cells cs t)) (AddPost (wr.alloc (.cells cs t)) p v0 (addE n l)) := by
    cases hn : isNum n
    · exact add_no n hn p _ v0 l h1 h2
    · exact add_yes n hn p _ v0 l h1 h2 h4
  refine key.mono fun e w' ⟨he, v', k1, k2, k3, k4, k5⟩ => ⟨he, ⟨⟨v', k1, k2⟩, h3.trans k3, addE_is n h4, Nat.lt_of_lt_of_le h5 k3.size⟩, ?_, ?_, v', k1, ?_⟩
  · exact (k4 _ (by simp) (by omega) hvo).trans hq
  · have := k3.size; simp at this; omega
  · rcases k5 with k5 | ⟨g, k5, k6⟩
    · rw [k5]; exact hvo
    · rw [k5]; intro e; injection e with e; simp at k6; omega

theorem Elems.rgs {w : World} {S : Nat → Prop} {A : Option Addr} {ss : List (List Rg)} (h : Elems rRgs w S A ss) {i : Nat} (hi : i < ss.length) : ∃ b off A1 s c1, A = some ⟨b, off, none⟩ ∧ S b ∧ b < w.heap.size ∧ ss[i]? = some s ∧
    w.cell? ⟨b, off + i, none⟩ = some (.slice A1 s.length c1) ∧ s.length ≤ 8796093022208 ∧ Elems rRg w S A1 s := by
  obtain ⟨b, off, es, hA, hS, hb, hr, hc⟩ := h i ss[i] (List.getElem?_eq_getElem hi)
  obtain ⟨A1, c1, rfl, _, _, h3, h4⟩ := hr
  have hc0 := hc 0 _ rfl
  refine ⟨b, off, A1, ss[i], c1, hA, hS, hb, List.getElem?_eq_getElem hi, ?_, ?_, h4⟩
  · simpa [rRgs, rSl] using hc0
  · have : ss[i].length * 16 ≤ 140737488355328 := h3
    omega

theorem foldl_take_succ {α β : Type} {f : β → α → β} {b : β} {l : List α} {k : Nat} {x : α} (h : l[k]? = some x) : (l.take (k + 1)).foldl f b = f ((l.take k).foldl f b) x := by
  rw [take_getElem? h, List.foldl_append]; rfl

set_option maxHeartbeats 3200000 in
theorem edges_any {S : Nat → Prop} {A : Option Addr} {c : Nat} {ss : List (List Rg)} (w : World) (hlen : ss.length ≤ 8796093022208) (hE : Elems rRgs w S A ss) :
    Calls Tryd.prog 40 #[.slice A ss.length c] w fun e w' => ∃ u, e = .returned u ∧ Own rInt 3 w' w.heap.size (fun _ => False) u (edgesL ss) ∧ Below w.heap.size w w' := by
  have h0 : EdgInv w w.heap.size [] (w.alloc (.cells #[.slice none 0 0] 75)) :=
    ⟨⟨_, heap_alloc_new w _, Own.nil _ _ _ _ _⟩, (Below.refl _ _).alloc (Nat.le_refl _) _, ⟨by simp, by simp⟩, by simp⟩
  have HC0 := Lib.hid (add_inv (-1000000) h0)
  clear h0
  go_enter Tryd.func40, Tryd.ntmps40
  go_wp2_with (first | (go_at_call 63; refine HC0.out.mono ?_; rintro e w1 ⟨rfl, hI0, hs0⟩))
  clear HC0
  go_loopw [14] (fun i wr => ∃ k : Nat, k ≤ ss.length ∧ i = .int .i64 k ∧ EdgInv w w.heap.size ((ss.take k).foldl edgeS (addE (-MX) [])) wr) (fun i _ => ss.length - (intOf i).toNat)
  case atStart => exact ⟨0, Nat.zero_le _, rfl, hI0⟩
  case round =>
    obtain ⟨k, hk, rfl, hI⟩ := hrel
    by_cases hlt : k < ss.length
    · obtain ⟨b, off, A1, s, c1, rfl, _, hb, hx, h1, hsl, hEs⟩ := hE.rgs hlt
      rw [← hI.2.1.cell (p := ⟨b, _, none⟩) hb] at h1
      have HX := Lib.hid hx
      clear hx
      obtain ⟨wo, rfl⟩ : ∃ wo : World, wo = wr := ⟨_, rfl⟩
      go_wp2
      go_loopw [20] (fun i wr => ∃ j : Nat, j ≤ s.length ∧ i = .int .i64 j ∧ EdgInv w w.heap.size (edgeS ((ss.take k).foldl edgeS (addE (-MX) [])) (s.take j)) wr) (fun i _ => s.length - (intOf i).toNat)
      case atStart => exact ⟨0, Nat.zero_le _, rfl, hI⟩
      case round =>
        obtain ⟨j, hj, rfl, hJ⟩ := hrel
        by_cases hlt2 : j < s.length
        · obtain ⟨b2, off2, lo, up, rfl, _, hb2, hx2, hi1, hi2, g1, g2⟩ := hEs.rg hlt2
          rw [← hJ.2.1.cell (p := ⟨b2, _, none⟩) hb2] at g1 g2
          have hst : edgeS ((ss.take k).foldl edgeS (addE (-MX) [])) (s.take (j + 1)) = edgeR (edgeS ((ss.take k).foldl edgeS (addE (-MX) [])) (s.take j)) (lo, up) := by
            unfold edgeS; rw [foldl_take_succ hx2]
          have HST := Lib.hid hst
          clear hst hx2
          have HC := Lib.hid (add_inv2 (t := 72) lo hJ #[.int .i64 lo, .int .i64 up])
          generalize edgeS ((ss.take k).foldl edgeS (addE (-MX) [])) (s.take j) = l0 at *
          by_cases hup : up < 1000000
          · have hw1 : IntKind.i64.wrap (up + 1) = up + 1 := IntWalk.i64_in _ (by unfold InI at hi2; omega)
            go_wp2_with (first | (go_at_call 63; first | ((with_reducible refine HC.out.mono ?_); rintro e w2 ⟨rfl, hI2, hq, hs2, _⟩; have q0 : w2.cell? ⟨wr.heap.size, 0, none⟩ = some (.int .i64 lo) := cell_of_row w2 _ 0 _ _ _ hq; have q1 : w2.cell? ⟨wr.heap.size, 1, none⟩ = some (.int .i64 up) := cell_of_row w2 _ 1 _ _ _ hq; clear hq) | ((with_reducible refine (add_inv (up + 1) hI2).mono ?_); rintro e w3 ⟨rfl, hI3, _⟩)))
            go_roundw
            case rel => exact ⟨j + 1, by omega, by go_num, by rw [HST.out, edgeR, if_pos (show (lo, up).2 < MX from hup)]; exact hI3⟩
            case measure => simp [intOf]; omega
          · go_wp2_with (first | (go_at_call 63; first | ((with_reducible refine HC.out.mono ?_); rintro e w2 ⟨rfl, hI2, hq, hs2, _⟩; have q0 : w2.cell? ⟨wr.heap.size, 0, none⟩ = some (.int .i64 lo) := cell_of_row w2 _ 0 _ _ _ hq; have q1 : w2.cell? ⟨wr.heap.size, 1, none⟩ = some (.int .i64 up) := cell_of_row w2 _ 1 _ _ _ hq; clear hq)))
            go_roundw
            case rel => exact ⟨j + 1, by omega, by go_num, by rw [HST.out, edgeR, if_neg (show ¬ (lo, up).2 < MX by unfold MX; dsimp only; omega)]; exact hI2⟩
            case measure => simp [intOf]; omega
        · rw [List.take_of_length_le (l := s) (by omega)] at hJ
          go_wp2
          go_roundw
          case rel => exact ⟨k + 1, by omega, by go_num, by rw [foldl_take_succ HX.out]; exact hJ⟩
          case measure => simp [intOf]; omega
    · rw [List.take_of_length_le (by omega)] at hI
      obtain ⟨⟨v, k1, k2⟩, k3, k4, k5⟩ := hI
      have k6 : wr.cell? ⟨w.heap.size, 0, none⟩ = some v := cell_of_row wr _ 0 _ _ _ k1
      obtain ⟨A2, c2, rfl⟩ := k2.value
      go_wp2
      go_ret
      exact ⟨_, rfl, k2.lower (Nat.le_succ _), k3⟩

end Go.Proofs.YtlopccnehgolnabDoor
