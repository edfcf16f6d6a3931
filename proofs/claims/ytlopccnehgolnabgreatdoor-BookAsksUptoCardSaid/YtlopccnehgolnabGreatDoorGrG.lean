/- Boxes as data: lists of sets of ranges; what chapter 2 says of them. Contracts of the little helpers of laws over tables: tables, pick. Contracts of the reference's CellHolds and SameNumbers. Books as data; the contracts of FindDomain and FindTable. The contract of FindDomain. The contract of GoodDomain. The contract of clipped. -/
import Derived.Test.YtlopccnehgolnabGreatDoorTabA
import Derived.Test.YtlopccnehgolnabGreatDoorGrB
import Derived.Deep.DeepMust
import Derived.Test.YtlopccnehgolnabGreatDoorGrE
import Derived.Test.YtlopccnehgolnabGreatDoorGrC
import Derived.BigQuiet
namespace Go.Proofs.YtlopccnehgolnabGreatDoor
open Go.RowKit Rb

abbrev Bx := List (List Rg)
def rBx : Rd Bx := rSl (rSl rRg)

def goodSet (s : List Rg) : Bool := decide (0 < s.length) && isSet s
def goodBx (b : Bx) (n : Int) : Bool := b.all goodSet && (decide ((b.length : Int) = n) && (decide (0 ≤ n) && decide (n ≤ 3)))
def inBx : Bx → List Int → Bool
  | [], [] => true
  | s :: b, n :: ns => hasL s n && inBx b ns
  | _, _ => false
theorem inBx_len : ∀ {b : Bx} {ns : List Int}, inBx b ns = true → b.length = ns.length
  | [], [], _ => rfl
  | _ :: _, _ :: _, h => by
    simp only [inBx, Bool.and_eq_true] at h
    simp [inBx_len h.2]
  | [], _ :: _, h => by simp [inBx] at h
  | _ :: _, [], h => by simp [inBx] at h
theorem inBx_at {b : Bx} {ns : List Int} {k : Nat} {s : List Rg} {n : Int} (hc : b[k]? = some s) (hn : ns[k]? = some n) : inBx (b.drop k) (ns.drop k) = (hasL s n && inBx (b.drop (k + 1)) (ns.drop (k + 1))) := by
  rw [drop_cons hc, drop_cons hn]; rfl

theorem goodBx_iff {b : Bx} {n : Int} : goodBx b n = true ↔ (∀ s ∈ b, 0 < s.length ∧ GoodS s) ∧ (b.length : Int) = n ∧ n ≤ 3 := by
  unfold goodBx goodSet
  simp only [Bool.and_eq_true, List.all_eq_true, decide_eq_true_iff, isSet_iff]
  constructor
  · rintro ⟨h1, h2, h3, h4⟩; exact ⟨h1, h2, h4⟩
  · rintro ⟨h1, h2, h4⟩; exact ⟨h1, h2, by omega, h4⟩

section
variable {α : Type} {R : Rd α} {w : World} {S : Nat → Prop} {A : Option Addr}
theorem Elems.sl {l : List (List α)} (h : Elems (rSl R) w S A l) {i : Nat} (hi : i < l.length) : ∃ b off v x, A = some ⟨b, off, none⟩ ∧ S b ∧ b < w.heap.size ∧ l[i]? = some x ∧ (rSl R).rel w S [v] x ∧ w.cell? ⟨b, off + i, none⟩ = some v := by
  obtain ⟨b, off, es, hA, hS, hb, hr, hc⟩ := h i l[i] (List.getElem?_eq_getElem hi)
  obtain ⟨A1, c1, rfl, hr2⟩ := hr
  exact ⟨b, off, _, l[i], hA, hS, hb, List.getElem?_eq_getElem hi, ⟨A1, c1, rfl, hr2⟩, by have := hc 0 _ rfl; simpa [rSl] using this⟩
theorem rSl.lenle {α : Type} {R : Rd α} {v : Value} {l : List α} (h : (rSl R).rel w S [v] l) (hb : 8 ≤ R.bytes) : l.length ≤ 17592186044416 := by
  obtain ⟨_, _, _, _, _, h3, _⟩ := h
  have := Nat.mul_le_mul_left l.length hb
  omega
end

theorem Good_b {S : Nat → Prop} {v : Value} {l : List Rg} {b : Bool} (w : World) (hl : (rSl rRg).rel w S [v] l) (h : isSet l = b) :
    Calls Tryz.prog 111 #[v] w fun e w' => e = .returned (.bool b) ∧ Below w.heap.size w w' := h ▸ Good_any w hl

set_option maxRecDepth 100000 in
set_option maxHeartbeats 400000 in
theorem BGood_any {S : Nat → Prop} {v : Value} {b : Bx} (n : Int) (w : World) (hl : rBx.rel w S [v] b) :
    Calls Tryz.prog 52 #[v, .int .i64 n] w fun e w' => e = .returned (.bool (goodBx b n)) ∧ Below w.heap.size w w' := by
  have hbl := rSl.lenle hl (by decide)
  obtain ⟨A, c, rfl, _, _, _, hE⟩ := rSl.elems hl
  clear hl
  go_enter Tryz.func52, Tryz.ntmps52
  go_wp2
  go_loopw [9] (fun i wr => ∃ k : Nat, k ≤ b.length ∧ i = .int .i64 k ∧ Hid ((b.take k).all goodSet = true) ∧ Below w.heap.size w wr) (fun i _ => b.length - (intOf i).toNat)
  case atStart => exact ⟨0, Nat.zero_le _, rfl, Lib.hid rfl, Below.refl _ _⟩
  case round =>
    obtain ⟨k, hk, rfl, HK, hb⟩ := hrel
    by_cases hlt : k < b.length
    · obtain ⟨p, off, v, s, rfl, _, hp, hx, hs, h1⟩ := hE.sl hlt
      rw [← hb.cell (p := ⟨p, _, none⟩) hp] at h1
      have hs' := Rd.below hs hb
      have hik : (k : Int) < (b.length : Int) := by omega
      obtain ⟨A2, c2, rfl, _, _, hl2, _⟩ := rSl.elems hs'
      have hl2' : s.length ≤ 8796093022208 := by simp only [rRg] at hl2; omega
      have HF : Hid (goodSet s = false → goodBx b n = false) := Lib.hid fun h => by
        unfold goodBx
        rw [show b.all goodSet = false from List.all_eq_false.2 ⟨s, List.mem_of_getElem? hx, by simp [h]⟩]; rfl
      have HS : Hid (goodSet s = true → (b.take (k + 1)).all goodSet = true) := Lib.hid fun h => by rw [take_getElem? hx, List.all_append, HK.out]; simp [h]
      have hg : goodSet s = (decide (0 < s.length) && isSet s) := rfl
      generalize s.length = m at *
      have HG := Lib.hid hg
      clear hx hs hl2 HK hE hg
      rcases (show m = 0 ∨ (((m : Int) == 0) = false ∧ 0 < m) by
        rcases Nat.eq_zero_or_pos m with h | h
        · exact .inl h
        · exact .inr ⟨by rw [beq_eq_false_iff_ne]; omega, h⟩) with rfl | ⟨hm, hm0⟩
      · have HFF : Hid (goodBx b n = false) := Lib.hid (HF.out (by rw [HG.out]; rfl))
        go_wp2
        go_ret
        exact ⟨ret_bool HFF.out.symm, hb⟩
      · cases hset : isSet s
        · have HC := Lib.hid (Good_b wr hs' hset)
          have HFF : Hid (goodBx b n = false) := Lib.hid (HF.out (by rw [HG.out, hset]; simp))
          clear hset hs'
          go_wp2_with (first | (go_at_call 111; refine HC.out.mono ?_; rintro e w1 ⟨rfl, hb1⟩))
          go_ret
          exact ⟨ret_bool HFF.out.symm, hb.trans (hb1.mono hb.size)⟩
        · have HC := Lib.hid (Good_b wr hs' hset)
          have HSS := Lib.hid (HS.out (by rw [HG.out, hset]; simp [hm0]))
          clear hset hs'
          go_wp2_with (first | (go_at_call 111; refine HC.out.mono ?_; rintro e w1 ⟨rfl, hb1⟩))
          go_roundw
          case rel => exact ⟨k + 1, by omega, by go_num, HSS, hb.trans (hb1.mono hb.size)⟩
          case measure => simp [intOf]; omega
    · have HF : Hid (goodBx b n = (decide ((b.length : Int) = n) && (decide (0 ≤ n) && decide (n ≤ 3)))) := Lib.hid (by
        have := HK.out
        rw [List.take_of_length_le (by omega)] at this
        unfold goodBx
        rw [this]; rfl)
      clear HK hE
      have hq : ((b.length : Int) == n) = decide ((b.length : Int) = n) := by rw [Bool.eq_iff_iff, beq_iff_eq, decide_eq_true_iff]
      rcases (show ((b.length : Int) == n) = false ∨ (((b.length : Int) == n) = true ∧ 0 ≤ n ∧ (b.length : Int) = n) by
        by_cases h : (b.length : Int) = n
        · exact .inr ⟨by simpa using h, by omega, h⟩
        · exact .inl (by simpa using h)) with h | ⟨h, h0, h3⟩
      · rw [h] at hq
        have HQ := Lib.hid hq
        clear hq
        go_wp2
        go_ret
        exact ⟨ret_bool (by rw [HF.out, ← HQ.out]; rfl), hb⟩
      · rw [h] at hq
        have HQ := Lib.hid hq
        clear hq h3
        go_wp2
        go_ret
        exact ⟨ret_bool (by rw [HF.out, ← HQ.out]; simp [h0]), hb⟩

theorem IsSet_b {S : Nat → Prop} {v : Value} {l : List Rg} {b : Bool} (w : World) (hl : (rSl rRg).rel w S [v] l) (h : isSet l = b) :
    Calls Tryz.prog 117 #[v] w fun e w' => e = .returned (.bool b) ∧ Below w.heap.size w w' := h ▸ IsSet_any w hl

set_option maxRecDepth 100000 in
set_option maxHeartbeats 400000 in
theorem IsBox_any {S : Nat → Prop} {v : Value} {b : Bx} (n : Int) (w : World) (hl : rBx.rel w S [v] b) :
    Calls Tryz.prog 57 #[v, .int .i64 n] w fun e w' => e = .returned (.bool (goodBx b n)) ∧ Below w.heap.size w w' := by
  have hbl := rSl.lenle hl (by decide)
  obtain ⟨A, c, rfl, _, _, _, hE⟩ := rSl.elems hl
  obtain ⟨ok0, hok0⟩ : ∃ ok, (decide ((b.length : Int) = n) && (decide (0 ≤ n) && decide (n ≤ 3))) = ok := ⟨_, rfl⟩
  have HB0 : Hid (goodBx b n = (ok0 && (b.drop 0).all goodSet)) := Lib.hid (by unfold goodBx; rw [hok0, List.drop_zero, Bool.and_comm])
  have hcs : ((b.length : Int) == n) = false ∧ ok0 = false ∨ ((b.length : Int) == n) = true ∧ decide (n < 4) = ok0 := by
    by_cases h : (b.length : Int) = n
    · refine .inr ⟨by simpa using h, ?_⟩
      rw [← hok0, Bool.eq_iff_iff]; simp [h]; omega
    · refine .inl ⟨by simpa using h, ?_⟩
      rw [← hok0]; simp [h]
  have HE := Lib.hid hE
  clear hl hok0 hE
  rcases hcs with ⟨h1, rfl⟩ | ⟨h1, h2⟩
  all_goals
    go_enter Tryz.func57, Tryz.ntmps57
    go_wp2
    go_loopw [5, 18] (fun o i wr => ∃ (k : Nat) (ok : Bool), k ≤ b.length ∧ i = .int .i64 k ∧ o = .bool ok ∧ Hid (goodBx b n = (ok && (b.drop k).all goodSet)) ∧ Below w.heap.size w wr) (fun _ i _ => b.length - (intOf i).toNat)
    case atStart => first | exact ⟨0, _, Nat.zero_le _, rfl, rfl, HB0, Below.refl _ _⟩
    case round =>
      obtain ⟨k, ok, hk, rfl, rfl, HK, hb⟩ := hrel
      by_cases hlt : k < b.length
      · obtain ⟨p, off, v, s, rfl, _, hp, hx, hs, h1⟩ := HE.out.sl hlt
        rw [← hb.cell (p := ⟨p, _, none⟩) hp] at h1
        have hs' := Rd.below hs hb
        have hik : (k : Int) < (b.length : Int) := by omega
        obtain ⟨A2, c2, rfl, _, _, hl2, _⟩ := rSl.elems hs'
        have hl2' : s.length ≤ 8796093022208 := by simp only [rRg] at hl2; omega
        have HS : Hid (goodBx b n = (ok && (decide (0 < s.length) && isSet s) && (b.drop (k + 1)).all goodSet)) := Lib.hid (by
          rw [HK.out, drop_cons hx, List.all_cons, ← Bool.and_assoc]; rfl)
        generalize s.length = m at *
        clear hx hs hl2 HK
        cases ok
        · have HN : Hid (goodBx b n = (false && (b.drop (k + 1)).all goodSet)) := Lib.hid (by rw [HS.out]; simp)
          go_wp2
          go_roundw
          case rel => exact ⟨k + 1, false, by omega, by go_num, rfl, HN, hb⟩
          case measure => simp [intOf]; omega
        · rcases (show m = 0 ∨ (decide (0 < (m : Int)) = true ∧ 0 < m) by
            rcases Nat.eq_zero_or_pos m with h | h
            · exact .inl h
            · exact .inr ⟨by simpa using h, h⟩) with rfl | ⟨hm, hm0⟩
          · have HN : Hid (goodBx b n = (false && (b.drop (k + 1)).all goodSet)) := Lib.hid (by rw [HS.out]; simp)
            go_wp2
            go_roundw
            case rel => exact ⟨k + 1, false, by omega, by go_num, rfl, HN, hb⟩
            case measure => simp [intOf]; omega
          · have HC := Lib.hid (IsSet_b wr hs' rfl)
            have HN : Hid (goodBx b n = (isSet s && (b.drop (k + 1)).all goodSet)) := Lib.hid (by rw [HS.out]; simp [hm0])
            generalize isSet s = is at *
            go_wp2_with (first | (go_at_call 117; refine HC.out.mono ?_; rintro e w1 ⟨rfl, hb1⟩))
            go_roundw
            case rel => exact ⟨k + 1, is, by omega, by go_num, rfl, HN, hb.trans (hb1.mono hb.size)⟩
            case measure => simp [intOf]; omega
      · have HF : Hid (goodBx b n = ok) := Lib.hid (by rw [HK.out, List.drop_eq_nil_of_le (by omega)]; simp)
        go_wp2
        go_ret
        exact ⟨ret_bool HF.out.symm, hb⟩

end Go.Proofs.YtlopccnehgolnabGreatDoor

namespace Go.Proofs.YtlopccnehgolnabGreatDoor
open Go.RowKit Rb

def tbEx : Tb := ⟨[97], 5, false, [[98]], [⟨[⟨false, [(1, 4)]⟩], 7⟩, ⟨[⟨false, []⟩], 5⟩]⟩
theorem says_ex2 : saysT tbEx [2] = (7, true, 0) := by decide
theorem says_ex9 : saysT tbEx [9] = (5, true, 0) := by decide

theorem lit_tb (w : World) : rTb.rel (((((w.alloc (.cells #[.string ⟨#[98]⟩] 9)).alloc (.cells #[.int .i64 1, .int .i64 4] 123)).alloc (.cells #[.bool false, .slice (some ⟨w.heap.size + 1, 0, none⟩) 1 1] 97)).alloc
    (.cells #[.bool false, .slice none 0 0] 97)).alloc (.cells #[.slice (some ⟨w.heap.size + 1 + 1, 0, none⟩) 1 1, .int .i64 7, .slice (some ⟨w.heap.size + 1 + 1 + 1, 0, none⟩) 1 1, .int .i64 5] 93)) (fun _ => True)
    [.string ⟨#[97]⟩, .int .i64 5, .bool false, .slice (some ⟨w.heap.size, 0, none⟩) 1 1, .slice (some ⟨w.heap.size + 1 + 1 + 1 + 1, 0, none⟩) 2 2] tbEx := by
  have h1 := Rd.lit1 (R := rStr) (w := w) (S := fun _ => True) (x := [98]) (cells := [.string ⟨#[98]⟩]) 9 rfl (by decide) (by decide) ⟨rfl, by decide⟩
  have h2 := Rd.lit1 (R := rRg) (w := w.alloc (.cells #[.string ⟨#[98]⟩] 9)) (S := fun _ => True) (x := (1, 4)) (cells := [.int .i64 1, .int .i64 4]) (n := w.heap.size + 1) 123 (by simp) (by decide) (by decide) ⟨rfl, by unfold InI; omega, by unfold InI; omega⟩
  have h3 := Rd.lit1 (R := rCl) (S := fun _ => True) (x := ⟨false, [(1, 4)]⟩) (cells := [.bool false, .slice (some ⟨w.heap.size + 1, 0, none⟩) 1 1]) (n := w.heap.size + 1 + 1) 97 (by simp) (by decide) (by decide) ⟨_, rfl, h2⟩
  have h4 := Rd.lit1 (R := rCl) (w := ((w.alloc (.cells #[.string ⟨#[98]⟩] 9)).alloc (.cells #[.int .i64 1, .int .i64 4] 123)).alloc (.cells #[.bool false, .slice (some ⟨w.heap.size + 1, 0, none⟩) 1 1] 97))
    (S := fun _ => True) (x := ⟨false, []⟩) (cells := [.bool false, .slice none 0 0]) (n := w.heap.size + 1 + 1 + 1) 97 (by simp) (by decide) (by decide) ⟨_, rfl, none, 0, rfl, Nat.le_refl _, by decide, by decide, fun i x hx => by simp at hx⟩
  have h5 := Rd.lit2 (R := rRl) (S := fun _ => True) (x := ⟨[⟨false, [(1, 4)]⟩], 7⟩) (y := ⟨[⟨false, []⟩], 5⟩) (c1 := [.slice (some ⟨w.heap.size + 1 + 1, 0, none⟩) 1 1, .int .i64 7]) (c2 := [.slice (some ⟨w.heap.size + 1 + 1 + 1, 0, none⟩) 1 1, .int .i64 5]) (n := w.heap.size + 1 + 1 + 1 + 1) 93 (by simp) (by decide) (by decide)
    ⟨_, rfl, by unfold InI; dsimp only; omega, Rd.alloc h3 _⟩ ⟨_, rfl, by unfold InI; dsimp only; omega, h4⟩
  exact ⟨_, _, rfl, by decide, by unfold InI; decide, Rd.alloc (Rd.alloc (Rd.alloc (Rd.alloc h1 _) _) _) _, h5⟩

theorem Says_at {S T : Nat → Prop} {cs : List Value} {t : Tb} {u : Value} {ns : List Int} {x : Int × Bool × Int} (w : World) (hl : rTb.rel w S cs t) (hn : (rSl rInt).rel w T [u] ns) (hx : saysT t ns = x) :
    Calls Tryz.prog 67 #[.agg cs.toArray, u] w fun e w' => e = .returned (sayV x) ∧ Below w.heap.size w w' := hx ▸ Says_any w hl hn

set_option maxHeartbeats 800000 in
theorem tablesLaw_any (w : World) : Calls Tryz.prog 26 #[] w fun e w' => e = .returned (.bool true) ∧ Below w.heap.size w w' := by
  have hl := lit_tb w
  obtain ⟨W0, e0, hl0, hb0, hs0⟩ : ∃ W0, ((((w.alloc (.cells #[.string ⟨#[98]⟩] 9)).alloc (.cells #[.int .i64 1, .int .i64 4] 123)).alloc (.cells #[.bool false, .slice (some ⟨w.heap.size + 1, 0, none⟩) 1 1] 97)).alloc
    (.cells #[.bool false, .slice none 0 0] 97)).alloc (.cells #[.slice (some ⟨w.heap.size + 1 + 1, 0, none⟩) 1 1, .int .i64 7, .slice (some ⟨w.heap.size + 1 + 1 + 1, 0, none⟩) 1 1, .int .i64 5] 93) = W0 ∧
      rTb.rel W0 (fun _ => True) [.string ⟨#[97]⟩, .int .i64 5, .bool false, .slice (some ⟨w.heap.size, 0, none⟩) 1 1, .slice (some ⟨w.heap.size + 1 + 1 + 1 + 1, 0, none⟩) 2 2] tbEx ∧ Below w.heap.size w W0 ∧ W0.heap.size = w.heap.size + 1 + 1 + 1 + 1 + 1 :=
    ⟨_, rfl, hl, ((((((Below.refl _ _).alloc (Nat.le_refl _) _).alloc (by simp) _).alloc (by simp; omega) _).alloc (by simp; omega) _).alloc (by simp; omega) _), by simp⟩
  clear hl
  obtain ⟨W1, e1, hl1, hb1, c0, c1, c2, c3, c4, hs1⟩ : ∃ W1, W0.alloc (.cells #[.string ⟨#[97]⟩, .int .i64 5, .bool false, .slice (some ⟨w.heap.size, 0, none⟩) 1 1, .slice (some ⟨w.heap.size + 1 + 1 + 1 + 1, 0, none⟩) 2 2] 42) = W1 ∧
      rTb.rel W1 (fun _ => True) [.string ⟨#[97]⟩, .int .i64 5, .bool false, .slice (some ⟨w.heap.size, 0, none⟩) 1 1, .slice (some ⟨w.heap.size + 1 + 1 + 1 + 1, 0, none⟩) 2 2] tbEx ∧ Below w.heap.size w W1 ∧
      W1.cell? ⟨w.heap.size + 1 + 1 + 1 + 1 + 1, 0, none⟩ = some (.string ⟨#[97]⟩) ∧ W1.cell? ⟨w.heap.size + 1 + 1 + 1 + 1 + 1, 1, none⟩ = some (.int .i64 5) ∧ W1.cell? ⟨w.heap.size + 1 + 1 + 1 + 1 + 1, 2, none⟩ = some (.bool false) ∧
      W1.cell? ⟨w.heap.size + 1 + 1 + 1 + 1 + 1, 3, none⟩ = some (.slice (some ⟨w.heap.size, 0, none⟩) 1 1) ∧ W1.cell? ⟨w.heap.size + 1 + 1 + 1 + 1 + 1, 4, none⟩ = some (.slice (some ⟨w.heap.size + 1 + 1 + 1 + 1, 0, none⟩) 2 2) ∧ W1.heap.size = w.heap.size + 1 + 1 + 1 + 1 + 1 + 1 :=
    ⟨_, rfl, Rd.alloc hl0 _, hb0.alloc hb0.size _, by rw [← hs0]; exact World.cell?_alloc_new _ _ _ _, by rw [← hs0]; exact World.cell?_alloc_new _ _ _ _, by rw [← hs0]; exact World.cell?_alloc_new _ _ _ _, by rw [← hs0]; exact World.cell?_alloc_new _ _ _ _, by rw [← hs0]; exact World.cell?_alloc_new _ _ _ _, by simp [hs0]⟩
  have HL1 := Lib.hid hl1
  have hin : InI 2 ∧ InI 9 := by unfold InI; omega
  have hn2 := Rd.lit1 (R := rInt) (w := W1) (S := fun _ => True) (x := 2) (cells := [.int .i64 2]) (n := w.heap.size + 1 + 1 + 1 + 1 + 1 + 1) 3 hs1 (by decide) (by decide) ⟨rfl, hin.1⟩
  have HC2 := Lib.hid (Says_at _ (Rd.alloc hl1 (.cells #[.int .i64 2] 3)) hn2 says_ex2)
  have HB2 := Lib.hid (hb1.alloc hb1.size (.cells #[.int .i64 2] 3))
  have HR : Hid (∀ w2, Below (W1.alloc (.cells #[.int .i64 2] 3)).heap.size (W1.alloc (.cells #[.int .i64 2] 3)) w2 → ∀ o u, W1.cell? ⟨w.heap.size + 1 + 1 + 1 + 1 + 1, o, none⟩ = some u → w2.cell? ⟨w.heap.size + 1 + 1 + 1 + 1 + 1, o, none⟩ = some u) :=
    Lib.hid fun w2 hb o u hu => by
      have hb' := (((Below.refl W1.heap.size W1).alloc (Nat.le_refl _) (.cells #[.int .i64 2] 3)).trans (hb.mono (by simp)))
      rw [hb'.cell (p := ⟨w.heap.size + 1 + 1 + 1 + 1 + 1, o, none⟩) (by show w.heap.size + 1 + 1 + 1 + 1 + 1 < W1.heap.size; omega)]; exact hu
  have HC9 : Hid (∀ w2, Below (W1.alloc (.cells #[.int .i64 2] 3)).heap.size (W1.alloc (.cells #[.int .i64 2] 3)) w2 → Calls Tryz.prog 67 #[.agg #[.string ⟨#[97]⟩, .int .i64 5, .bool false, .slice (some ⟨w.heap.size, 0, none⟩) 1 1, .slice (some ⟨w.heap.size + 1 + 1 + 1 + 1, 0, none⟩) 2 2], .slice (some ⟨w2.heap.size, 0, none⟩) 1 1] (w2.alloc (.cells #[.int .i64 9] 3)) fun e w' => e = .returned (sayV (5, true, 0)) ∧ Below w.heap.size w w') :=
    Lib.hid fun w2 hb => by
      have hb' := (((Below.refl W1.heap.size W1).alloc (Nat.le_refl _) (.cells #[.int .i64 2] 3)).trans (hb.mono (by simp)))
      have hbb := hb1.trans (hb'.mono hb1.size)
      refine (Says_at _ (Rd.alloc (Rd.below HL1.out hb') (.cells #[.int .i64 9] 3)) (Rd.lit1 (R := rInt) (w := w2) (S := fun _ => True) (x := 9) (cells := [.int .i64 9]) 3 rfl (by decide) (by decide) ⟨rfl, hin.2⟩) says_ex9).mono fun e w' ⟨h1, h2⟩ => ⟨h1, ?_⟩
      exact (hbb.alloc hbb.size _).trans (h2.mono (by have := hbb.size; simp; omega))
  clear hl0 hb0 hl1 hn2
  go_enter Tryz.func26, Tryz.ntmps26
  go_wp2_with (first | (go_at_call 67; ((with_reducible refine HC2.out.mono ?_); rintro e w2 ⟨rfl, hb2⟩; unfold sayV; have k0 := HR.out w2 hb2 _ _ c0; have k1 := HR.out w2 hb2 _ _ c1; have k2 := HR.out w2 hb2 _ _ c2; have k3 := HR.out w2 hb2 _ _ c3; have k4 := HR.out w2 hb2 _ _ c4)) | (go_at_call 67; ((with_reducible refine (HC9.out _ hb2).mono ?_); rintro e w3 ⟨rfl, hb3⟩; unfold sayV)))
  go_ret
  exact ⟨rfl, hb3⟩

end Go.Proofs.YtlopccnehgolnabGreatDoor

namespace Go.Proofs.YtlopccnehgolnabGreatDoor
open Go.RowKit Rb

set_option maxRecDepth 100000 in
set_option maxHeartbeats 400000 in
theorem CellHolds_any {S : Nat → Prop} {v : Value} {c : Cl} (n : Int) (w : World) (hl : (rSl rRg).rel w S [v] c.rs) :
    Calls Tryz.prog 121 #[.agg #[.bool c.no, v], .int .i64 n] w fun e w' => e = .returned (.bool (cellHolds c n)) ∧ Below w.heap.size w w' := by
  obtain ⟨no, rs⟩ := c
  dsimp only at *
  have hv : cellHolds ⟨no, rs⟩ n = (decide (rs.length = 0) || (hasL rs n != no)) := by
    show (decide (rs.length = 0) && !no || (hasL rs n != no)) = _
    cases rs with
    | nil => cases no <;> rfl
    | cons r rs => simp
  obtain ⟨A, d, rfl, _⟩ := rSl.elems hl
  have hl2 := fun o => Rd.alloc hl o
  have hC := fun o w' hb => InSet_any n w' (Rd.below (hl2 o) hb)
  clear hl hl2
  generalize rs.length = m at *
  generalize hasL rs n = x at *
  have HC := Lib.hid hC
  have HV := Lib.hid hv
  clear hv hC
  rcases Nat.eq_zero_or_pos m with h0 | h0
  · go_enter Tryz.func121, Tryz.ntmps121
    go_wp2
    go_ret
    exact ⟨ret_bool (by rw [HV.out]; simp [h0]), (Below.refl _ _).alloc (Nat.le_refl _) _⟩
  · have h1 : ((m : Int) == 0) = false := by rw [beq_eq_false_iff_ne]; omega
    go_enter Tryz.func121, Tryz.ntmps121
    go_wp2
    refine wp_region_quiet_below (by kernel_rfl) (by kernel_rfl) ?_
    repeat (go_big_quiet_step (exact Calls.inBelow (HC.out _) _ _))
    refine wpQuiet_nil ?_
    intro _ hw'
    obtain ⟨⟨dq, osq⟩, hw''⟩ := hw'
    subst hw''
    go_wp2
    go_ret
    exact ⟨ret_bool (by rw [HV.out, decide_eq_false (show ¬ m = 0 by omega), Bool.false_or]; cases x <;> cases no <;> rfl), ((Below.refl _ _).alloc (Nat.le_refl _) _).trans ((below_regrown _ _ _).mono (by simp))⟩

set_option maxRecDepth 100000 in
set_option maxHeartbeats 400000 in
theorem SameNumbers_any {S T : Nat → Prop} {v u : Value} {a b : List Int} (w : World) (hl : (rSl rInt).rel w S [v] a) (hm : (rSl rInt).rel w T [u] b) :
    Calls Tryz.prog 23 #[v, u] w fun e w' => e = .returned (.bool (decide (a = b))) ∧ Below w.heap.size w w' := by
  obtain ⟨A, c, rfl, _, _, hba, hE⟩ := rSl.elems hl
  obtain ⟨B, d, rfl, _, _, hbb, hF⟩ := rSl.elems hm
  have hal : a.length ≤ 17592186044416 := by simp only [rInt] at hba; omega
  have hbl : b.length ≤ 17592186044416 := by simp only [rInt] at hbb; omega
  clear hl hm hba hbb
  by_cases hlen : a.length = b.length
  case neg =>
    have hne : ((a.length : Int) != (b.length : Int)) = true := by rw [bne_iff_ne]; omega
    have HF : Hid (decide (a = b) = false) := Lib.hid (decide_eq_false fun e => hlen (by rw [e]))
    clear hlen
    go_enter Tryz.func23, Tryz.ntmps23
    go_wp2
    go_ret
    exact ⟨ret_bool HF.out.symm, Below.refl _ _⟩
  have hne : ((a.length : Int) != (b.length : Int)) = false := by rw [bne_eq_false_iff_eq]; omega
  have HL := Lib.hid hlen
  clear hlen
  go_enter Tryz.func23, Tryz.ntmps23
  go_wp2
  clear hne
  go_loopw [5, 13] (fun _ i wr => ∃ k : Nat, k ≤ a.length ∧ i = .int .i64 k ∧ Hid (a.take k = b.take k) ∧ Below w.heap.size w wr) (fun _ i _ => a.length - (intOf i).toNat)
  case atStart => exact ⟨0, Nat.zero_le _, rfl, Lib.hid rfl, Below.refl _ _⟩
  case round =>
    obtain ⟨k, hk, rfl, HT, hb⟩ := hrel
    by_cases hlt : k < a.length
    · have hlt2 : k < b.length := by have := HL.out; omega
      obtain ⟨p, off, x, rfl, _, hp, hx, hxi, g1⟩ := hE.intAt hlt
      obtain ⟨q, off', y, rfl, _, hq, hy, hyi, g2⟩ := hF.intAt hlt2
      rw [← hb.cell (p := ⟨p, _, none⟩) hp] at g1
      rw [← hb.cell (p := ⟨q, _, none⟩) hq] at g2
      have hik : (k : Int) < (a.length : Int) := by omega
      have hik2 : (k : Int) < (b.length : Int) := by omega
      have HX := Lib.hid hx
      have HY := Lib.hid hy
      clear hx hy hE hF
      by_cases h1 : x = y
      · have HT' : Hid (a.take (k + 1) = b.take (k + 1)) := Lib.hid (by rw [take_getElem? HX.out, take_getElem? HY.out, HT.out, h1])
        have hxy : (x != y) = false := by rw [bne_eq_false_iff_eq]; exact h1
        clear h1
        go_wp2
        go_quiet (fail)
        go_wp2
        go_roundw
        case rel => exact ⟨k + 1, by omega, by go_num, HT', drewN_below hb _⟩
        case measure => simp [intOf]; omega
      · have HF : Hid (decide (a = b) = false) := Lib.hid (decide_eq_false fun e => h1 (by have := HX.out; rw [e, HY.out] at this; exact (Option.some.inj this).symm))
        have hxy : (x != y) = true := by rw [bne_iff_ne]; exact h1
        clear h1
        go_wp2
        go_quiet (fail)
        go_wp2
        go_ret
        exact ⟨ret_bool HF.out.symm, drewN_below hb _⟩
    · have HF : Hid (decide (a = b) = true) := Lib.hid (decide_eq_true (by
        have h1 := HT.out
        have h2 := HL.out
        rwa [List.take_of_length_le (by omega), List.take_of_length_le (by omega)] at h1))
      go_wp2
      go_ret
      exact ⟨ret_bool HF.out.symm, hb⟩

end Go.Proofs.YtlopccnehgolnabGreatDoor

namespace Go.Proofs.YtlopccnehgolnabGreatDoor
open Go.RowKit Rb

structure Dm where
  name : Txt
  lo : Int
  hi : Int
structure Bk where
  doms : List Dm
  tabs : List Tb

def rDm : Rd Dm where
  k := 3
  bytes := 32
  rel _ _ cs x := cs = [.string ⟨x.name.toArray⟩, .int .i64 x.lo, .int .i64 x.hi] ∧ x.name.length ≤ 140737488355328 ∧ InI x.lo ∧ InI x.hi
  len h := by obtain ⟨rfl, _⟩ := h; rfl
  keep h _ := h
  mono h _ := h
  one h u hu := by
    obtain ⟨rfl, _⟩ := h
    simp at hu
    rcases hu with rfl | rfl | rfl <;> rfl

def rBk : Rd Bk where
  k := 2
  bytes := 48
  rel w S cs x := ∃ v u, cs = [v, u] ∧ (rSl rDm).rel w S [v] x.doms ∧ (rSl rTb).rel w S [u] x.tabs
  len h := by obtain ⟨v, u, rfl, _⟩ := h; rfl
  keep h hk := by obtain ⟨v, u, e, h1, h2⟩ := h; exact ⟨v, u, e, (rSl rDm).keep h1 hk, (rSl rTb).keep h2 hk⟩
  mono h hk := by obtain ⟨v, u, e, h1, h2⟩ := h; exact ⟨v, u, e, (rSl rDm).mono h1 hk, (rSl rTb).mono h2 hk⟩
  one h u hu := by
    obtain ⟨v, u', rfl, h1, h2⟩ := h
    simp at hu
    rcases hu with rfl | rfl
    · exact (rSl rDm).one h1 _ (by simp)
    · exact (rSl rTb).one h2 _ (by simp)

def tb0 : Tb := ⟨[], 0, false, [], []⟩
def tbOf (o : Option Tb) : Tb := match o with | some t => t | none => tb0
def dm0 : Dm := ⟨[], 0, 0⟩
def dmOf (o : Option Dm) : Dm := match o with | some d => d | none => dm0
def findT (l : List Tb) (s : Txt) : Option Tb := l.find? fun t => t.name == s
def findD (l : List Dm) (s : Txt) : Option Dm := l.find? fun d => d.name == s
theorem find_at {α : Type} {p : α → Bool} {l : List α} {k : Nat} {x : α} (h : l[k]? = some x) : (l.drop k).find? p = if p x then some x else (l.drop (k + 1)).find? p := by
  rw [drop_cons h, List.find?_cons]
  cases p x <;> rfl

/-- Five cells are stored over. -/
theorem store5 {w : World} {q : Nat} {u0 u1 u2 u3 u4 : Value} (v0 v1 v2 v3 v4 : Value) (h0 : w.cell? ⟨q, 0, none⟩ = some u0) (h1 : w.cell? ⟨q, 1, none⟩ = some u1) (h2 : w.cell? ⟨q, 2, none⟩ = some u2) (h3 : w.cell? ⟨q, 3, none⟩ = some u3) (h4 : w.cell? ⟨q, 4, none⟩ = some u4) :
    ∃ W, ((((w.setCell ⟨q, 0, none⟩ v0).setCell ⟨q, 1, none⟩ v1).setCell ⟨q, 2, none⟩ v2).setCell ⟨q, 3, none⟩ v3).setCell ⟨q, 4, none⟩ v4 = W ∧ (∀ B, B ≤ q → ∀ w0, Below B w0 w → Below B w0 W) ∧
      W.cell? ⟨q, 0, none⟩ = some v0 ∧ W.cell? ⟨q, 1, none⟩ = some v1 ∧ W.cell? ⟨q, 2, none⟩ = some v2 ∧ W.cell? ⟨q, 3, none⟩ = some v3 ∧ W.cell? ⟨q, 4, none⟩ = some v4 := by
  have o : ∀ (w : World) (i j : Nat) (v : Value), i ≠ j → (w.setCell ⟨q, i, none⟩ v).cell? ⟨q, j, none⟩ = w.cell? ⟨q, j, none⟩ := fun w i j v h => World.cell?_setCell_other _ _ _ _ (by simp <;> omega)
  refine ⟨_, rfl, fun B hB w0 hb => ((((hb.setCell hB _).setCell hB _).setCell hB _).setCell hB _).setCell hB _, ?_, ?_, ?_, ?_, ?_⟩
  · rw [o _ 4 0 _ (by decide), o _ 3 0 _ (by decide), o _ 2 0 _ (by decide), o _ 1 0 _ (by decide)]
    exact World.cell?_setCell_same _ _ _ h0
  · rw [o _ 4 1 _ (by decide), o _ 3 1 _ (by decide), o _ 2 1 _ (by decide)]
    exact World.cell?_setCell_same _ _ _ ((o _ 0 1 _ (by decide)).trans h1)
  · rw [o _ 4 2 _ (by decide), o _ 3 2 _ (by decide)]
    exact World.cell?_setCell_same _ _ _ ((o _ 1 2 _ (by decide)).trans ((o _ 0 2 _ (by decide)).trans h2))
  · rw [o _ 4 3 _ (by decide)]
    exact World.cell?_setCell_same _ _ _ ((o _ 2 3 _ (by decide)).trans ((o _ 1 3 _ (by decide)).trans ((o _ 0 3 _ (by decide)).trans h3)))
  · exact World.cell?_setCell_same _ _ _ ((o _ 3 4 _ (by decide)).trans ((o _ 2 4 _ (by decide)).trans ((o _ 1 4 _ (by decide)).trans ((o _ 0 4 _ (by decide)).trans h4))))

section
variable {w : World} {S : Nat → Prop} {A : Option Addr} {l : List Tb}
/-- A table in a row of tables. -/
theorem Elems.tb (h : Elems rTb w S A l) {i : Nat} (hi : i < l.length) : ∃ b off x A1 c1 A2 c2, A = some ⟨b, off, none⟩ ∧ b < w.heap.size ∧ l[i]? = some x ∧ rTb.rel w S [.string ⟨x.name.toArray⟩, .int .i64 x.pol, .bool x.comp, .slice A1 x.ins.length c1, .slice A2 x.rules.length c2] x ∧
    w.cell? ⟨b, off + i * 5, none⟩ = some (.string ⟨x.name.toArray⟩) ∧ w.cell? ⟨b, off + i * 5 + 1, none⟩ = some (.int .i64 x.pol) ∧ w.cell? ⟨b, off + i * 5 + 2, none⟩ = some (.bool x.comp) ∧ w.cell? ⟨b, off + i * 5 + 3, none⟩ = some (.slice A1 x.ins.length c1) ∧ w.cell? ⟨b, off + i * 5 + 4, none⟩ = some (.slice A2 x.rules.length c2) := by
  obtain ⟨b, off, es, hA, hS, hb, hr, hc⟩ := h i l[i] (List.getElem?_eq_getElem hi)
  have hr' := hr
  obtain ⟨v, u, rfl, _, _, h1, h2⟩ := hr
  obtain ⟨A1, c1, rfl, _⟩ := rSl.elems h1
  obtain ⟨A2, c2, rfl, _⟩ := rSl.elems h2
  exact ⟨b, off, l[i], A1, c1, A2, c2, hA, hb, List.getElem?_eq_getElem hi, hr', hc 0 _ rfl, hc 1 _ rfl, hc 2 _ rfl, hc 3 _ rfl, hc 4 _ rfl⟩
theorem tb0_rel (w : World) : rTb.rel w (fun _ => True) [.string ⟨#[]⟩, .int .i64 0, .bool false, .slice none 0 0, .slice none 0 0] tb0 :=
  ⟨_, _, rfl, by decide, by unfold InI; decide, ⟨none, 0, rfl, Nat.le_refl _, by decide, by simp [tb0], fun i x hx => by simp [tb0] at hx⟩, ⟨none, 0, rfl, Nat.le_refl _, by decide, by simp [tb0], fun i x hx => by simp [tb0] at hx⟩⟩
end

set_option maxRecDepth 100000 in
set_option maxHeartbeats 800000 in
theorem FindTable_any {S : Nat → Prop} {cs : List Value} {b : Bk} (s : Txt) (w : World) (hl : rBk.rel w S cs b) (_hs : s.length ≤ 140737488355328) :
    Calls Tryz.prog 40 #[.agg cs.toArray, .string ⟨s.toArray⟩] w fun e w' => ∃ cs' S', e = .returned (.tuple #[.agg (Array.mk cs'), .bool (findT b.tabs s).isSome]) ∧ rTb.rel w' S' cs' (tbOf (findT b.tabs s)) ∧ Below w.heap.size w w' := by
  obtain ⟨v, u, rfl, hd, ht⟩ := hl
  obtain ⟨A, c, rfl, _⟩ := rSl.elems hd
  obtain ⟨B, d, rfl, _, _, hbt, hF⟩ := rSl.elems ht
  have hlt5 : b.tabs.length ≤ 1759218604441 := by simp only [rTb] at hbt; omega
  obtain ⟨W1, e1, hb1, k1, f0, f1, f2, f3, f4, z0, z1, z2, z3, z4, hs1⟩ : ∃ W1, (w.alloc (.cells #[.slice A b.doms.length c, .slice B b.tabs.length d] 33)).alloc (.cells #[.string ⟨#[]⟩, .int .i64 0, .bool false, .slice none 0 0, .slice none 0 0] 42) = W1 ∧ Below w.heap.size w W1 ∧
      W1.cell? ⟨w.heap.size, 1, none⟩ = some (.slice B b.tabs.length d) ∧ W1.cell? ⟨w.heap.size + 1, 0, none⟩ = some (.string ⟨#[]⟩) ∧ W1.cell? ⟨w.heap.size + 1, 1, none⟩ = some (.int .i64 0) ∧ W1.cell? ⟨w.heap.size + 1, 2, none⟩ = some (.bool false) ∧ W1.cell? ⟨w.heap.size + 1, 3, none⟩ = some (.slice none 0 0) ∧ W1.cell? ⟨w.heap.size + 1, 4, none⟩ = some (.slice none 0 0) ∧
      W1.frozen? ⟨w.heap.size + 1, 0, none⟩ = false ∧ W1.frozen? ⟨w.heap.size + 1, 1, none⟩ = false ∧ W1.frozen? ⟨w.heap.size + 1, 2, none⟩ = false ∧ W1.frozen? ⟨w.heap.size + 1, 3, none⟩ = false ∧ W1.frozen? ⟨w.heap.size + 1, 4, none⟩ = false ∧ w.heap.size + 1 < W1.heap.size := by
    have e : (w.alloc (.cells #[.slice A b.doms.length c, .slice B b.tabs.length d] 33)).heap.size = w.heap.size + 1 := by simp
    refine ⟨_, rfl, ((Below.refl _ _).alloc (Nat.le_refl _) _).alloc (by simp) _, (World.cell?_alloc_lt _ _ _ (by simp)).trans (World.cell?_alloc_new _ _ _ _), ?_, ?_, ?_, ?_, ?_, ?_, ?_, ?_, ?_, ?_, by simp⟩ <;> rw [← e] <;> first | exact World.cell?_alloc_new _ _ _ _ | simp
  clear hd ht hbt
  go_enter Tryz.func40, Tryz.ntmps40
  go_wp2
  clear e1
  generalize hq4 : w.heap.size + 1 = q4 at *
  have hq5 : w.heap.size ≤ q4 := by omega
  clear hq4
  go_loopw [11] (fun i wr => ∃ k : Nat, k ≤ b.tabs.length ∧ i = .int .i64 k ∧ Hid (findT b.tabs s = (b.tabs.drop k).find? fun t => t.name == s) ∧ Hid (Below W1.heap.size W1 wr)) (fun i _ => b.tabs.length - (intOf i).toNat)
  case atStart => exact ⟨0, Nat.zero_le _, rfl, Lib.hid rfl, Lib.hid (Below.refl _ _)⟩
  case round =>
    obtain ⟨k, hk, rfl, HI, HB⟩ := hrel
    have hbw := hb1.trans (HB.out.mono hb1.size)
    by_cases hlt : k < b.tabs.length
    · obtain ⟨bB, off, x, A1, c1, A2, c2, rfl, hbB, hx, hr, g0, g1, g2, g3, g4⟩ := hF.tb hlt
      rw [← hbw.cell (p := ⟨bB, _, none⟩) hbB] at g0 g1 g2 g3 g4
      have hik : (k : Int) < (b.tabs.length : Int) := by omega
      have HAT := Lib.hid (find_at (p := fun t : Tb => t.name == s) hx)
      have HR := Lib.hid hr
      clear hx hr
      cases hnm : (x.name == s)
      · have HI' := Lib.hid (HI.out.trans (by rw [HAT.out, if_neg (by simp [hnm])]))
        obtain ⟨W3, e3, HB3, j0⟩ : ∃ W3, wr.alloc (.cells #[.string ⟨x.name.toArray⟩, .int .i64 x.pol, .bool x.comp, .slice A1 x.ins.length c1, .slice A2 x.rules.length c2] 42) = W3 ∧ Hid (Below W1.heap.size W1 W3) ∧ W3.cell? ⟨wr.heap.size, 0, none⟩ = some (.string ⟨x.name.toArray⟩) :=
          ⟨_, rfl, Lib.hid (HB.out.alloc HB.out.size _), World.cell?_alloc_new _ _ _ _⟩
        go_wp2
        go_roundw
        case rel => exact ⟨k + 1, by omega, by go_num, HI', HB3⟩
        case measure => simp [intOf]; omega
      · have HF : Hid (findT b.tabs s = some x) := Lib.hid (HI.out.trans (by rw [HAT.out, if_pos hnm]))
        obtain ⟨W3, e3, HB3, j0, j1, j2, j3, j4, hw3⟩ : ∃ W3, wr.alloc (.cells #[.string ⟨x.name.toArray⟩, .int .i64 x.pol, .bool x.comp, .slice A1 x.ins.length c1, .slice A2 x.rules.length c2] 42) = W3 ∧ Hid (Below W1.heap.size W1 W3) ∧ W3.cell? ⟨wr.heap.size, 0, none⟩ = some (.string ⟨x.name.toArray⟩) ∧ W3.cell? ⟨wr.heap.size, 1, none⟩ = some (.int .i64 x.pol) ∧ W3.cell? ⟨wr.heap.size, 2, none⟩ = some (.bool x.comp) ∧ W3.cell? ⟨wr.heap.size, 3, none⟩ = some (.slice A1 x.ins.length c1) ∧ W3.cell? ⟨wr.heap.size, 4, none⟩ = some (.slice A2 x.rules.length c2) ∧ Hid (Below w.heap.size w W3) :=
          ⟨_, rfl, Lib.hid (HB.out.alloc HB.out.size _), World.cell?_alloc_new _ _ _ _, World.cell?_alloc_new _ _ _ _, World.cell?_alloc_new _ _ _ _, World.cell?_alloc_new _ _ _ _, World.cell?_alloc_new _ _ _ _, Lib.hid (hbw.alloc hbw.size _)⟩
        have y0 : W3.frozen? ⟨q4, 0, none⟩ = false := (HB3.out.frozen (p := ⟨q4, 0, none⟩) hs1).trans z0
        have y1 : W3.frozen? ⟨q4, 1, none⟩ = false := (HB3.out.frozen (p := ⟨q4, 1, none⟩) hs1).trans z1
        have y2 : W3.frozen? ⟨q4, 2, none⟩ = false := (HB3.out.frozen (p := ⟨q4, 2, none⟩) hs1).trans z2
        have y3 : W3.frozen? ⟨q4, 3, none⟩ = false := (HB3.out.frozen (p := ⟨q4, 3, none⟩) hs1).trans z3
        have y4 : W3.frozen? ⟨q4, 4, none⟩ = false := (HB3.out.frozen (p := ⟨q4, 4, none⟩) hs1).trans z4
        have p0 := (HB3.out.cell (p := ⟨q4, 0, none⟩) hs1).trans f0
        have p1 := (HB3.out.cell (p := ⟨q4, 1, none⟩) hs1).trans f1
        have p2 := (HB3.out.cell (p := ⟨q4, 2, none⟩) hs1).trans f2
        have p3 := (HB3.out.cell (p := ⟨q4, 3, none⟩) hs1).trans f3
        have p4 := (HB3.out.cell (p := ⟨q4, 4, none⟩) hs1).trans f4
        obtain ⟨W4, e4, hB4, n0, n1, n2, n3, n4⟩ := store5 (.string ⟨x.name.toArray⟩) (.int .i64 x.pol) (.bool x.comp) (.slice A1 x.ins.length c1) (.slice A2 x.rules.length c2) p0 p1 p2 p3 p4
        have HB4 := Lib.hid (hB4 _ hq5 _ hw3.out)
        clear hB4
        go_wp2
        refine bodyPost_ret (by simp [results, Tryz.results40, go_sem, n0, n1, n2, n3, n4]; rfl) rfl ?_
        exact ⟨_, S, by rw [HF.out]; rfl, by rw [HF.out]; exact Rd.below HR.out HB4.out, HB4.out⟩
    · have HF : Hid (findT b.tabs s = none) := Lib.hid (by rw [HI.out, List.drop_eq_nil_of_le (by omega)]; rfl)
      have y0 : wr.frozen? ⟨q4, 0, none⟩ = false := (HB.out.frozen (p := ⟨q4, 0, none⟩) hs1).trans z0
      have y1 : wr.frozen? ⟨q4, 1, none⟩ = false := (HB.out.frozen (p := ⟨q4, 1, none⟩) hs1).trans z1
      have y2 : wr.frozen? ⟨q4, 2, none⟩ = false := (HB.out.frozen (p := ⟨q4, 2, none⟩) hs1).trans z2
      have y3 : wr.frozen? ⟨q4, 3, none⟩ = false := (HB.out.frozen (p := ⟨q4, 3, none⟩) hs1).trans z3
      have y4 : wr.frozen? ⟨q4, 4, none⟩ = false := (HB.out.frozen (p := ⟨q4, 4, none⟩) hs1).trans z4
      have p0 := (HB.out.cell (p := ⟨q4, 0, none⟩) hs1).trans f0
      have p1 := (HB.out.cell (p := ⟨q4, 1, none⟩) hs1).trans f1
      have p2 := (HB.out.cell (p := ⟨q4, 2, none⟩) hs1).trans f2
      have p3 := (HB.out.cell (p := ⟨q4, 3, none⟩) hs1).trans f3
      have p4 := (HB.out.cell (p := ⟨q4, 4, none⟩) hs1).trans f4
      obtain ⟨W4, e4, hB4, n0, n1, n2, n3, n4⟩ := store5 (.string ⟨#[]⟩) (.int .i64 0) (.bool false) (.slice none 0 0) (.slice none 0 0) p0 p1 p2 p3 p4
      have HB4 := Lib.hid (hB4 _ hq5 _ hbw)
      clear hB4
      go_wp2
      refine bodyPost_ret (by simp [results, Tryz.results40, go_sem, n0, n1, n2, n3, n4]; rfl) rfl ?_
      exact ⟨_, fun _ => True, by rw [HF.out]; rfl, by rw [HF.out]; exact tb0_rel _, HB4.out⟩

end Go.Proofs.YtlopccnehgolnabGreatDoor

namespace Go.Proofs.YtlopccnehgolnabGreatDoor
open Go.RowKit Rb

theorem store3 {w : World} {q : Nat} {u0 u1 u2 : Value} (v0 v1 v2 : Value) (h0 : w.cell? ⟨q, 0, none⟩ = some u0) (h1 : w.cell? ⟨q, 1, none⟩ = some u1) (h2 : w.cell? ⟨q, 2, none⟩ = some u2) :
    ∃ W, ((w.setCell ⟨q, 0, none⟩ v0).setCell ⟨q, 1, none⟩ v1).setCell ⟨q, 2, none⟩ v2 = W ∧ (∀ B, B ≤ q → ∀ w0, Below B w0 w → Below B w0 W) ∧
      W.cell? ⟨q, 0, none⟩ = some v0 ∧ W.cell? ⟨q, 1, none⟩ = some v1 ∧ W.cell? ⟨q, 2, none⟩ = some v2 := by
  have o : ∀ (w : World) (i j : Nat) (v : Value), i ≠ j → (w.setCell ⟨q, i, none⟩ v).cell? ⟨q, j, none⟩ = w.cell? ⟨q, j, none⟩ := fun w i j v h => World.cell?_setCell_other _ _ _ _ (by simp <;> omega)
  refine ⟨_, rfl, fun B hB w0 hb => ((hb.setCell hB _).setCell hB _).setCell hB _, ?_, ?_, ?_⟩
  · rw [o _ 2 0 _ (by decide), o _ 1 0 _ (by decide)]
    exact World.cell?_setCell_same _ _ _ h0
  · rw [o _ 2 1 _ (by decide)]
    exact World.cell?_setCell_same _ _ _ ((o _ 0 1 _ (by decide)).trans h1)
  · exact World.cell?_setCell_same _ _ _ ((o _ 1 2 _ (by decide)).trans ((o _ 0 2 _ (by decide)).trans h2))

section
variable {w : World} {S : Nat → Prop} {A : Option Addr} {l : List Dm}
/-- A domain in a row of domains. -/
theorem Elems.dm (h : Elems rDm w S A l) {i : Nat} (hi : i < l.length) : ∃ b off x, A = some ⟨b, off, none⟩ ∧ b < w.heap.size ∧ l[i]? = some x ∧ (x.name.length ≤ 140737488355328 ∧ InI x.lo ∧ InI x.hi) ∧
    w.cell? ⟨b, off + i * 3, none⟩ = some (.string ⟨x.name.toArray⟩) ∧ w.cell? ⟨b, off + i * 3 + 1, none⟩ = some (.int .i64 x.lo) ∧ w.cell? ⟨b, off + i * 3 + 2, none⟩ = some (.int .i64 x.hi) := by
  obtain ⟨b, off, es, hA, hS, hb, ⟨rfl, hr⟩, hc⟩ := h i l[i] (List.getElem?_eq_getElem hi)
  exact ⟨b, off, l[i], hA, hb, List.getElem?_eq_getElem hi, hr, hc 0 _ rfl, hc 1 _ rfl, hc 2 _ rfl⟩
end

set_option maxRecDepth 100000 in
set_option maxHeartbeats 800000 in
theorem FindDomain_any {S : Nat → Prop} {cs : List Value} {b : Bk} (s : Txt) (w : World) (hl : rBk.rel w S cs b) (_hs : s.length ≤ 140737488355328) :
    Calls Tryz.prog 69 #[.agg cs.toArray, .string ⟨s.toArray⟩] w fun e w' => e = .returned (.tuple #[.agg #[.string ⟨(dmOf (findD b.doms s)).name.toArray⟩, .int .i64 (dmOf (findD b.doms s)).lo, .int .i64 (dmOf (findD b.doms s)).hi], .bool (findD b.doms s).isSome]) ∧ Below w.heap.size w w' := by
  obtain ⟨v, u, rfl, hd, ht⟩ := hl
  obtain ⟨A, c, rfl, _, _, hbt, hF⟩ := rSl.elems hd
  obtain ⟨B, d, rfl, _⟩ := rSl.elems ht
  have hlt5 : b.doms.length ≤ 4398046511104 := by simp only [rDm] at hbt; omega
  obtain ⟨W1, e1, hb1, k1, f0, f1, f2, z0, z1, z2, hs1⟩ : ∃ W1, (w.alloc (.cells #[.slice A b.doms.length c, .slice B b.tabs.length d] 33)).alloc (.cells #[.string ⟨#[]⟩, .int .i64 0, .int .i64 0] 44) = W1 ∧ Below w.heap.size w W1 ∧
      W1.cell? ⟨w.heap.size, 0, none⟩ = some (.slice A b.doms.length c) ∧ W1.cell? ⟨w.heap.size + 1, 0, none⟩ = some (.string ⟨#[]⟩) ∧ W1.cell? ⟨w.heap.size + 1, 1, none⟩ = some (.int .i64 0) ∧ W1.cell? ⟨w.heap.size + 1, 2, none⟩ = some (.int .i64 0) ∧
      W1.frozen? ⟨w.heap.size + 1, 0, none⟩ = false ∧ W1.frozen? ⟨w.heap.size + 1, 1, none⟩ = false ∧ W1.frozen? ⟨w.heap.size + 1, 2, none⟩ = false ∧ w.heap.size + 1 < W1.heap.size := by
    have e : (w.alloc (.cells #[.slice A b.doms.length c, .slice B b.tabs.length d] 33)).heap.size = w.heap.size + 1 := by simp
    refine ⟨_, rfl, ((Below.refl _ _).alloc (Nat.le_refl _) _).alloc (by simp) _, (World.cell?_alloc_lt _ _ _ (by simp)).trans (World.cell?_alloc_new _ _ _ _), ?_, ?_, ?_, ?_, ?_, ?_, by simp⟩ <;> rw [← e] <;> first | exact World.cell?_alloc_new _ _ _ _ | simp
  clear hd ht hbt
  go_enter Tryz.func69, Tryz.ntmps69
  go_wp2
  clear e1
  generalize hq4 : w.heap.size + 1 = q4 at *
  have hq5 : w.heap.size ≤ q4 := by omega
  clear hq4
  go_loopw [11] (fun i wr => ∃ k : Nat, k ≤ b.doms.length ∧ i = .int .i64 k ∧ Hid (findD b.doms s = (b.doms.drop k).find? fun t => t.name == s) ∧ Hid (Below W1.heap.size W1 wr)) (fun i _ => b.doms.length - (intOf i).toNat)
  case atStart => exact ⟨0, Nat.zero_le _, rfl, Lib.hid rfl, Lib.hid (Below.refl _ _)⟩
  case round =>
    obtain ⟨k, hk, rfl, HI, HB⟩ := hrel
    have hbw := hb1.trans (HB.out.mono hb1.size)
    by_cases hlt : k < b.doms.length
    · obtain ⟨bB, off, x, rfl, hbB, hx, hr, g0, g1, g2⟩ := hF.dm hlt
      rw [← hbw.cell (p := ⟨bB, _, none⟩) hbB] at g0 g1 g2
      have hik : (k : Int) < (b.doms.length : Int) := by omega
      have HAT := Lib.hid (find_at (p := fun t : Dm => t.name == s) hx)
      clear hx hr
      cases hnm : (x.name == s)
      · have HI' := Lib.hid (HI.out.trans (by rw [HAT.out, if_neg (by simp [hnm])]))
        obtain ⟨W3, e3, HB3, j0⟩ : ∃ W3, wr.alloc (.cells #[.string ⟨x.name.toArray⟩, .int .i64 x.lo, .int .i64 x.hi] 44) = W3 ∧ Hid (Below W1.heap.size W1 W3) ∧ W3.cell? ⟨wr.heap.size, 0, none⟩ = some (.string ⟨x.name.toArray⟩) :=
          ⟨_, rfl, Lib.hid (HB.out.alloc HB.out.size _), World.cell?_alloc_new _ _ _ _⟩
        go_wp2
        go_roundw
        case rel => exact ⟨k + 1, by omega, by go_num, HI', HB3⟩
        case measure => simp [intOf]; omega
      · have HF : Hid (findD b.doms s = some x) := Lib.hid (HI.out.trans (by rw [HAT.out, if_pos hnm]))
        obtain ⟨W3, e3, HB3, j0, j1, j2, hw3⟩ : ∃ W3, wr.alloc (.cells #[.string ⟨x.name.toArray⟩, .int .i64 x.lo, .int .i64 x.hi] 44) = W3 ∧ Hid (Below W1.heap.size W1 W3) ∧ W3.cell? ⟨wr.heap.size, 0, none⟩ = some (.string ⟨x.name.toArray⟩) ∧ W3.cell? ⟨wr.heap.size, 1, none⟩ = some (.int .i64 x.lo) ∧ W3.cell? ⟨wr.heap.size, 2, none⟩ = some (.int .i64 x.hi) ∧ Hid (Below w.heap.size w W3) :=
          ⟨_, rfl, Lib.hid (HB.out.alloc HB.out.size _), World.cell?_alloc_new _ _ _ _, World.cell?_alloc_new _ _ _ _, World.cell?_alloc_new _ _ _ _, Lib.hid (hbw.alloc hbw.size _)⟩
        have y0 : W3.frozen? ⟨q4, 0, none⟩ = false := (HB3.out.frozen (p := ⟨q4, 0, none⟩) hs1).trans z0
        have y1 : W3.frozen? ⟨q4, 1, none⟩ = false := (HB3.out.frozen (p := ⟨q4, 1, none⟩) hs1).trans z1
        have y2 : W3.frozen? ⟨q4, 2, none⟩ = false := (HB3.out.frozen (p := ⟨q4, 2, none⟩) hs1).trans z2
        have p0 := (HB3.out.cell (p := ⟨q4, 0, none⟩) hs1).trans f0
        have p1 := (HB3.out.cell (p := ⟨q4, 1, none⟩) hs1).trans f1
        have p2 := (HB3.out.cell (p := ⟨q4, 2, none⟩) hs1).trans f2
        obtain ⟨W4, e4, hB4, n0, n1, n2⟩ := store3 (.string ⟨x.name.toArray⟩) (.int .i64 x.lo) (.int .i64 x.hi) p0 p1 p2
        have HB4 := Lib.hid (hB4 _ hq5 _ hw3.out)
        clear hB4
        go_wp2
        refine bodyPost_ret (by simp [results, Tryz.results69, go_sem, n0, n1, n2]; rfl) rfl ?_
        exact ⟨by rw [HF.out]; rfl, HB4.out⟩
    · have HF : Hid (findD b.doms s = none) := Lib.hid (by rw [HI.out, List.drop_eq_nil_of_le (by omega)]; rfl)
      have y0 : wr.frozen? ⟨q4, 0, none⟩ = false := (HB.out.frozen (p := ⟨q4, 0, none⟩) hs1).trans z0
      have y1 : wr.frozen? ⟨q4, 1, none⟩ = false := (HB.out.frozen (p := ⟨q4, 1, none⟩) hs1).trans z1
      have y2 : wr.frozen? ⟨q4, 2, none⟩ = false := (HB.out.frozen (p := ⟨q4, 2, none⟩) hs1).trans z2
      have p0 := (HB.out.cell (p := ⟨q4, 0, none⟩) hs1).trans f0
      have p1 := (HB.out.cell (p := ⟨q4, 1, none⟩) hs1).trans f1
      have p2 := (HB.out.cell (p := ⟨q4, 2, none⟩) hs1).trans f2
      obtain ⟨W4, e4, hB4, n0, n1, n2⟩ := store3 (.string ⟨#[]⟩) (.int .i64 0) (.int .i64 0) p0 p1 p2
      have HB4 := Lib.hid (hB4 _ hq5 _ hbw)
      clear hB4
      go_wp2
      refine bodyPost_ret (by simp [results, Tryz.results69, go_sem, n0, n1, n2]; rfl) rfl ?_
      exact ⟨by rw [HF.out]; rfl, HB4.out⟩

end Go.Proofs.YtlopccnehgolnabGreatDoor

namespace Go.Proofs.YtlopccnehgolnabGreatDoor
open Go.RowKit Rb

def goodD (d : Dm) : Bool := named d.name && (decide (-1000000 ≤ d.lo) && (decide (d.lo ≤ d.hi) && decide (d.hi ≤ 1000000)))

set_option maxRecDepth 100000 in
theorem GoodDomain_any (d : Dm) (w : World) (hs : d.name.length ≤ 140737488355328) :
    Calls Tryz.prog 68 #[.agg #[.string ⟨d.name.toArray⟩, .int .i64 d.lo, .int .i64 d.hi]] w fun e w' => e = .returned (.bool (goodD d)) ∧ Below w.heap.size w w' := by
  have hv : goodD d = (named d.name && (decide (-1000000 ≤ d.lo) && (decide (d.lo ≤ d.hi) && decide (d.hi ≤ 1000000)))) := rfl
  obtain ⟨nm, hnm⟩ : ∃ x, named d.name = x := ⟨_, rfl⟩
  have qn := Lib.hid hnm
  rw [hnm] at hv
  have HV := Lib.hid hv
  clear hv hnm
  have hcs : nm = false ∨ (nm = true ∧ ¬ -1000000 ≤ d.lo) ∨ (nm = true ∧ -1000000 ≤ d.lo ∧ ¬ d.lo ≤ d.hi) ∨ (nm = true ∧ -1000000 ≤ d.lo ∧ d.lo ≤ d.hi ∧ ¬ d.hi ≤ 1000000) ∨ (nm = true ∧ -1000000 ≤ d.lo ∧ d.lo ≤ d.hi ∧ d.hi ≤ 1000000) := by
    cases nm
    · exact .inl rfl
    · by_cases h1 : -1000000 ≤ d.lo <;> by_cases h2 : d.lo ≤ d.hi <;> by_cases h3 : d.hi ≤ 1000000 <;> simp [h1, h2, h3]
  rcases hcs with rfl | ⟨rfl, h1⟩ | ⟨rfl, h1, h2⟩ | ⟨rfl, h1, h2, h3⟩ | ⟨rfl, h1, h2, h3⟩
  all_goals
    have HF := HV.out
    simp [*] at HF
    have HG := Lib.hid HF
    clear HF HV
    go_enter Tryz.func68, Tryz.ntmps68
    go_wp2_with (first | (go_at_call 81; go_must ((with_reducible refine (Named_b qn.out _ hs).mono ?_); rintro e w4 ⟨rfl, rfl⟩)))
    go_ret
    exact ⟨by first | (rw [HG.out]; rfl) | (rw [HG.out]; exact ret_bool (by simp [h3])), (Below.refl _ _).alloc (Nat.le_refl _) _⟩

end Go.Proofs.YtlopccnehgolnabGreatDoor

namespace Go.Proofs.YtlopccnehgolnabGreatDoor
open Go.RowKit Rb

def clipV (lo hi n : Int) : Int := max lo (min n hi)
/-- Numbers brought into domains, one for each domain. -/
def clipTo (ns : List Int) (l : List Dm) : List Int := (List.range l.length).map fun i => match l[i]? with | some d => clipV d.lo d.hi ((ns[i]?).getD 0) | none => 0
theorem clipTo_take {ns : List Int} {l : List Dm} {k : Nat} {x : Dm} (h : l[k]? = some x) : clipTo ns (l.take (k + 1)) = clipTo ns (l.take k) ++ [clipV x.lo x.hi ((ns[k]?).getD 0)] := by
  have hk := (List.getElem?_eq_some_iff.1 h).1
  unfold clipTo
  rw [List.length_take, List.length_take, Nat.min_eq_left (by omega), Nat.min_eq_left (by omega), List.range_succ, List.map_append]
  congr 1
  · apply List.map_congr_left
    intro i hi
    rw [List.mem_range] at hi
    rw [List.getElem?_take, List.getElem?_take, if_pos (by omega), if_pos hi]
  · simp [h]

end Go.Proofs.YtlopccnehgolnabGreatDoor
