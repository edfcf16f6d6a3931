
/- Boxes as data: lists of sets of ranges; what chapter 2 says of them. -/
import Derived.Test.YtlopccnehgolnabDoorTabA
import Derived.Test.YtlopccnehgolnabDoorPairMath
import Derived.Deep.DeepMust
namespace Go.Proofs.YtlopccnehgolnabDoor
open Go.RowKit Rb

abbrev Bx := List (List Rg)
def rBx : Rd Bx := rSl (rSl rRg)

def goodSet (s : List Rg) : Bool := decide (0 < s.length) && isSet s
def goodBx (b : Bx) (n : Int) : Bool := b.all goodSet && (decide ((b.length : Int) = n) && (decide (0 ≤ n) && decide (n ≤ 3)))
def inBx : Bx → List Int → Bool
  | [], [] => true
  | s :: b, n :: ns => hasL s n && inBx b ns
  | _, _ => false
theorem inBx_len : ∀ {b : Bx} {ns : List Int}, inBx b ns = true → b.length = ns.length
  | [], [], _ => rfl
  | _ :: _, _ :: _, h => by
    simp only [inBx, Bool.and_eq_true] at h
    simp [inBx_len h.2]
  | [], _ :: _, h => by simp [inBx] at h
  | _ :: _, [], h => by simp [inBx] at h
theorem inBx_at {b : Bx} {ns : List Int} {k : Nat} {s : List Rg} {n : Int} (hc : b[k]? = some s) (hn : ns[k]? = some n) : inBx (b.drop k) (ns.drop k) = (hasL s n && inBx (b.drop (k + 1)) (ns.drop (k + 1))) := by
  rw [drop_cons hc, drop_cons hn]; rfl

theorem goodBx_iff {b : Bx} {n : Int} : goodBx b n = true ↔ (∀ s ∈ b, 0 < s.length ∧ GoodS s) ∧ (b.length : Int) = n ∧ n ≤ 3 := by
  unfold goodBx goodSet
  simp only [Bool.and_eq_true, List.all_eq_true, decide_eq_true_iff, isSet_iff]
  constructor
  · rintro ⟨h1, h2, h3, h4⟩; exact ⟨h1, h2, h4⟩
  · rintro ⟨h1, h2, h4⟩; exact ⟨h1, h2, by omega, h4⟩

section
variable {α : Type} {R : Rd α} {w : World} {S : Nat → Prop} {A : Option Addr}
theorem Elems.sl {l : List (List α)} (h : Elems (rSl R) w S A l) {i : Nat} (hi : i < l.length) : ∃ b off v x, A = some ⟨b, off, none⟩ ∧ S b ∧ b < w.heap.size ∧ l[i]? = some x ∧ (rSl R).rel w S [v] x ∧ w.cell? ⟨b, off + i, none⟩ = some v := by
  obtain ⟨b, off, es, hA, hS, hb, hr, hc⟩ := h i l[i] (List.getElem?_eq_getElem hi)
  obtain ⟨A1, c1, rfl, hr2⟩ := hr
  exact ⟨b, off, _, l[i], hA, hS, hb, List.getElem?_eq_getElem hi, ⟨A1, c1, rfl, hr2⟩, by have := hc 0 _ rfl; simpa [rSl] using this⟩
theorem rSl.lenle {α : Type} {R : Rd α} {v : Value} {l : List α} (h : (rSl R).rel w S [v] l) (hb : 8 ≤ R.bytes) : l.length ≤ 17592186044416 := by
  obtain ⟨_, _, _, _, _, h3, _⟩ := h
  have := Nat.mul_le_mul_left l.length hb
  omega
end

theorem Good_b {S : Nat → Prop} {v : Value} {l : List Rg} {b : Bool} (w : World) (hl : (rSl rRg).rel w S [v] l) (h : isSet l = b) :
    Calls Tryd.prog 48 #[v] w fun e w' => e = .returned (.bool b) ∧ Below w.heap.size w w' := h ▸ Good_any w hl

set_option maxRecDepth 100000 in
set_option maxHeartbeats 400000 in
theorem BGood_any {S : Nat → Prop} {v : Value} {b : Bx} (n : Int) (w : World) (hl : rBx.rel w S [v] b) :
    Calls Tryd.prog 34 #[v, .int .i64 n] w fun e w' => e = .returned (.bool (goodBx b n)) ∧ Below w.heap.size w w' := by
  have hbl := rSl.lenle hl (by decide)
  obtain ⟨A, c, rfl, _, _, _, hE⟩ := rSl.elems hl
  clear hl
  go_enter Tryd.func34, Tryd.ntmps34
  go_wp2
  go_loopw [9] (fun i wr => ∃ k : Nat, k ≤ b.length ∧ i = .int .i64 k ∧ Hid ((b.take k).all goodSet = true) ∧ Below w.heap.size w wr) (fun i _ => b.length - (intOf i).toNat)
  case atStart => exact ⟨0, Nat.zero_le _, rfl, Lib.hid rfl, Below.refl _ _⟩
  case round =>
    obtain ⟨k, hk, rfl, HK, hb⟩ := hrel
    by_cases hlt : k < b.length
    · obtain ⟨p, off, v, s, rfl, _, hp, hx, hs, h1⟩ := hE.sl hlt
      rw [← hb.cell (p := ⟨p, _, none⟩) hp] at h1
      have hs' := Rd.below hs hb
      have hik : (k : Int) < (b.length : Int) := by omega
      obtain ⟨A2, c2, rfl, _, _, hl2, _⟩ := rSl.elems hs'
      have hl2' : s.length ≤ 8796093022208 := by simp only [rRg] at hl2; omega
      have HF : Hid (goodSet s = false → goodBx b n = false) := Lib.hid fun h => by
        unfold goodBx
        rw [show b.all goodSet = false from List.all_eq_false.2 ⟨s, List.mem_of_getElem? hx, by simp [h]⟩]; rfl
      have HS : Hid (goodSet s = true → (b.take (k + 1)).all goodSet = true) := Lib.hid fun h => by rw [take_getElem? hx, List.all_append, HK.out]; simp [h]
      have hg : goodSet s = (decide (0 < s.length) && isSet s) := rfl
      generalize s.length = m at *
      have HG := Lib.hid hg
      clear hx hs hl2 HK hE hg
      rcases (show m = 0 ∨ (((m : Int) == 0) = false ∧ 0 < m) by
        rcases Nat.eq_zero_or_pos m with h | h
        · exact .inl h
        · exact .inr ⟨by rw [beq_eq_false_iff_ne]; omega, h⟩) with rfl | ⟨hm, hm0⟩
      · have HFF : Hid (goodBx b n = false) := Lib.hid (HF.out (by rw [HG.out]; rfl))
        go_wp2
        go_ret
        exact ⟨ret_bool HFF.out.symm, hb⟩
      · cases hset : isSet s
        · have HC := Lib.hid (Good_b wr hs' hset)
          have HFF : Hid (goodBx b n = false) := Lib.hid (HF.out (by rw [HG.out, hset]; simp))
          clear hset hs'
          go_wp2_with (first | (go_at_call 48; refine HC.out.mono ?_; rintro e w1 ⟨rfl, hb1⟩))
          go_ret
          exact ⟨ret_bool HFF.out.symm, hb.trans (hb1.mono hb.size)⟩
        · have HC := Lib.hid (Good_b wr hs' hset)
          have HSS := Lib.hid (HS.out (by rw [HG.out, hset]; simp [hm0]))
          clear hset hs'
          go_wp2_with (first | (go_at_call 48; refine HC.out.mono ?_; rintro e w1 ⟨rfl, hb1⟩))
          go_roundw
          case rel => exact ⟨k + 1, by omega, by go_num, HSS, hb.trans (hb1.mono hb.size)⟩
          case measure => simp [intOf]; omega
    · have HF : Hid (goodBx b n = (decide ((b.length : Int) = n) && (decide (0 ≤ n) && decide (n ≤ 3)))) := Lib.hid (by
        have := HK.out
        rw [List.take_of_length_le (by omega)] at this
        unfold goodBx
        rw [this]; rfl)
      clear HK hE
      have hq : ((b.length : Int) == n) = decide ((b.length : Int) = n) := by rw [Bool.eq_iff_iff, beq_iff_eq, decide_eq_true_iff]
      rcases (show ((b.length : Int) == n) = false ∨ (((b.length : Int) == n) = true ∧ 0 ≤ n ∧ (b.length : Int) = n) by
        by_cases h : (b.length : Int) = n
        · exact .inr ⟨by simpa using h, by omega, h⟩
        · exact .inl (by simpa using h)) with h | ⟨h, h0, h3⟩
      · rw [h] at hq
        have HQ := Lib.hid hq
        clear hq
        go_wp2
        go_ret
        exact ⟨ret_bool (by rw [HF.out, ← HQ.out]; rfl), hb⟩
      · rw [h] at hq
        have HQ := Lib.hid hq
        clear hq h3
        go_wp2
        go_ret
        exact ⟨ret_bool (by rw [HF.out, ← HQ.out]; simp [h0]), hb⟩

theorem IsSet_b {S : Nat → Prop} {v : Value} {l : List Rg} {b : Bool} (w : World) (hl : (rSl rRg).rel w S [v] l) (h : isSet l = b) :
    Calls Tryd.prog 32 #[v] w fun e w' => e = .returned (.bool b) ∧ Below w.heap.size w w' := h ▸ IsSet_any w hl

set_option maxRecDepth 100000 in
set_option maxHeartbeats 400000 in
theorem IsBox_any {S : Nat → Prop} {v : Value} {b : Bx} (n : Int) (w : World) (hl : rBx.rel w S [v] b) :
    Calls Tryd.prog 38 #[v, .int .i64 n] w fun e w' => e = .returned (.bool (goodBx b n)) ∧ Below w.heap.size w w' := by
  have hbl := rSl.lenle hl (by decide)
  obtain ⟨A, c, rfl, _, _, _, hE⟩ := rSl.elems hl
  obtain ⟨ok0, hok0⟩ : ∃ ok, (decide ((b.length : Int) = n) && (decide (0 ≤ n) && decide (n ≤ 3))) = ok := ⟨_, rfl⟩
  have HB0 : Hid (goodBx b n = (ok0 && (b.drop 0).all goodSet)) := Lib.hid (by unfold goodBx; rw [hok0, List.drop_zero, Bool.and_comm])
  have hcs : ((b.length : Int) == n) = false ∧ ok0 = false ∨ ((b.length : Int) == n) = true ∧ decide (n < 4) = ok0 := by
    by_cases h : (b.length : Int) = n
    · refine .inr ⟨by simpa using h, ?_⟩
      rw [← hok0, Bool.eq_iff_iff]; simp [h]; omega
    · refine .inl ⟨by simpa using h, ?_⟩
      rw [← hok0]; simp [h]
  have HE := Lib.hid hE
  clear hl hok0 hE
  rcases hcs with ⟨h1, rfl⟩ | ⟨h1, h2⟩
  all_goals
    go_enter Tryd.func38, Tryd.ntmps38
    go_wp2
    go_loopw [5, 18] (fun o i wr => ∃ (k : Nat) (ok : Bool), k ≤ b.length ∧ i = .int .i64 k ∧ o = .bool ok ∧ Hid (goodBx b n = (ok && (b.drop k).all goodSet)) ∧ Below w.heap.size w wr) (fun _ i _ => b.length - (intOf i).toNat)
    case atStart => first | exact ⟨0, _, Nat.zero_le _, rfl, rfl, HB0, Below.refl _ _⟩
    case round =>
      obtain ⟨k, ok, hk, rfl, rfl, HK, hb⟩ := hrel
      by_cases hlt : k < b.length
      · obtain ⟨p, off, v, s, rfl, _, hp, hx, hs, h1⟩ := HE.out.sl hlt
        rw [← hb.cell (p := ⟨p, _, none⟩) hp] at h1
        have hs' := Rd.below hs hb
        have hik : (k : Int) < (b.length : Int) := by omega
        obtain ⟨A2, c2, rfl, _, _, hl2, _⟩ := rSl.elems hs'
        have hl2' : s.length ≤ 8796093022208 := by simp only [rRg] at hl2; omega
        have HS : Hid (goodBx b n = (ok && (decide (0 < s.length) && isSet s) && (b.drop (k + 1)).all goodSet)) := Lib.hid (by
          rw [HK.out, drop_cons hx, List.all_cons, ← Bool.and_assoc]; rfl)
        generalize s.length = m at *
        clear hx hs hl2 HK
        cases ok
        · have HN : Hid (goodBx b n = (false && (b.drop (k + 1)).all goodSet)) := Lib.hid (by rw [HS.out]; simp)
          go_wp2
          go_roundw
          case rel => exact ⟨k + 1, false, by omega, by go_num, rfl, HN, hb⟩
          case measure => simp [intOf]; omega
        · rcases (show m = 0 ∨ (decide (0 < (m : Int)) = true ∧ 0 < m) by
            rcases Nat.eq_zero_or_pos m with h | h
            · exact .inl h
            · exact .inr ⟨by simpa using h, h⟩) with rfl | ⟨hm, hm0⟩
          · have HN : Hid (goodBx b n = (false && (b.drop (k + 1)).all goodSet)) := Lib.hid (by rw [HS.out]; simp)
            go_wp2
            go_roundw
            case rel => exact ⟨k + 1, false, by omega, by go_num, rfl, HN, hb⟩
            case measure => simp [intOf]; omega
          · have HC := Lib.hid (IsSet_b wr hs' rfl)
            have HN : Hid (goodBx b n = (isSet s && (b.drop (k + 1)).all goodSet)) := Lib.hid (by rw [HS.out]; simp [hm0])
            generalize isSet s = is at *
            go_wp2_with (first | (go_at_call 32; refine HC.out.mono ?_; rintro e w1 ⟨rfl, hb1⟩))
            go_roundw
            case rel => exact ⟨k + 1, is, by omega, by go_num, rfl, HN, hb.trans (hb1.mono hb.size)⟩
            case measure => simp [intOf]; omega
      · have HF : Hid (goodBx b n = ok) := Lib.hid (by rw [HK.out, List.drop_eq_nil_of_le (by omega)]; simp)
        go_wp2
        go_ret
        exact ⟨ret_bool HF.out.symm, hb⟩

end Go.Proofs.YtlopccnehgolnabDoor
