/- Contracts of Size, CopyBox, Clone, Both of boxes. -/
import Derived.Test.YtlopccnehgolnaaBoxA
import Derived.Test.YtlopccnehgolnaaLit
import Derived.Test.YtlopccnehgolnaaPairL
import Derived.Test.YtlopccnehgolnaaPairOf
import Derived.StillTailTactics
import Derived.WalkSpells
namespace Go.Proofs.Ytlopccnehgolnaa
open Go.RowKit Rb

theorem el_Rgs : ElemOf Try.prog (rSl rRg) 46 37 := .mk' Try.underlying46 (z := .slice none 0 0) (k := 1) (b := 24) (by kernel_rfl) rfl rfl rfl (by decide) (by decide)
theorem el_Bxs : ElemOf Try.prog rBx 55 46 := .mk' Try.underlying55 (z := .slice none 0 0) (k := 1) (b := 24) (by kernel_rfl) rfl rfl rfl (by decide) (by decide)

/-- How many inputs a box of sets has. -/
def prodS : Bx → Int
  | [] => 1
  | s :: b => sizeN s * prodS b
def sizeBx (b : Bx) : Int := if goodBx b (b.length : Int) then prodS b else 0
theorem sizeN_bd2 {s : List Rg} (h : GoodS s) : 0 ≤ sizeN s ∧ sizeN s ≤ 2000002 := by
  have h1 := sizeN_bd h
  have h2 : sizeN s ≤ 1000000 - (-1000000 - 2) := h1.2 (by unfold MX; omega)
  exact ⟨h1.1, by omega⟩

theorem mul_bd {a b A B : Int} (ha : 0 ≤ a) (hA : a ≤ A) (hb : 0 ≤ b) (hB : b ≤ B) : 0 ≤ a * b ∧ a * b ≤ A * B :=
  ⟨Int.mul_nonneg ha hb, Int.mul_le_mul hA hB hb (by omega)⟩

set_option maxRecDepth 100000 in
set_option maxHeartbeats 400000 in
theorem BSize_any {S : Nat → Prop} {v : Value} {b : Bx} (w : World) (hl : rBx.rel w S [v] b) :
    Calls Try.prog 42 #[v] w fun e w' => e = .returned (.int .i64 (sizeBx b)) ∧ Below w.heap.size w w' := by
  have hbl := rSl.lenle hl (by decide)
  have HG := Lib.hid (BGood_any (b.length : Int) w hl)
  obtain ⟨A, c, rfl, _, _, _, hE⟩ := rSl.elems hl
  clear hl
  cases hg : goodBx b (b.length : Int)
  · rw [hg] at HG
    have HF : Hid (sizeBx b = 0) := Lib.hid (by unfold sizeBx; rw [hg]; rfl)
    clear hg
    go_enter Try.func42, Try.ntmps42
    go_wp2_with (first | (go_at_call 38; refine HG.out.mono ?_; rintro e w1 ⟨rfl, hb1⟩))
    go_ret
    exact ⟨ret_int HF.out.symm, hb1⟩
  rw [hg] at HG
  have HF : Hid (sizeBx b = prodS b) := Lib.hid (by unfold sizeBx; rw [hg]; rfl)
  obtain ⟨hgs, _, h3⟩ := goodBx_iff.1 hg
  have HGS := Lib.hid hgs
  clear hg hgs
  go_enter Try.func42, Try.ntmps42
  go_wp2_with (first | (go_at_call 38; refine HG.out.mono ?_; rintro e w1 ⟨rfl, hb1⟩))
  go_loopw [3, 13] (fun n i wr => ∃ (k : Nat) (m : Int), k ≤ b.length ∧ i = .int .i64 k ∧ n = .int .i64 m ∧ Hid (prodS b = m * prodS (b.drop k)) ∧ Hid (0 ≤ m ∧ m ≤ (2000002 : Int) ^ k) ∧ Below w.heap.size w wr) (fun _ i _ => b.length - (intOf i).toNat)
  case atStart => exact ⟨0, 1, Nat.zero_le _, rfl, rfl, Lib.hid (by simp), Lib.hid (by simp), hb1⟩
  case round =>
    obtain ⟨k, m, hk, rfl, rfl, HK, HM, hb⟩ := hrel
    by_cases hlt : k < b.length
    · obtain ⟨p, off, v, s, rfl, _, hp, hx, hs, h1⟩ := hE.sl hlt
      rw [← hb.cell (p := ⟨p, _, none⟩) hp] at h1
      have hik : (k : Int) < (b.length : Int) := by omega
      have hgs := (HGS.out s (List.mem_of_getElem? hx)).2
      have HC := Lib.hid (by have := Size_any wr (Rd.below hs hb); rw [normS_id hgs] at this; exact this)
      have hsz := sizeN_bd2 hgs
      have hmb := mul_bd HM.out.1 HM.out.2 hsz.1 hsz.2
      have hpow : (2000002 : Int) ^ k * 2000002 = 2000002 ^ (k + 1) := (Int.pow_succ _ _).symm
      rw [hpow] at hmb
      have HMB := Lib.hid hmb
      have HKn : Hid (prodS b = m * sizeN s * prodS (b.drop (k + 1))) := Lib.hid (by rw [HK.out, drop_cons hx]; exact (Int.mul_assoc _ _ _).symm)
      have hk3 : k = 0 ∨ k = 1 ∨ k = 2 := by omega
      have hw : IntKind.i64.wrap (m * sizeN s) = m * sizeN s := IntWalk.i64_in _ (by
        have h9 := HMB.out
        have q1 : (2000002 : Int) ^ (0 + 1) = 2000002 := by decide
        have q2 : (2000002 : Int) ^ (1 + 1) = 4000008000004 := by decide
        have q3 : (2000002 : Int) ^ (2 + 1) = 8000024000024000008 := by decide
        rcases hk3 with rfl | rfl | rfl
        · rw [q1] at h9; omega
        · rw [q2] at h9; omega
        · rw [q3] at h9; omega)
      obtain ⟨A2, c2, rfl, _⟩ := rSl.elems hs
      generalize sizeN s = z at *
      clear hgs hx hs hpow hmb hE hk3 HK HM
      go_wp2_with (first | (go_at_call 25; refine HC.out.mono ?_; rintro e w2 ⟨rfl, hb2⟩))
      go_roundw
      case rel => exact ⟨k + 1, m * z, by omega, by go_num, rfl, HKn, HMB, hb.trans (hb2.mono hb.size)⟩
      case measure => simp [intOf]; omega
    · have HQ : Hid (sizeBx b = m) := Lib.hid (by rw [HF.out, HK.out, List.drop_eq_nil_of_le (by omega)]; simp [prodS])
      go_wp2
      go_ret
      exact ⟨ret_int HQ.out.symm, hb⟩
set_option maxRecDepth 100000 in
set_option maxHeartbeats 400000 in
theorem BoxSize_any {S : Nat → Prop} {v : Value} {b : Bx} (w : World) (hl : rBx.rel w S [v] b) :
    Calls Try.prog 43 #[v] w fun e w' => e = .returned (.int .i64 (sizeBx b)) ∧ Below w.heap.size w w' := by
  have hbl := rSl.lenle hl (by decide)
  have HG := Lib.hid (IsBox_any (b.length : Int) w hl)
  obtain ⟨A, c, rfl, _, _, _, hE⟩ := rSl.elems hl
  clear hl
  cases hg : goodBx b (b.length : Int)
  · rw [hg] at HG
    have HF : Hid (sizeBx b = 0) := Lib.hid (by unfold sizeBx; rw [hg]; rfl)
    clear hg
    go_enter Try.func43, Try.ntmps43
    go_wp2_with (first | (go_at_call 39; refine HG.out.mono ?_; rintro e w1 ⟨rfl, hb1⟩))
    go_ret
    exact ⟨ret_int HF.out.symm, hb1⟩
  rw [hg] at HG
  have HF : Hid (sizeBx b = prodS b) := Lib.hid (by unfold sizeBx; rw [hg]; rfl)
  obtain ⟨hgs, _, h3⟩ := goodBx_iff.1 hg
  have HGS := Lib.hid hgs
  clear hg hgs
  go_enter Try.func43, Try.ntmps43
  go_wp2_with (first | (go_at_call 39; refine HG.out.mono ?_; rintro e w1 ⟨rfl, hb1⟩))
  go_loopw [3, 13] (fun n i wr => ∃ (k : Nat) (m : Int), k ≤ b.length ∧ i = .int .i64 k ∧ n = .int .i64 m ∧ Hid (prodS b = m * prodS (b.drop k)) ∧ Hid (0 ≤ m ∧ m ≤ (2000002 : Int) ^ k) ∧ Below w.heap.size w wr) (fun _ i _ => b.length - (intOf i).toNat)
  case atStart => exact ⟨0, 1, Nat.zero_le _, rfl, rfl, Lib.hid (by simp), Lib.hid (by simp), hb1⟩
  case round =>
    obtain ⟨k, m, hk, rfl, rfl, HK, HM, hb⟩ := hrel
    by_cases hlt : k < b.length
    · obtain ⟨p, off, v, s, rfl, _, hp, hx, hs, h1⟩ := hE.sl hlt
      rw [← hb.cell (p := ⟨p, _, none⟩) hp] at h1
      have hik : (k : Int) < (b.length : Int) := by omega
      have hgs := (HGS.out s (List.mem_of_getElem? hx)).2
      have HC := Lib.hid (by have := SizeOf_any wr (Rd.below hs hb); rw [normS_id hgs] at this; exact this)
      have hsz := sizeN_bd2 hgs
      have hmb := mul_bd HM.out.1 HM.out.2 hsz.1 hsz.2
      have hpow : (2000002 : Int) ^ k * 2000002 = 2000002 ^ (k + 1) := (Int.pow_succ _ _).symm
      rw [hpow] at hmb
      have HMB := Lib.hid hmb
      have HKn : Hid (prodS b = m * sizeN s * prodS (b.drop (k + 1))) := Lib.hid (by rw [HK.out, drop_cons hx]; exact (Int.mul_assoc _ _ _).symm)
      have hk3 : k = 0 ∨ k = 1 ∨ k = 2 := by omega
      have hw : IntKind.i64.wrap (m * sizeN s) = m * sizeN s := IntWalk.i64_in _ (by
        have h9 := HMB.out
        have q1 : (2000002 : Int) ^ (0 + 1) = 2000002 := by decide
        have q2 : (2000002 : Int) ^ (1 + 1) = 4000008000004 := by decide
        have q3 : (2000002 : Int) ^ (2 + 1) = 8000024000024000008 := by decide
        rcases hk3 with rfl | rfl | rfl
        · rw [q1] at h9; omega
        · rw [q2] at h9; omega
        · rw [q3] at h9; omega)
      obtain ⟨A2, c2, rfl, _⟩ := rSl.elems hs
      generalize sizeN s = z at *
      clear hgs hx hs hpow hmb hE hk3 HK HM
      go_wp2_with (first | (go_at_call 26; refine HC.out.mono ?_; rintro e w2 ⟨rfl, hb2⟩))
      go_roundw
      case rel => exact ⟨k + 1, m * z, by omega, by go_num, rfl, HKn, HMB, hb.trans (hb2.mono hb.size)⟩
      case measure => simp [intOf]; omega
    · have HQ : Hid (sizeBx b = m) := Lib.hid (by rw [HF.out, HK.out, List.drop_eq_nil_of_le (by omega)]; simp [prodS])
      go_wp2
      go_ret
      exact ⟨ret_int HQ.out.symm, hb⟩

end Go.Proofs.Ytlopccnehgolnaa
