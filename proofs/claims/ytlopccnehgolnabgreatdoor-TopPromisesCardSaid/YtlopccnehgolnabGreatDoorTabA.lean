import Derived.Test.YtlopccnehgolnabGreatDoorGPromises8
import Derived.Test.YtlopccnehgolnabGreatDoorGPromises9
namespace Go.Proofs.YtlopccnehgolnabGreatDoor
open Go.RowKit Rb
open Go.Lib renaming hid -> hI
open List renaming getElem?_eq_getElem -> gE, findIdx?_eq_none_iff -> jB, findIdx?_eq_some_iff_getElem -> jC
open Bool renaming eq_iff_iff -> jA
set_option maxRecDepth 100000
theorem Z91 (n : Int) (w : World) : Calls Tryz.prog 110 #[.int .i64 n] w fun e w' => e = .returned (.bool (isNum n)) /\ w = w' := by
 go_enter Tryz.func110, Tryz.ntmps110
 go_wp2
 all_goals
  go_ret
  refine ⟨Z0m ?_, rfl⟩
  rw [jA, Z1r]
  simp
  omega
def lowB (c : UInt8) : Bool := decide (97 <= c.toNat) && decide (c.toNat <= 122)
theorem X05 (s : Txt) : Z2r s = (s.all lowB && (decide (1 <= s.length) && decide (s.length <= 8))) := rfl
theorem Y1q {s : Txt} {k : Nat} {c : UInt8} (h : s[k]? = some c) : (s.take (k + 1)).all lowB = ((s.take k).all lowB && lowB c) := by
 rw [Z0b h]; simp
theorem Z96 {s : Txt} {k : Nat} (h : (s.take k).all lowB = false) : s.all lowB = false := by
 rw [<- List.take_append_drop k s, List.all_append, h]; rfl
theorem Z4i (s : Txt) (w : World) (hs : s.length <= 140737488355328) : Calls Tryz.prog 81 #[.string ⟨s.toArray⟩] w fun e w' => e = .returned (.bool (Z2r s)) /\ w = w' := by
 have hN := hI (X05 s)
 go_enter Tryz.func81, Tryz.ntmps81
 go_wp2
 go_loop [6] (fun i => ∃ k : Nat, k <= s.length /\ i = .int .i64 k /\ Hid ((s.take k).all lowB = true)) (fun i => s.length - (intOf i).toNat)
 case atStart => exact ⟨0, Nat.zero_le _, rfl, hI (by simp)⟩
 case round =>
  obtain ⟨k, hk, rfl, HS⟩ := hrel
  by_cases hlt : k < s.length
  ·have hx : s[k]? = some s[k] := gE hlt
   have h1 := Y1q hx
   rw [HS.out, Bool.true_and] at h1
   have HX := hI h1
   clear h1
   have hi : (k : Int) < (s.length : Int) := by omega
   obtain ⟨c, hc⟩ : ∃ c : UInt8, (⟨s.toArray⟩ : ByteArray)[k]'hlt = c := ⟨_, rfl⟩
   have hc' : s[k] = c := hc
   rw [hc'] at HX
   have hd : (c.toNat : Int) < 97 \/ (97 <= (c.toNat : Int) /\ 122 < (c.toNat : Int)) \/ (97 <= (c.toNat : Int) /\ (c.toNat : Int) <= 122) := by omega
   have hF : lowB c = false -> Hid (Z2r s = false) := fun h => hI (by rw [hN.out, Z96 (HX.out.trans h)]; rfl)
   clear hc'
   rcases hd with hd | hd | hd
   ·have HF := hF (by simp [lowB]; omega)
    clear hF hx HX
    go_wp2
    go_ret
    exact ⟨Z0m HF.out.symm, rfl⟩
   ·obtain ⟨hd1, hd2⟩ := hd
    have HF := hF (by simp [lowB]; omega)
    clear hF hx HX
    go_wp2
    go_ret
    exact ⟨Z0m HF.out.symm, rfl⟩
   ·obtain ⟨hd1, hd2⟩ := hd
    have HS' : Hid ((s.take (k + 1)).all lowB = true) := hI (HX.out.trans (by simp [lowB]; omega))
    clear hF hx HX
    go_wp2
    go_round
    case rel => exact ⟨k + 1, by omega, by go_num, HS'⟩
    case measure => simp [intOf]; omega
  ·have HF : Hid (Z2r s = (decide (1 <= s.length) && decide (s.length <= 8))) := hI (by
    have h1 := HS.out
    rw [List.take_of_length_le (by omega)] at h1
    rw [hN.out, h1]; rfl)
   have hd : s.length = 0 \/ 0 < s.length := by omega
   rcases hd with hd | hd
   ·obtain rfl : s = [] := List.eq_nil_of_length_eq_zero hd
    go_wp2
    go_ret
    exact ⟨Z0m (by rw [HF.out]; rfl), rfl⟩
   ·have h1 : (1 : Int) <= (s.length : Int) := by omega
    go_wp2
    go_ret
    exact ⟨Z0m (by rw [HF.out, jA]; simp; omega), rfl⟩
theorem Y2l {S : Nat -> Prop} {v : Value} {l : List Txt} (s : Txt) (w : World) (hl : (rSl rStr).rel w S [v] l) :
  Calls Tryz.prog 130 #[v, .string ⟨s.toArray⟩] w fun e w' => e = .returned (.int .i64 (Z9c l s)) /\ w = w' := by
 obtain ⟨A, c, rfl, _, _, hn, hE⟩ := rSl.elems hl
 have hn' : l.length <= 8796093022208 := by simp only [rStr] at hn; omega
 clear hl hn
 go_enter Tryz.func130, Tryz.ntmps130
 go_wp2
 go_loop [5, 8] (fun _ i => ∃ k : Nat, k <= l.length /\ i = .int .i64 k /\ Hid (∀ j, j < k -> l[j]? ≠ some s)) (fun _ i => l.length - (intOf i).toNat)
 case atStart => exact ⟨0, Nat.zero_le _, rfl, hI (fun j h => by omega)⟩
 case round =>
  obtain ⟨k, hk, rfl, HS⟩ := hrel
  by_cases hlt : k < l.length
  ·obtain ⟨b, off, t, rfl, _, hb, hx, _, h1⟩ := hE.str hlt
   have hi : (k : Int) < (l.length : Int) := by omega
   have HX := hI hx
   clear hx hE
   by_cases hc : s = t
   ·have HF : Hid (l.findIdx? (· == s) = some k) := hI (by
     rw [jC]
     have h2 := HX.out
     rw [gE hlt] at h2
     refine ⟨hlt, by rw [Option.some.inj h2, hc]; simp, fun j hj => ?_⟩
     have h3 := HS.out j hj
     rw [gE (by omega)] at h3
     simpa using h3)
    subst hc
    go_wp2
    go_ret
    exact ⟨Z7v (by rw [Z9c, HF.out]), rfl⟩
   ·have hq : (s == t) = false := by simpa using hc
    have HS' : Hid (∀ j, j < k + 1 -> l[j]? ≠ some s) := hI (fun j hj h => by
     rcases Nat.lt_or_ge j k with h' | h'
     ·exact HS.out j h' h
     ·obtain rfl : j = k := by omega
      rw [HX.out] at h
      exact hc (Option.some.inj h).symm)
    clear hc
    go_wp2
    go_round
    case rel => exact ⟨k + 1, by omega, by go_num, HS'⟩
    case measure => simp [intOf]; omega
  ·have HF : Hid (l.findIdx? (· == s) = none) := hI (by
    rw [jB]
    intro x hx
    obtain ⟨j, hj, rfl⟩ := List.getElem_of_mem hx
    have h3 := HS.out j (by omega)
    rw [gE (by omega)] at h3
    simpa using h3)
   go_wp2
   go_ret
   exact ⟨Z7v (by rw [Z9c, HF.out]), rfl⟩
theorem Z22 {S : Nat -> Prop} {v : Value} {l : List Txt} (s : Txt) (w : World) (hl : (rSl rStr).rel w S [v] l) :
  Calls Tryz.prog 75 #[v, .string ⟨s.toArray⟩] w fun e w' => e = .returned (.bool (l.contains s)) /\ w = w' := by
 have HC := hI (Y2l s w hl)
 clear hl
 go_enter Tryz.func75, Tryz.ntmps75
 go_wp2_with (go_at_call 130; refine HC.out.mono ?_; rintro e w' ⟨rfl, rfl⟩)
 go_ret
 refine ⟨Z0m ?_, rfl⟩
 clear HC
 unfold Z9c
 cases h : l.findIdx? (· == s) with
 | some i =>
  have h' := (jC.1 h)
  obtain ⟨hi, h1, _⟩ := h'
  have : s ∈ l := by
   have : l[i] = s := by simpa using h1
   exact this ▸ List.getElem_mem hi
  simp [this]
 | none =>
  rw [jB] at h
  have : s ∉ l := fun hm => by simpa using h s hm
  simp [this]
theorem Calls.inBelow {P : Program} {f : FuncId} {args : Array Value} {W : World} {u : Value} (h : ∀ w, Below W.heap.size W w -> Calls P f args w fun e w' => e = .returned u /\ Below w.heap.size w w') (p : Nat) (os : Array Obj) :
  Calls P f args (Go.Sort.grow (redrawn W p) os) fun e w'' => e = .returned u /\ ∃ p : Regrown, w'' = Go.Sort.grow (redrawn W p.d) p.os := Calls.regrown_of (h _ (below_regrown W p os))
theorem Y7l {S : Nat -> Prop} {v : Value} {c : Cl} (n : Int) (w : World) (hl : (rSl rRg).rel w S [v] c.rs) :
  Calls Tryz.prog 42 #[.agg #[.bool c.no, v], .int .i64 n] w fun e w' => e = .returned (.bool (Z24 c n)) /\ Below w.heap.size w w' := by
 obtain ⟨no, rs⟩ := c
 dsimp only at *
 have hv : Z24 ⟨no, rs⟩ n = (decide (rs.length = 0) && !no || (hasL rs n != no)) := rfl
 obtain ⟨A, d, rfl, _⟩ := rSl.elems hl
 have hl2 := fun o => Rd.alloc hl o
 have hC := fun o w' hb => X2l n w' (Rd.below (hl2 o) hb)
 clear hl hl2
 generalize rs.length = m at *
 generalize hasL rs n = x at *
 have HC := hI hC
 have HV := hI hv
 clear hv hC
 have hx : m = 0 /\ no = false \/ (m = 0 /\ no = true) \/ (0 < m /\ ((m : Int) == 0) = false /\ ¬ m = 0) := by
  cases no <;> cases m <;> simp <;> omega
 rcases hx with ⟨rfl, rfl⟩ | ⟨rfl, rfl⟩ | ⟨h0, h1, h2⟩
 all_goals
  go_enter Tryz.func42, Tryz.ntmps42
  go_wp2
  refine wp_region_quiet_below (by kernel_rfl) (by kernel_rfl) ?_
  repeat (go_big_quiet_step (exact Calls.inBelow (HC.out _) _ _))
  refine wpQuiet_nil ?_
  intro _ hw'
  obtain ⟨⟨dq, osq⟩, hw''⟩ := hw'
  subst hw''
  go_wp2
  go_ret
  refine ⟨Z0m ?_, bA.trans ((below_regrown _ _ _).mono (by simp))⟩
  rw [HV.out]
 ·simp
 ·cases x <;> rfl
 ·cases x <;> cases no <;> simp [h2]
