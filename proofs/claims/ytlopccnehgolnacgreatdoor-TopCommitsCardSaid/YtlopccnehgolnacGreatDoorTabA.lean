import Derived.Test.YtlopccnehgolnacGreatDoorGCommits8
import Derived.Test.YtlopccnehgolnacGreatDoorGCommits9
namespace Go.Proofs.YtlopccnehgolnacGreatDoor
open Go.RowKit Rb
open Go.Lib renaming hid -> hI
open List renaming getElem?_eq_getElem -> gE, findIdx?_eq_none_iff -> jB, findIdx?_eq_some_iff_getElem -> jC
open Bool renaming eq_iff_iff -> jA
set_option maxRecDepth 100000
theorem Z8t (n : Int) (w : World) : Calls Tryz.prog 107 #[.int .i64 n] w fun e w' => e = .returned (.bool (Z0s n)) /\ w = w' := by
 go_enter Tryz.func107, Tryz.ntmps107
 go_wp2
 all_goals
  go_ret
  refine ⟨Z0j ?_, rfl⟩
  rw [jA, Z1d]
  simp
  omega
def lowB (c : UInt8) : Bool := decide (97 <= c.toNat) && decide (c.toNat <= 122)
theorem Y8f (s : Txt) : Z2b s = (s.all lowB && (decide (1 <= s.length) && decide (s.length <= 8))) := rfl
theorem Z97 {s : Txt} {k : Nat} {c : UInt8} (h : s[k]? = some c) : (s.take (k + 1)).all lowB = ((s.take k).all lowB && lowB c) := by
 rw [Z0b h]; simp
theorem Z8y {s : Txt} {k : Nat} (h : (s.take k).all lowB = false) : s.all lowB = false := by
 rw [<- List.take_append_drop k s, List.all_append, h]; rfl
theorem Z3z (s : Txt) (w : World) (hs : s.length <= 140737488355328) : Calls Tryz.prog 33 #[.string ⟨s.toArray⟩] w fun e w' => e = .returned (.bool (Z2b s)) /\ w = w' := by
 have hN := hI (Y8f s)
 go_enter Tryz.func33, Tryz.ntmps33
 go_wp2
 go_loop [6] (fun i => ∃ k : Nat, k <= s.length /\ i = .int .i64 k /\ Hid ((s.take k).all lowB = true)) (fun i => s.length - (intOf i).toNat)
 case atStart => exact ⟨0, Nat.zero_le _, rfl, hI (by simp)⟩
 case round =>
  obtain ⟨k, hk, rfl, HS⟩ := hrel
  by_cases hlt : k < s.length
  ·have hx : s[k]? = some s[k] := gE hlt
   have h1 := Z97 hx
   rw [HS.out, Bool.true_and] at h1
   have HX := hI h1
   clear h1
   have hi : (k : Int) < (s.length : Int) := by omega
   obtain ⟨c, hc⟩ : ∃ c : UInt8, (⟨s.toArray⟩ : ByteArray)[k]'hlt = c := ⟨_, rfl⟩
   have hc' : s[k] = c := hc
   rw [hc'] at HX
   have hd : (c.toNat : Int) < 97 \/ (97 <= (c.toNat : Int) /\ 122 < (c.toNat : Int)) \/ (97 <= (c.toNat : Int) /\ (c.toNat : Int) <= 122) := by omega
   have hF : lowB c = false -> Hid (Z2b s = false) := fun h => hI (by rw [hN.out, Z8y (HX.out.trans h)]; rfl)
   clear hc'
   rcases hd with hd | hd | hd
   ·have HF := hF (by simp [lowB]; omega)
    clear hF hx HX
    go_wp2
    go_ret
    exact ⟨Z0j HF.out.symm, rfl⟩
   ·obtain ⟨hd1, hd2⟩ := hd
    have HF := hF (by simp [lowB]; omega)
    clear hF hx HX
    go_wp2
    go_ret
    exact ⟨Z0j HF.out.symm, rfl⟩
   ·obtain ⟨hd1, hd2⟩ := hd
    have HS' : Hid ((s.take (k + 1)).all lowB = true) := hI (HX.out.trans (by simp [lowB]; omega))
    clear hF hx HX
    go_wp2
    go_round
    case rel => exact ⟨k + 1, by omega, by go_num, HS'⟩
    case measure => simp [intOf]; omega
  ·have HF : Hid (Z2b s = (decide (1 <= s.length) && decide (s.length <= 8))) := hI (by
    have h1 := HS.out
    rw [List.take_of_length_le (by omega)] at h1
    rw [hN.out, h1]; rfl)
   have hd : s.length = 0 \/ 0 < s.length := by omega
   rcases hd with hd | hd
   ·obtain rfl : s = [] := List.eq_nil_of_length_eq_zero hd
    go_wp2
    go_ret
    exact ⟨Z0j (by rw [HF.out]; rfl), rfl⟩
   ·have h1 : (1 : Int) <= (s.length : Int) := by omega
    go_wp2
    go_ret
    exact ⟨Z0j (by rw [HF.out, jA]; simp; omega), rfl⟩
theorem Y03 {S : Nat -> Prop} {v : Value} {l : List Txt} (s : Txt) (w : World) (hl : (rSl rStr).rel w S [v] l) :
  Calls Tryz.prog 95 #[v, .string ⟨s.toArray⟩] w fun e w' => e = .returned (.int .i64 (Z8b l s)) /\ w = w' := by
 obtain ⟨A, c, rfl, _, _, hn, hE⟩ := rSl.elems hl
 have hn' : l.length <= 8796093022208 := by simp only [rStr] at hn; omega
 clear hl hn
 go_enter Tryz.func95, Tryz.ntmps95
 go_wp2
 go_loop [5, 8] (fun _ i => ∃ k : Nat, k <= l.length /\ i = .int .i64 k /\ Hid (∀ j, j < k -> l[j]? ≠ some s)) (fun _ i => l.length - (intOf i).toNat)
 case atStart => exact ⟨0, Nat.zero_le _, rfl, hI (fun j h => by omega)⟩
 case round =>
  obtain ⟨k, hk, rfl, HS⟩ := hrel
  by_cases hlt : k < l.length
  ·obtain ⟨b, off, t, rfl, _, hb, hx, _, h1⟩ := hE.str hlt
   have hi : (k : Int) < (l.length : Int) := by omega
   have HX := hI hx
   clear hx hE
   by_cases hc : s = t
   ·have HF : Hid (l.findIdx? (· == s) = some k) := hI (by
     rw [jC]
     have h2 := HX.out
     rw [gE hlt] at h2
     refine ⟨hlt, by rw [Option.some.inj h2, hc]; simp, fun j hj => ?_⟩
     have h3 := HS.out j hj
     rw [gE (by omega)] at h3
     simpa using h3)
    subst hc
    go_wp2
    go_ret
    exact ⟨Z6z (by rw [Z8b, HF.out]), rfl⟩
   ·have hq : (s == t) = false := by simpa using hc
    have HS' : Hid (∀ j, j < k + 1 -> l[j]? ≠ some s) := hI (fun j hj h => by
     rcases Nat.lt_or_ge j k with h' | h'
     ·exact HS.out j h' h
     ·obtain rfl : j = k := by omega
      rw [HX.out] at h
      exact hc (Option.some.inj h).symm)
    clear hc
    go_wp2
    go_round
    case rel => exact ⟨k + 1, by omega, by go_num, HS'⟩
    case measure => simp [intOf]; omega
  ·have HF : Hid (l.findIdx? (· == s) = none) := hI (by
    rw [jB]
    intro x hx
    obtain ⟨j, hj, rfl⟩ := List.getElem_of_mem hx
    have h3 := HS.out j (by omega)
    rw [gE (by omega)] at h3
    simpa using h3)
   go_wp2
   go_ret
   exact ⟨Z6z (by rw [Z8b, HF.out]), rfl⟩
theorem Z2o {S : Nat -> Prop} {v : Value} {l : List Txt} (s : Txt) (w : World) (hl : (rSl rStr).rel w S [v] l) :
  Calls Tryz.prog 63 #[v, .string ⟨s.toArray⟩] w fun e w' => e = .returned (.bool (l.contains s)) /\ w = w' := by
 have HC := hI (Y03 s w hl)
 clear hl
 go_enter Tryz.func63, Tryz.ntmps63
 go_wp2_with (go_at_call 95; refine HC.out.mono ?_; rintro e w' ⟨rfl, rfl⟩)
 go_ret
 refine ⟨Z0j ?_, rfl⟩
 clear HC
 unfold Z8b
 cases h : l.findIdx? (· == s) with
 | some i =>
  have h' := (jC.1 h)
  obtain ⟨hi, h1, _⟩ := h'
  have : s ∈ l := by
   have : l[i] = s := by simpa using h1
   exact this ▸ List.getElem_mem hi
  simp [this]
 | none =>
  rw [jB] at h
  have : s ∉ l := fun hm => by simpa using h s hm
  simp [this]
theorem Calls.inBelow {P : Program} {f : FuncId} {args : Array Value} {W : World} {u : Value} (h : ∀ w, Below W.heap.size W w -> Calls P f args w fun e w' => e = .returned u /\ Below w.heap.size w w') (p : Nat) (os : Array Obj) :
  Calls P f args (Go.Sort.grow (redrawn W p) os) fun e w'' => e = .returned u /\ ∃ p : Regrown, w'' = Go.Sort.grow (redrawn W p.d) p.os := Calls.regrown_of (h _ (below_regrown W p os))
theorem Y5i {S : Nat -> Prop} {v : Value} {c : Cl} (n : Int) (w : World) (hl : (rSl rRg).rel w S [v] c.rs) :
  Calls Tryz.prog 157 #[.agg #[.bool c.no, v], .int .i64 n] w fun e w' => e = .returned (.bool (Z4s c n)) /\ Below w.heap.size w w' := by
 obtain ⟨no, rs⟩ := c
 dsimp only at *
 have hv : Z4s ⟨no, rs⟩ n = (decide (rs.length = 0) && !no || (hasL rs n != no)) := rfl
 obtain ⟨A, d, rfl, _⟩ := rSl.elems hl
 have hl2 := fun o => Rd.alloc hl o
 have hC := fun o w' hb => Y9p n w' (Rd.below (hl2 o) hb)
 clear hl hl2
 generalize rs.length = m at *
 generalize hasL rs n = x at *
 have HC := hI hC
 have HV := hI hv
 clear hv hC
 have hx : m = 0 /\ no = false \/ (m = 0 /\ no = true) \/ (0 < m /\ ((m : Int) == 0) = false /\ ¬ m = 0) := by
  cases no <;> cases m <;> simp <;> omega
 rcases hx with ⟨rfl, rfl⟩ | ⟨rfl, rfl⟩ | ⟨h0, h1, h2⟩
 all_goals
  go_enter Tryz.func157, Tryz.ntmps157
  go_wp2
  refine wp_region_quiet_below (by kernel_rfl) (by kernel_rfl) ?_
  repeat (go_big_quiet_step (exact Calls.inBelow (HC.out _) _ _))
  refine wpQuiet_nil ?_
  intro _ hw'
  obtain ⟨⟨dq, osq⟩, hw''⟩ := hw'
  subst hw''
  go_wp2
  go_ret
  refine ⟨Z0j ?_, bA.trans ((below_regrown _ _ _).mono (by simp))⟩
  rw [HV.out]
 ·simp
 ·cases x <;> rfl
 ·cases x <;> cases no <;> simp [h2]
