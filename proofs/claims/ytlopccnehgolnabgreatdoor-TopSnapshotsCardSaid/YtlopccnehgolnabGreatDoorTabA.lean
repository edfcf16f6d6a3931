import Derived.Test.YtlopccnehgolnabGreatDoorGK8
import Derived.Test.YtlopccnehgolnabGreatDoorGK9
namespace Go.Proofs.YtlopccnehgolnabGreatDoor
open Go.RowKit Rb
set_option maxRecDepth 100000
theorem Z9e (n : Int) (w : World) : Calls Tryz.prog 110 #[.int .i64 n] w fun e w' => e = .returned (.bool (Z0v n)) /\ w = w' := by
 go_enter Tryz.func110, Tryz.ntmps110
 go_wp2
 all_goals
  go_ret
  refine ⟨Z0l ?_, rfl⟩
  rw [L3l, Z02]
  simp
  omega
def lowB (c : UInt8) : Bool := decide (97 <= c.toNat) && decide (c.toNat <= 122)
theorem Y9n (s : Txt) : Z12 s = (s.all lowB && (decide (1 <= s.length) && decide (s.length <= 8))) := rfl
theorem Y0u {s : Txt} {k : Nat} {c : UInt8} (h : s[k]? = some c) : (s.take (k + 1)).all lowB = ((s.take k).all lowB && lowB c) := by
 rw [Z0c h]; simp
theorem Z9i {s : Txt} {k : Nat} (h : (s.take k).all lowB = false) : s.all lowB = false := by
 rw [<- List.take_append_drop k s, List.all_append, h]; rfl
theorem Z33 (s : Txt) (w : World) (hs : s.length <= 140737488355328) : Calls Tryz.prog 81 #[.string ⟨s.toArray⟩] w fun e w' => e = .returned (.bool (Z12 s)) /\ w = w' := by
 have hN := L0 (Y9n s)
 go_enter Tryz.func81, Tryz.ntmps81
 go_wp2
 go_loop [6] (fun i => ∃ k : Nat, k <= s.length /\ i = .int .i64 k /\ Hid ((s.take k).all lowB = true)) (fun i => s.length - (intOf i).toNat)
 exact ⟨0, L0o _, rfl, L0 (by simp)⟩
 obtain ⟨k, hk, rfl, HS⟩ := hrel
 by_cases hlt : k < s.length
 ·have hx : s[k]? = some s[k] := L0g hlt
  have h1 := Y0u hx
  rw [HS.o, Bool.true_and] at h1
  have HX := L0 h1
  clear h1
  have hi : (k : Int) < (s.length : Int) := by omega
  obtain ⟨c, hc⟩ : ∃ c : UInt8, (⟨s.toArray⟩ : ByteArray)[k]'hlt = c := ⟨_, rfl⟩
  have hc' : s[k] = c := hc
  rw [hc'] at HX
  have hd : (c.toNat : Int) < 97 \/ (97 <= (c.toNat : Int) /\ 122 < (c.toNat : Int)) \/ (97 <= (c.toNat : Int) /\ (c.toNat : Int) <= 122) := by omega
  have hF : lowB c = false -> Hid (Z12 s = false) := fun h => L0 (by rw [hN.out, Z9i (HX.o.trans h)]; rfl)
  clear hc'
  rcases hd with hd | hd | hd
  ·have HF := hF (by simp [lowB]; omega)
   clear hF hx HX
   go_wp2
   go_ret
   exact ⟨Z0l HF.o.symm, rfl⟩
  ·obtain ⟨hd1, hd2⟩ := hd
   have HF := hF (by simp [lowB]; omega)
   clear hF hx HX
   go_wp2
   go_ret
   exact ⟨Z0l HF.o.symm, rfl⟩
  obtain ⟨hd1, hd2⟩ := hd
  have HS' : Hid ((s.take (k + 1)).all lowB = true) := L0 (HX.o.trans (by simp [lowB]; omega))
  clear hF hx HX
  go_wp2
  go_round
  exact ⟨k + 1, by omega, by go_num, HS'⟩
  simp [intOf]; omega
 have HF : Hid (Z12 s = (decide (1 <= s.length) && decide (s.length <= 8))) := L0 (by
  have h1 := HS.o
  rw [L0l (by omega)] at h1
  rw [hN.out, h1]; rfl)
 have hd : s.length = 0 \/ 0 < s.length := by omega
 rcases hd with hd | hd
 ·obtain rfl : s = [] := L1g hd
  go_wp2
  go_ret
  exact ⟨Z0l (by rw [HF.o]; rfl), rfl⟩
 have h1 : (1 : Int) <= (s.length : Int) := by omega
 go_wp2
 go_ret
 exact ⟨Z0l (by rw [HF.o, L3l]; simp; omega), rfl⟩
theorem Y1m {S : Nat -> Prop} {v : Value} {l : List Txt} (s : Txt) (w : World) (hl : (rSl rStr).rel w S [v] l) :
  Calls Tryz.prog 130 #[v, .string ⟨s.toArray⟩] w fun e w' => e = .returned (.int .i64 (Z8r l s)) /\ w = w' := by
 obtain ⟨A, c, rfl, _, _, hn, hE⟩ := rSl.elems hl
 have hn' : l.length <= 8796093022208 := by simp only [rStr] at hn; omega
 clear hl hn
 go_enter Tryz.func130, Tryz.ntmps130
 go_wp2
 go_loop [5, 8] (fun _ i => ∃ k : Nat, k <= l.length /\ i = .int .i64 k /\ Hid (∀ j, j < k -> l[j]? ≠ some s)) (fun _ i => l.length - (intOf i).toNat)
 exact ⟨0, L0o _, rfl, L0 (fun j h => by omega)⟩
 obtain ⟨k, hk, rfl, HS⟩ := hrel
 by_cases hlt : k < l.length
 ·obtain ⟨b, off, t, rfl, _, hb, hx, _, h1⟩ := hE.str hlt
  have hi : (k : Int) < (l.length : Int) := by omega
  have HX := L0 hx
  clear hx hE
  by_cases hc : s = t
  ·have HF : Hid (l.findIdx? (· == s) = some k) := L0 (by
    rw [L1w]
    have h2 := HX.o
    rw [L0g hlt] at h2
    refine ⟨hlt, by rw [L0r h2, hc]; simp, fun j hj => ?_⟩
    have h3 := HS.o j hj
    rw [L0g (by omega)] at h3
    simpa using h3)
   subst hc
   go_wp2
   go_ret
   exact ⟨Z7d (by rw [Z8r, HF.o]), rfl⟩
  have hq : (s == t) = false := by simpa using hc
  have HS' : Hid (∀ j, j < k + 1 -> l[j]? ≠ some s) := L0 (fun j hj h => by
   rcases L1o j k with h' | h'
   ·exact HS.o j h' h
   obtain rfl : j = k := by omega
   rw [HX.o] at h
   exact hc (L0r h).symm)
  clear hc
  go_wp2
  go_round
  exact ⟨k + 1, by omega, by go_num, HS'⟩
  simp [intOf]; omega
 have HF : Hid (l.findIdx? (· == s) = none) := L0 (by
  rw [L1x]
  intro x hx
  obtain ⟨j, hj, rfl⟩ := L1z hx
  have h3 := HS.o j (by omega)
  rw [L0g (by omega)] at h3
  simpa using h3)
 go_wp2
 go_ret
 exact ⟨Z7d (by rw [Z8r, HF.o]), rfl⟩
theorem Z2s {S : Nat -> Prop} {v : Value} {l : List Txt} (s : Txt) (w : World) (hl : (rSl rStr).rel w S [v] l) :
  Calls Tryz.prog 75 #[v, .string ⟨s.toArray⟩] w fun e w' => e = .returned (.bool (l.contains s)) /\ w = w' := by
 have HC := L0 (Y1m s w hl)
 clear hl
 go_enter Tryz.func75, Tryz.ntmps75
 go_wp2_with (go_at_call 130; refine HC.o.mono ?_; rintro e w' ⟨rfl, rfl⟩)
 go_ret
 refine ⟨Z0l ?_, rfl⟩
 clear HC
 unfold Z8r
 cases h : l.findIdx? (· == s) with
 | some i =>
  have h' := (L1w.1 h)
  obtain ⟨hi, h1, _⟩ := h'
  have : s ∈ l := by
   have : l[i] = s := by simpa using h1
   exact this ▸ L2a hi
  simp [this]
 | none =>
  rw [L1x] at h
  have : s ∉ l := fun hm => by simpa using h s hm
  simp [this]
theorem Calls.inBelow {P : Program} {f : FuncId} {args : Array Value} {W : World} {u : Value} (h : ∀ w, Below W.heap.size W w -> Calls P f args w fun e w' => e = .returned u /\ Below w.heap.size w w') (p : Nat) (os : Array Obj) :
  Calls P f args (Go.Sort.grow (redrawn W p) os) fun e w'' => e = .returned u /\ ∃ p : Regrown, w'' = Go.Sort.grow (redrawn W p.d) p.os := Calls.regrown_of (h _ (below_regrown W p os))
theorem Y6g {S : Nat -> Prop} {v : Value} {c : Cl} (n : Int) (w : World) (hl : (rSl rRg).rel w S [v] c.rs) :
  Calls Tryz.prog 42 #[.agg #[.bool c.no, v], .int .i64 n] w fun e w' => e = .returned (.bool (Z42 c n)) /\ Below w.heap.size w w' := by
 obtain ⟨no, rs⟩ := c
 dsimp only at *
 have hv : Z42 ⟨no, rs⟩ n = (decide (rs.length = 0) && !no || (hasL rs n != no)) := rfl
 obtain ⟨A, d, rfl, _⟩ := rSl.elems hl
 have hl2 := fun o => Rd.alloc hl o
 have hC := fun o w' hb => X05 n w' (Rd.below (hl2 o) hb)
 clear hl hl2
 generalize rs.length = m at *
 generalize hasL rs n = x at *
 have HC := L0 hC
 have HV := L0 hv
 clear hv hC
 have hx : m = 0 /\ no = false \/ (m = 0 /\ no = true) \/ (0 < m /\ ((m : Int) == 0) = false /\ ¬ m = 0) := by
  cases no <;> cases m <;> simp <;> omega
 rcases hx with ⟨rfl, rfl⟩ | ⟨rfl, rfl⟩ | ⟨h0, h1, h2⟩
 all_goals
  go_enter Tryz.func42, Tryz.ntmps42
  go_wp2
  refine wp_region_quiet_below (by kernel_rfl) (by kernel_rfl) ?_
  repeat (go_big_quiet_step (exact Calls.inBelow (HC.o _) _ _))
  refine wpQuiet_nil ?_
  intro _ hw'
  obtain ⟨⟨dq, osq⟩, hw''⟩ := hw'
  subst hw''
  go_wp2
  go_ret
  refine ⟨Z0l ?_, bA.trans ((below_regrown _ _ _).mono (by simp))⟩
  rw [HV.o]
 ·simp
 ·cases x <;> rfl
 cases x <;> cases no <;> simp [h2]
