import Derived.Test.YtlopccnehgolnacGreatDoorGK8
import Derived.Test.YtlopccnehgolnacGreatDoorGK9
namespace Go.Proofs.YtlopccnehgolnacGreatDoor
open Go.RowKit Rb
set_option maxRecDepth 100000
theorem Y0d (n : Int) (w : World) : Calls Tryz.prog 107 #[.int .i64 n] w fun e w' => e = .returned (.bool (Z0z n)) /\ w = w' := by
 go_enter Tryz.func107, Tryz.ntmps107
 go_wp2
 all_goals
  go_ret
  refine ⟨Z0m ?_, rfl⟩
  rw [L3t, Z07]
  simp
  omega
def lowB (c : UInt8) : Bool := decide (97 <= c.toNat) && decide (c.toNat <= 122)
theorem X1f (s : Txt) : Z1e s = (s.all lowB && (decide (1 <= s.length) && decide (s.length <= 8))) := rfl
theorem Y1w {s : Txt} {k : Nat} {c : UInt8} (h : s[k]? = some c) : (s.take (k + 1)).all lowB = ((s.take k).all lowB && lowB c) := by
 rw [Z0c h]; simp
theorem Y0i {s : Txt} {k : Nat} (h : (s.take k).all lowB = false) : s.all lowB = false := by
 rw [<- List.take_append_drop k s, List.all_append, h]; rfl
theorem Z4j (s : Txt) (w : World) (hs : s.length <= 140737488355328) : Calls Tryz.prog 33 #[sq s] w fun e w' => e = .returned (.bool (Z1e s)) /\ w = w' := by
 have hN := L0 (X1f s)
 go_enter Tryz.func33, Tryz.ntmps33
 go_wp2
 go_loop [6] (fun i => ∃ k : Nat, k <= s.length /\ i = .int .i64 k /\ Hid ((s.take k).all lowB = true)) (fun i => s.length - (intOf i).toNat)
 exact ⟨0, L0o _, rfl, L0 (by simp)⟩
 obtain ⟨k, hk, rfl, HS⟩ := hrel
 by_cases hlt : k < s.length
 ·have hx : s[k]? = some s[k] := L0f hlt
  have h1 := Y1w hx
  rw [HS.o, Bool.true_and] at h1
  have HX := L0 h1
  clear h1
  have hi : (k : Int) < s.length := by omega
  obtain ⟨c, hc⟩ : ∃ c : UInt8, (⟨s.toArray⟩ : ByteArray)[k]'hlt = c := ⟨_, rfl⟩
  have hc' : s[k] = c := hc
  rw [hc'] at HX
  have hd : (c.toNat : Int) < 97 \/ (97 <= (c.toNat : Int) /\ 122 < (c.toNat : Int)) \/ (97 <= (c.toNat : Int) /\ (c.toNat : Int) <= 122) := by omega
  have hF : lowB c = false -> Hid (Z1e s = false) := fun h => L0 (by rw [hN.out, Y0i (HX.o.trans h)]; rfl)
  clear hc'
  rcases hd with hd | hd | hd
  ·have HF := hF (by simp [lowB]; omega)
   clear hF hx HX
   go_wp2
   go_ret
   exact ⟨Z0m HF.o.symm, rfl⟩
  ·obtain ⟨hd1, hd2⟩ := hd
   have HF := hF (by simp [lowB]; omega)
   clear hF hx HX
   go_wp2
   go_ret
   exact ⟨Z0m HF.o.symm, rfl⟩
  obtain ⟨hd1, hd2⟩ := hd
  have HS' : Hid ((s.take (k + 1)).all lowB = true) := L0 (HX.o.trans (by simp [lowB]; omega))
  clear hF hx HX
  go_wp2
  go_round
  exact ⟨k + 1, by omega, by go_num, HS'⟩
  simp [intOf]; omega
 have HF : Hid (Z1e s = (decide (1 <= s.length) && decide (s.length <= 8))) := L0 (by
  have h1 := HS.o
  rw [L0l (by omega)] at h1
  rw [hN.out, h1]; rfl)
 have hd : s.length = 0 \/ 0 < s.length := by omega
 rcases hd with hd | hd
 ·obtain rfl : s = [] := L1g hd
  go_wp2
  go_ret
  exact ⟨Z0m (by rw [HF.o]; rfl), rfl⟩
 have h1 : (1 : Int) <= s.length := by omega
 go_wp2
 go_ret
 exact ⟨Z0m (by rw [HF.o, L3t]; simp; omega), rfl⟩
theorem Y2s {S : Nat -> Prop} {v : Value} {l : List Txt} (s : Txt) (w : World) (hl : (rSl rStr).rel w S [v] l) :
  Calls Tryz.prog 95 #[v, sq s] w fun e w' => e = .returned (.int .i64 (Z7w l s)) /\ w = w' := by
 obtain ⟨A, c, rfl, _, _, hn, hE⟩ := rSl.elems hl
 have hn' : l.length <= 8796093022208 := by simp only [rStr] at hn; omega
 clear hl hn
 go_enter Tryz.func95, Tryz.ntmps95
 go_wp2
 go_loop [5, 8] (fun _ i => ∃ k : Nat, k <= l.length /\ i = .int .i64 k /\ Hid (∀ j, j < k -> l[j]? ≠ some s)) (fun _ i => l.length - (intOf i).toNat)
 exact ⟨0, L0o _, rfl, L0 (fun j h => by omega)⟩
 obtain ⟨k, hk, rfl, HS⟩ := hrel
 by_cases hlt : k < l.length
 ·obtain ⟨b, off, t, rfl, _, hb, hx, _, h1⟩ := hE.str hlt
  have hi : (k : Int) < l.length := by omega
  have HX := L0 hx
  clear hx hE
  by_cases hc : s = t
  ·have HF : Hid (l.findIdx? (· == s) = some k) := L0 (by
    rw [L2g]
    have h2 := HX.o
    rw [L0f hlt] at h2
    refine ⟨hlt, by rw [L0s h2, hc]; simp, fun j hj => ?_⟩
    have h3 := HS.o j hj
    rw [L0f (by omega)] at h3
    simpa using h3)
   subst hc
   go_wp2
   go_ret
   exact ⟨Z78 (by rw [Z7w, HF.o]), rfl⟩
  have hq : (s == t) = false := by simpa using hc
  have HS' : Hid (∀ j, j < k + 1 -> l[j]? ≠ some s) := L0 (fun j hj h => by
   rcases L1r j k with h' | h'
   ·exact HS.o j h' h
   obtain rfl : j = k := by omega
   rw [HX.o] at h
   exact hc (L0s h).symm)
  clear hc
  go_wp2
  go_round
  exact ⟨k + 1, by omega, by go_num, HS'⟩
  simp [intOf]; omega
 have HF : Hid (l.findIdx? (· == s) = none) := L0 (by
  rw [L2h]
  intro x hx
  obtain ⟨j, hj, rfl⟩ := L1u hx
  have h3 := HS.o j (by omega)
  rw [L0f (by omega)] at h3
  simpa using h3)
 go_wp2
 go_ret
 exact ⟨Z78 (by rw [Z7w, HF.o]), rfl⟩
theorem Z22 {S : Nat -> Prop} {v : Value} {l : List Txt} (s : Txt) (w : World) (hl : (rSl rStr).rel w S [v] l) :
  Calls Tryz.prog 63 #[v, sq s] w fun e w' => e = .returned (.bool (l.contains s)) /\ w = w' := by
 have HC := L0 (Y2s s w hl)
 clear hl
 go_enter Tryz.func63, Tryz.ntmps63
 go_wp2_with (go_at_call 95; refine HC.o.mono ?_; rintro e w' ⟨rfl, rfl⟩)
 go_ret
 refine ⟨Z0m ?_, rfl⟩
 clear HC
 unfold Z7w
 cases h : l.findIdx? (· == s) with
 | some i =>
  have h' := (L2g.1 h)
  obtain ⟨hi, h1, _⟩ := h'
  have : s ∈ l := by
   have : l[i] = s := by simpa using h1
   exact this ▸ L2c hi
  simp [this]
 | none =>
  rw [L2h] at h
  have : s ∉ l := fun hm => by simpa using h s hm
  simp [this]
theorem Calls.inBelow {P : Program} {f : FuncId} {args : Array Value} {W : World} {u : Value} (h : ∀ w, Bw W w -> Calls P f args w fun e w' => e = .returned u /\ Bw w w') (p : Nat) (os : Array Obj) :
  Calls P f args (Go.Sort.grow (redrawn W p) os) fun e w'' => e = .returned u /\ ∃ p : Regrown, w'' = Go.Sort.grow (redrawn W p.d) p.os := Calls.regrown_of (h _ (below_regrown W p os))
theorem Y74 {S : Nat -> Prop} {v : Value} {c : Cl} (n : Int) (w : World) (hl : (rSl rRg).rel w S [v] c.rs) :
  Calls Tryz.prog 157 #[.agg #[.bool c.no, v], .int .i64 n] w fun e w' => e = .returned (.bool (Z5m c n)) /\ Bw w w' := by
 obtain ⟨no, rs⟩ := c
 dsimp only at *
 have hv : Z5m ⟨no, rs⟩ n = (decide (rs.length = 0) && !no || (hasL rs n != no)) := rfl
 obtain ⟨A, d, rfl, _⟩ := rSl.elems hl
 have hl2 := fun o => Rd.alloc hl o
 have hC := fun o w' hb => X2x n w' (Rd.below (hl2 o) hb)
 clear hl hl2
 generalize rs.length = m at *
 generalize hasL rs n = x at *
 have HC := L0 hC
 have HV := L0 hv
 clear hv hC
 have hx : m = 0 /\ no = false \/ (m = 0 /\ no = true) \/ (0 < m /\ ((m : Int) == 0) = false /\ ¬ m = 0) := by
  cases no <;> cases m <;> simp <;> omega
 rcases hx with ⟨rfl, rfl⟩ | ⟨rfl, rfl⟩ | ⟨h0, h1, h2⟩
 all_goals
  go_enter Tryz.func157, Tryz.ntmps157
  go_wp2
  refine wp_region_quiet_below (by kernel_rfl) (by kernel_rfl) ?_
  repeat (go_big_quiet_step (exact Calls.inBelow (HC.o _) _ _))
  refine wpQuiet_nil ?_
  intro _ hw'
  obtain ⟨⟨dq, osq⟩, hw''⟩ := hw'
  subst hw''
  go_wp2
  go_ret
  refine ⟨Z0m ?_, bA.trans ((below_regrown _ _ _).mono (by simp))⟩
  rw [HV.o]
 ·simp
 ·cases x <;> rfl
 cases x <;> cases no <;> simp [h2]
