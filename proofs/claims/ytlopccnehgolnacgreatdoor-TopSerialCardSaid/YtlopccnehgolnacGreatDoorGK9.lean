import Derived.Test.YtlopccnehgolnacGreatDoorSpanA
import Derived.Laws.StructEq
namespace Go.Proofs.YtlopccnehgolnacGreatDoor
open Go.RowKit Rb
set_option maxHeartbeats 1600000
theorem Z14 {n : Int} {b : Bool} (h : Z0z n = b) (w : World) : Calls Tryz.prog 130 #[.int .i64 n] w fun e w' => e = .returned (.bool b) /\ w' = w :=
 (Y7f n w).mono fun _ _ ⟨h1, h2⟩ => ⟨by rw [h1, h], h2.symm⟩
theorem Y5u {S : Nat -> Prop} {v : Value} {l : List Rg} (w : World) (hl : rRgs.rel w S [v] l) :
  Calls Tryz.prog 108 #[v] w fun e w' => e = .returned (.bool (Z3w l)) /\ Bw w w' := by
 obtain ⟨A, c, rfl, _, _, hn, hE⟩ := rRgs.elems hl
 clear hl
 go_enter Tryz.func108, Tryz.ntmps108
 go_wp2
 go_loopw [7] (fun i wr => ∃ k : Nat, k <= l.length /\ i = .int .i64 k /\ Hid (Z3w l = Z33 (if k = 0 then -1000002 else (l.getD (k - 1) (0, 0)).2) (l.drop k)) /\
  (0 < k -> Z0z (l.getD (k - 1) (0, 0)).2 = true) /\ Bw w wr) (fun i _ => l.length - (intOf i).toNat)
 exact ⟨0, L0o _, rfl, L0 rfl, fun h => absurd h (by omega), L0m _ _⟩
 obtain ⟨k, hk, rfl, HS, hp, hbl⟩ := hrel
 by_cases hlt : k < l.length
 ·obtain ⟨b, off, lo, up, rfl, _, hb, hx, _, _, h1, h2⟩ := hE.rg hlt
  rw [<- hbl.ce _ hb] at h1 h2
  have hs := HS.o
  rw [Z0p hx, Z33] at hs
  dsimp only at hs
  have hb2 := hbl.alloc hbl.size (.cells #[.int .i64 lo, .int .i64 up] 74)
  have done : ∀ {q : Bool}, Z3w l = q -> q = false -> Z3w l = false := fun h h' => h.trans h'
  have hg : l.getD k (0, 0) = (lo, up) := by rw [L4, hx]; rfl
  have HP : 0 < k -> ∃ hi : Int, Z0z hi = true /\ (if k = 0 then -1000002 else (l.getD (k - 1) (0, 0)).2) = hi /\ wr.cell? (zn b (off + (k - 1) * 2 + 1)) = some (.int .i64 hi) := fun h0 => by
   obtain ⟨b', off', lo', up', hA', _, hb', hx', _, _, _, h2'⟩ := hE.rg (i := k - 1) (by omega)
   obtain ⟨rfl, rfl⟩ : b = b' /\ off = off' := by simpa using hA'
   rw [<- hbl.ce _ hb] at h2'
   have e : (l.getD (k - 1) (0, 0)) = (lo', up') := by rw [L4, hx']; rfl
   have h3 := hp h0
   rw [e] at h3
   exact ⟨up', h3, by rw [if_neg (by omega), e], h2'⟩
  have h0 : k = 0 \/ 0 < k := by omega
  have cases5 : Z0z lo = false \/ (Z0z lo = true /\ Z0z up = false) \/ (Z0z lo = true /\ Z0z up = true /\ up < lo) \/ (Z0z lo = true /\ Z0z up = true /\ lo <= up) := by
   cases Z0z lo <;> cases Z0z up <;> simp <;> omega
  have HG := L0 hg
  clear HS hx hE hg hp
  rcases cases5 with c1 | ⟨c1, c2⟩ | ⟨c1, c2, c3⟩ | ⟨c1, c2, c3⟩
  ·have HS : Hid (Z3w l = false) := L0 (done hs (by simp [c1]))
   have c2 := c1
   clear hs h0 HP
   go_wp2
   go_quiet ((first | (go_at_call 130; first | with_reducible exact Calls.quiet_of_same (Z14 c1 _) | with_reducible exact Calls.quiet_of_same (Z14 c2 _))))
   go_wp2
   go_ret
   exact ⟨Z0m HS.o.symm, Z0h hb2 _⟩
  ·have HS : Hid (Z3w l = false) := L0 (done hs (by simp [c2]))
   clear hs h0 HP
   go_wp2
   go_quiet ((first | (go_at_call 130; first | with_reducible exact Calls.quiet_of_same (Z14 c1 _) | with_reducible exact Calls.quiet_of_same (Z14 c2 _))))
   go_wp2
   go_ret
   exact ⟨Z0m HS.o.symm, Z0h hb2 _⟩
  ·have HS : Hid (Z3w l = false) := L0 (done hs (by simp [show ¬ lo <= up by omega]))
   clear hs h0 HP
   go_wp2
   go_quiet ((first | (go_at_call 130; first | with_reducible exact Calls.quiet_of_same (Z14 c1 _) | with_reducible exact Calls.quiet_of_same (Z14 c2 _))))
   go_wp2
   go_ret
   exact ⟨Z0m HS.o.symm, Z0h hb2 _⟩
  have hu := (Z07 up).1 c2
  have hl' := (Z07 lo).1 c1
  have HQ : Hid (0 < k + 1 -> Z0z (l.getD (k + 1 - 1) (0, 0)).2 = true) := L0 fun _ => by rw [L4v, HG.o]; exact c2
  rcases h0 with h0 | h0
  ·have HS : Hid (Z3w l = Z33 (if k + 1 = 0 then -1000002 else (l.getD (k + 1 - 1) (0, 0)).2) (l.drop (k + 1))) := L0 (by
    rw [hs, if_pos h0, if_neg (by omega), L4v, HG.o]
    have : (-1000001 : Int) < lo := by omega
    simp [c1, c2, c3, this])
   have hd : decide (0 < k) = false := by simp; omega
   have hd3 : decide (up < lo) = false := by simp; omega
   clear hs HP h0
   go_wp2
   go_quiet ((first | (go_at_call 130; first | with_reducible exact Calls.quiet_of_same (Z14 c1 _) | with_reducible exact Calls.quiet_of_same (Z14 c2 _))))
   go_wp2
   go_roundw
   exact ⟨k + 1, by omega, by go_num, HS, HQ.o, Z0h hb2 _⟩
   simp [intOf]; omega
  obtain ⟨hi, n1, n2, n3⟩ := HP h0
  have hh := (Z07 hi).1 n1
  rw [n2] at hs
  have hd : decide (0 < k) = true := by simp; omega
  have hd3 : decide (up < lo) = false := by simp; omega
  have hi2 : k - 1 < l.length := by omega
  have hw1 : IntKind.i64.wrap ((k : Int) - 1) = ((k - 1 : Nat) : Int) := by rw [IntWalk.i64_in _ (by omega)]; omega
  have hw2 : IntKind.i64.wrap (hi + 1) = hi + 1 := IntWalk.i64_in _ (by omega)
  have n4 : (wr.alloc (.cells #[.int .i64 lo, .int .i64 up] 74)).cell? (zn b (off + (k - 1) * 2 + 1)) = some (.int .i64 hi) := by
   rw [L0j _ _ _ (L0d _ _ n3)]; exact n3
  clear n2 n3 HP
  by_cases c4 : hi + 1 < lo
  ·have HS : Hid (Z3w l = Z33 (if k + 1 = 0 then -1000002 else (l.getD (k + 1 - 1) (0, 0)).2) (l.drop (k + 1))) := L0 (by
    rw [hs, if_neg (by omega), L4v, HG.o]
    simp [c1, c2, c3, c4])
   have hd4 : decide (lo <= hi + 1) = false := by simp; omega
   clear hs n1
   go_wp2
   go_quiet ((first | (go_at_call 130; first | with_reducible exact Calls.quiet_of_same (Z14 c1 _) | with_reducible exact Calls.quiet_of_same (Z14 c2 _))))
   go_wp2
   go_roundw
   exact ⟨k + 1, by omega, by go_num, HS, HQ.o, Z0h hb2 _⟩
   simp [intOf]; omega
  have HS : Hid (Z3w l = false) := L0 (done hs (by simp [c4]))
  have hd4 : decide (lo <= hi + 1) = true := by simp; omega
  clear hs n1
  go_wp2
  go_quiet ((first | (go_at_call 130; first | with_reducible exact Calls.quiet_of_same (Z14 c1 _) | with_reducible exact Calls.quiet_of_same (Z14 c2 _))))
  go_wp2
  go_ret
  exact ⟨Z0m HS.o.symm, Z0h hb2 _⟩
 have hs := HS.o
 rw [L0u (by omega), Z33] at hs
 have HS' := L0 hs
 clear hs hp
 go_wp2
 go_ret
 exact ⟨Z0m HS'.o.symm, hbl⟩
theorem Y73 (lo up m : Int) (p : Nat) (w : World) (hp : w.cell? (zn p 0) = some (.int .i64 m)) :
  Calls Tryz.prog 183 #[.agg #[.int .i64 lo, .int .i64 up], .pointer (some (zn p 0))] w fun e w' => e = .returned (.bool (inR (lo, up) m)) /\ Bw w w' := by
 have hp2 : (w.alloc (.cells #[.int .i64 lo, .int .i64 up] 74)).cell? (zn p 0) = some (.int .i64 m) := by
  rw [L0j _ _ _ (L0d _ _ hp)]; exact hp
 clear hp
 by_cases h : lo <= m
 all_goals
  go_enter Tryz.func183, Tryz.ntmps183
  go_wp2
  go_ret
  exact ⟨Z0m (by first | (simp [inR, h]; done) | (simp [inR]; omega)), (L0m _ _).alloc (L0g _) _⟩
def Z5r (l : List Rg) (m : Int) : Int := match l.findIdx? (fun r => inR r m) with | some i => i | none => -1
theorem Y45 {l : List Rg} {m : Int} {k : Nat} {r : Rg} (hk : l[k]? = some r) (h0 : hasL (l.take k) m = false) (h : inR r m = true) : Z5r l m = k /\ hasL l m = true := by
 obtain ⟨hlt, rfl⟩ := L0n.1 hk
 have hf : l.findIdx? (fun r => inR r m) = some k := by
  rw [L2g]
  refine ⟨hlt, h, fun j hj => ?_⟩
  have : ¬ (∃ x, x ∈ l.take k /\ inR x m = true) := by
   intro ⟨x, hx, hm⟩
   have : hasL (l.take k) m = true := by simp only [hasL, L4o]; exact ⟨x, hx, hm⟩
   rw [h0] at this; cases this
  have hj' : l[j]'(by omega) ∈ l.take k := by
   rw [L2n]
   exact ⟨j, by omega, rfl⟩
  cases hh : inR (l[j]'(by omega)) m
  ·simp
  exact absurd ⟨_, hj', hh⟩ this
 refine ⟨by unfold Z5r; rw [hf], ?_⟩
 simp only [hasL, L4o]
 exact ⟨_, L2c hlt, h⟩
theorem Z8f {l : List Rg} {m : Int} (h : hasL l m = false) : Z5r l m = -1 := by
 have hf : l.findIdx? (fun r => inR r m) = none := by
  rw [L2h]
  intro x hx
  cases hh : inR x m
  ·rfl
  have : hasL l m = true := by simp only [hasL, L4o]; exact ⟨x, hx, hh⟩
  rw [h] at this; cases this
 unfold Z5r; rw [hf]
theorem Y2r {S : Nat -> Prop} {v : Value} {l : List Rg} (m : Int) (p : Nat) (w : World) (hl : rRgs.rel w S [v] l) (hp : w.cell? (zn p 0) = some (.int .i64 m)) :
  Calls Tryz.prog 195 #[v, .func (.func 183) #[] #[.pointer (some (zn p 0))]] w fun e w' => e = .returned (.int .i64 (Z5r l m)) /\ Bw w w' := by
 obtain ⟨A, c, rfl, _, _, hn, hE⟩ := rRgs.elems hl
 have hpl := L0d _ _ hp
 clear hl
 go_enter Tryz.func195, Tryz.ntmps195
 go_wp2
 go_loopw [5, 8] (fun _ i wr => ∃ k : Nat, k <= l.length /\ i = .int .i64 k /\ Hid (hasL (l.take k) m = false) /\ Bw w wr) (fun _ i _ => l.length - (intOf i).toNat)
 exact ⟨0, L0o _, rfl, L0 (by simp [hasL]), L0m _ _⟩
 obtain ⟨k, hk, rfl, HS, hbl⟩ := hrel
 by_cases hlt : k < l.length
 ·obtain ⟨b, off, lo, up, rfl, _, hb, hx, _, _, h1, h2⟩ := hE.rg hlt
  rw [<- hbl.ce _ hb] at h1 h2
  have hp' : wr.cell? (zn p 0) = some (.int .i64 m) := by rw [hbl.ce 0 hpl]; exact hp
  have HX := L0 hx
  have hcon := Y73 lo up m p wr hp'
  have HC := L0 hcon
  clear hx hE hp hp' hcon
  have hi : (k : Int) < l.length := by omega
  cases hh : inR (lo, up) m
  ·have HS' : Hid (hasL (l.take (k + 1)) m = false) := L0 (by rw [Z0c HX.o, Y8y, HS.o, hh]; rfl)
   rw [hh] at HC
   clear hh
   go_wp2_with (go_at_call 183; refine HC.o.mono ?_; rintro e w' ⟨rfl, hw⟩)
   go_roundw
   exact ⟨k + 1, by omega, by go_num, HS', hbl.trans (hw.mono hbl.size)⟩
   simp [intOf]; omega
  have HF : Hid (Z5r l m = k) := L0 (Y45 HX.o HS.o hh).1
  rw [hh] at HC
  clear hh
  go_wp2_with (go_at_call 183; refine HC.o.mono ?_; rintro e w' ⟨rfl, hw⟩)
  go_ret
  exact ⟨Z78 HF.o.symm, hbl.trans (hw.mono hbl.size)⟩
 go_wp2
 go_ret
 exact ⟨Z78 (Z8f (by have := HS.o; rwa [L0l (by omega)] at this)).symm, hbl⟩
theorem Y14 (l : List Rg) (m : Int) : decide (0 <= Z5r l m) = hasL l m := by
 cases hh : hasL l m
 ·rw [Z8f hh]; rfl
 unfold Z5r
 cases hq : l.findIdx? (fun r => inR r m) with
 | some i => simp
 | none =>
  rw [L2h] at hq
  simp only [hasL, L4o] at hh
  obtain ⟨x, hx, hm⟩ := hh
  rw [hq x hx] at hm; cases hm
theorem Z85 {S : Nat -> Prop} {v : Value} {l : List Rg} (m : Int) (p : Nat) (w : World) (hl : rRgs.rel w S [v] l) (hp : w.cell? (zn p 0) = some (.int .i64 m)) :
  Calls Tryz.prog 182 #[v, .func (.func 183) #[] #[.pointer (some (zn p 0))]] w fun e w' => e = .returned (.bool (hasL l m)) /\ Bw w w' := by
 have HI := L0 (Y2r m p w hl hp)
 have HD := L0 (Y14 l m)
 clear hl hp
 go_enter Tryz.func182, Tryz.ntmps182
 go_wp2_with (go_at_call 195; refine HI.o.mono ?_; rintro e w' ⟨rfl, hw⟩)
 go_ret
 exact ⟨Z0m HD.o, hw⟩
theorem X2x {S : Nat -> Prop} {v : Value} {l : List Rg} (m : Int) (w : World) (hl : rRgs.rel w S [v] l) :
  Calls Tryz.prog 171 #[v, .int .i64 m] w fun e w' => e = .returned (.bool (hasL l m)) /\ Bw w w' := by
 have HI := L0 (Z85 m w.heap.size (w.alloc (.cells #[.int .i64 m] 3)) (Rd.alloc hl _) (L0b _ _ _ _))
 have hb : ∀ w', Below (w.alloc (.cells #[.int .i64 m] 3)).heap.size (w.alloc (.cells #[.int .i64 m] 3)) w' -> Bw w w' := fun w' h =>
  bA.trans (h.mono (by simp))
 clear hl
 go_enter Tryz.func171, Tryz.ntmps171
 go_wp2_with (go_at_call 182; refine HI.o.mono ?_; rintro e w' ⟨rfl, hw⟩)
 go_ret
 exact ⟨rfl, hb _ hw⟩
