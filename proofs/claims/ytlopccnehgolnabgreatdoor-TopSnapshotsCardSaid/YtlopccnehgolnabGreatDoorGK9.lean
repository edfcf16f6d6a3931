import Derived.Test.YtlopccnehgolnabGreatDoorSpanA
import Derived.Laws.StructEq
namespace Go.Proofs.YtlopccnehgolnabGreatDoor
open Go.RowKit Rb
set_option maxHeartbeats 1600000
theorem Z1y {n : Int} {b : Bool} (h : Z0v n = b) (w : World) : Calls Tryz.prog 150 #[.int .i64 n] w fun e w' => e = .returned (.bool b) /\ w' = w :=
 (Y5r n w).mono fun _ _ ⟨h1, h2⟩ => ⟨by rw [h1, h], h2.symm⟩
theorem Y4c {S : Nat -> Prop} {v : Value} {l : List Rg} (w : World) (hl : rRgs.rel w S [v] l) :
  Calls Tryz.prog 111 #[v] w fun e w' => e = .returned (.bool (Z3g l)) /\ Below w.heap.size w w' := by
 obtain ⟨A, c, rfl, _, _, hn, hE⟩ := rRgs.elems hl
 clear hl
 go_enter Tryz.func111, Tryz.ntmps111
 go_wp2
 go_loopw [7] (fun i wr => ∃ k : Nat, k <= l.length /\ i = .int .i64 k /\ Hid (Z3g l = Z3n (if k = 0 then -1000002 else (l.getD (k - 1) (0, 0)).2) (l.drop k)) /\
  (0 < k -> Z0v (l.getD (k - 1) (0, 0)).2 = true) /\ Below w.heap.size w wr) (fun i _ => l.length - (intOf i).toNat)
 exact ⟨0, L0o _, rfl, L0 rfl, fun h => absurd h (by omega), L0m _ _⟩
 obtain ⟨k, hk, rfl, HS, hp, hbl⟩ := hrel
 by_cases hlt : k < l.length
 ·obtain ⟨b, off, lo, up, rfl, _, hb, hx, _, _, h1, h2⟩ := hE.rg hlt
  rw [<- hbl.ce _ hb] at h1 h2
  have hs := HS.o
  rw [Z0n hx, Z3n] at hs
  dsimp only at hs
  have hb2 := hbl.alloc hbl.size (.cells #[.int .i64 lo, .int .i64 up] 123)
  have done : ∀ {q : Bool}, Z3g l = q -> q = false -> Z3g l = false := fun h h' => h.trans h'
  have hg : l.getD k (0, 0) = (lo, up) := by rw [L3r, hx]; rfl
  have HP : 0 < k -> ∃ hi : Int, Z0v hi = true /\ (if k = 0 then -1000002 else (l.getD (k - 1) (0, 0)).2) = hi /\ wr.cell? ⟨b, off + (k - 1) * 2 + 1, none⟩ = some (.int .i64 hi) := fun h0 => by
   obtain ⟨b', off', lo', up', hA', _, hb', hx', _, _, _, h2'⟩ := hE.rg (i := k - 1) (by omega)
   obtain ⟨rfl, rfl⟩ : b = b' /\ off = off' := by simpa using hA'
   rw [<- hbl.ce _ hb] at h2'
   have e : (l.getD (k - 1) (0, 0)) = (lo', up') := by rw [L3r, hx']; rfl
   have h3 := hp h0
   rw [e] at h3
   exact ⟨up', h3, by rw [if_neg (by omega), e], h2'⟩
  have h0 : k = 0 \/ 0 < k := by omega
  have cases5 : Z0v lo = false \/ (Z0v lo = true /\ Z0v up = false) \/ (Z0v lo = true /\ Z0v up = true /\ up < lo) \/ (Z0v lo = true /\ Z0v up = true /\ lo <= up) := by
   cases Z0v lo <;> cases Z0v up <;> simp <;> omega
  have HG := L0 hg
  clear HS hx hE hg hp
  rcases cases5 with c1 | ⟨c1, c2⟩ | ⟨c1, c2, c3⟩ | ⟨c1, c2, c3⟩
  ·have HS : Hid (Z3g l = false) := L0 (done hs (by simp [c1]))
   have c2 := c1
   clear hs h0 HP
   go_wp2
   go_quiet ((first | (go_at_call 150; first | with_reducible exact Calls.quiet_of_same (Z1y c1 _) | with_reducible exact Calls.quiet_of_same (Z1y c2 _))))
   go_wp2
   go_ret
   exact ⟨Z0l HS.o.symm, Z0g hb2 _⟩
  ·have HS : Hid (Z3g l = false) := L0 (done hs (by simp [c2]))
   clear hs h0 HP
   go_wp2
   go_quiet ((first | (go_at_call 150; first | with_reducible exact Calls.quiet_of_same (Z1y c1 _) | with_reducible exact Calls.quiet_of_same (Z1y c2 _))))
   go_wp2
   go_ret
   exact ⟨Z0l HS.o.symm, Z0g hb2 _⟩
  ·have HS : Hid (Z3g l = false) := L0 (done hs (by simp [show ¬ lo <= up by omega]))
   clear hs h0 HP
   go_wp2
   go_quiet ((first | (go_at_call 150; first | with_reducible exact Calls.quiet_of_same (Z1y c1 _) | with_reducible exact Calls.quiet_of_same (Z1y c2 _))))
   go_wp2
   go_ret
   exact ⟨Z0l HS.o.symm, Z0g hb2 _⟩
  have hu := (Z02 up).1 c2
  have hl' := (Z02 lo).1 c1
  have HQ : Hid (0 < k + 1 -> Z0v (l.getD (k + 1 - 1) (0, 0)).2 = true) := L0 fun _ => by rw [L4l, HG.o]; exact c2
  rcases h0 with h0 | h0
  ·have HS : Hid (Z3g l = Z3n (if k + 1 = 0 then -1000002 else (l.getD (k + 1 - 1) (0, 0)).2) (l.drop (k + 1))) := L0 (by
    rw [hs, if_pos h0, if_neg (by omega), L4l, HG.o]
    have : (-1000001 : Int) < lo := by omega
    simp [c1, c2, c3, this])
   have hd : decide (0 < k) = false := by simp; omega
   have hd3 : decide (up < lo) = false := by simp; omega
   clear hs HP h0
   go_wp2
   go_quiet ((first | (go_at_call 150; first | with_reducible exact Calls.quiet_of_same (Z1y c1 _) | with_reducible exact Calls.quiet_of_same (Z1y c2 _))))
   go_wp2
   go_roundw
   exact ⟨k + 1, by omega, by go_num, HS, HQ.o, Z0g hb2 _⟩
   simp [intOf]; omega
  obtain ⟨hi, n1, n2, n3⟩ := HP h0
  have hh := (Z02 hi).1 n1
  rw [n2] at hs
  have hd : decide (0 < k) = true := by simp; omega
  have hd3 : decide (up < lo) = false := by simp; omega
  have hi2 : k - 1 < l.length := by omega
  have hw1 : IntKind.i64.wrap ((k : Int) - 1) = ((k - 1 : Nat) : Int) := by rw [IntWalk.i64_in _ (by omega)]; omega
  have hw2 : IntKind.i64.wrap (hi + 1) = hi + 1 := IntWalk.i64_in _ (by omega)
  have n4 : (wr.alloc (.cells #[.int .i64 lo, .int .i64 up] 123)).cell? ⟨b, off + (k - 1) * 2 + 1, none⟩ = some (.int .i64 hi) := by
   rw [L0j _ _ _ (L0d _ _ n3)]; exact n3
  clear n2 n3 HP
  by_cases c4 : hi + 1 < lo
  ·have HS : Hid (Z3g l = Z3n (if k + 1 = 0 then -1000002 else (l.getD (k + 1 - 1) (0, 0)).2) (l.drop (k + 1))) := L0 (by
    rw [hs, if_neg (by omega), L4l, HG.o]
    simp [c1, c2, c3, c4])
   have hd4 : decide (lo <= hi + 1) = false := by simp; omega
   clear hs n1
   go_wp2
   go_quiet ((first | (go_at_call 150; first | with_reducible exact Calls.quiet_of_same (Z1y c1 _) | with_reducible exact Calls.quiet_of_same (Z1y c2 _))))
   go_wp2
   go_roundw
   exact ⟨k + 1, by omega, by go_num, HS, HQ.o, Z0g hb2 _⟩
   simp [intOf]; omega
  have HS : Hid (Z3g l = false) := L0 (done hs (by simp [c4]))
  have hd4 : decide (lo <= hi + 1) = true := by simp; omega
  clear hs n1
  go_wp2
  go_quiet ((first | (go_at_call 150; first | with_reducible exact Calls.quiet_of_same (Z1y c1 _) | with_reducible exact Calls.quiet_of_same (Z1y c2 _))))
  go_wp2
  go_ret
  exact ⟨Z0l HS.o.symm, Z0g hb2 _⟩
 have hs := HS.o
 rw [L0t (by omega), Z3n] at hs
 have HS' := L0 hs
 clear hs hp
 go_wp2
 go_ret
 exact ⟨Z0l HS'.o.symm, hbl⟩
theorem Y6f (lo up m : Int) (p : Nat) (w : World) (hp : w.cell? ⟨p, 0, none⟩ = some (.int .i64 m)) :
  Calls Tryz.prog 137 #[.agg #[.int .i64 lo, .int .i64 up], .pointer (some ⟨p, 0, none⟩)] w fun e w' => e = .returned (.bool (inR (lo, up) m)) /\ Below w.heap.size w w' := by
 have hp2 : (w.alloc (.cells #[.int .i64 lo, .int .i64 up] 123)).cell? ⟨p, 0, none⟩ = some (.int .i64 m) := by
  rw [L0j _ _ _ (L0d _ _ hp)]; exact hp
 clear hp
 by_cases h : lo <= m
 all_goals
  go_enter Tryz.func137, Tryz.ntmps137
  go_wp2
  go_ret
  exact ⟨Z0l (by first | (simp [inR, h]; done) | (simp [inR]; omega)), (L0m _ _).alloc (L0f _) _⟩
def Z47 (l : List Rg) (m : Int) : Int := match l.findIdx? (fun r => inR r m) with | some i => i | none => -1
theorem Y3r {l : List Rg} {m : Int} {k : Nat} {r : Rg} (hk : l[k]? = some r) (h0 : hasL (l.take k) m = false) (h : inR r m = true) : Z47 l m = k /\ hasL l m = true := by
 obtain ⟨hlt, rfl⟩ := L0n.1 hk
 have hf : l.findIdx? (fun r => inR r m) = some k := by
  rw [L1w]
  refine ⟨hlt, h, fun j hj => ?_⟩
  have : ¬ (∃ x, x ∈ l.take k /\ inR x m = true) := by
   intro ⟨x, hx, hm⟩
   have : hasL (l.take k) m = true := by simp only [hasL, L4g]; exact ⟨x, hx, hm⟩
   rw [h0] at this; cases this
  have hj' : l[j]'(by omega) ∈ l.take k := by
   rw [L2c]
   exact ⟨j, by omega, rfl⟩
  cases hh : inR (l[j]'(by omega)) m
  ·simp
  exact absurd ⟨_, hj', hh⟩ this
 refine ⟨by unfold Z47; rw [hf], ?_⟩
 simp only [hasL, L4g]
 exact ⟨_, L2a hlt, h⟩
theorem Z7k {l : List Rg} {m : Int} (h : hasL l m = false) : Z47 l m = -1 := by
 have hf : l.findIdx? (fun r => inR r m) = none := by
  rw [L1x]
  intro x hx
  cases hh : inR x m
  ·rfl
  have : hasL l m = true := by simp only [hasL, L4g]; exact ⟨x, hx, hh⟩
  rw [h] at this; cases this
 unfold Z47; rw [hf]
theorem Y1l {S : Nat -> Prop} {v : Value} {l : List Rg} (m : Int) (p : Nat) (w : World) (hl : rRgs.rel w S [v] l) (hp : w.cell? ⟨p, 0, none⟩ = some (.int .i64 m)) :
  Calls Tryz.prog 165 #[v, .func (.func 137) #[] #[.pointer (some ⟨p, 0, none⟩)]] w fun e w' => e = .returned (.int .i64 (Z47 l m)) /\ Below w.heap.size w w' := by
 obtain ⟨A, c, rfl, _, _, hn, hE⟩ := rRgs.elems hl
 have hpl := L0d _ _ hp
 clear hl
 go_enter Tryz.func165, Tryz.ntmps165
 go_wp2
 go_loopw [5, 8] (fun _ i wr => ∃ k : Nat, k <= l.length /\ i = .int .i64 k /\ Hid (hasL (l.take k) m = false) /\ Below w.heap.size w wr) (fun _ i _ => l.length - (intOf i).toNat)
 exact ⟨0, L0o _, rfl, L0 (by simp [hasL]), L0m _ _⟩
 obtain ⟨k, hk, rfl, HS, hbl⟩ := hrel
 by_cases hlt : k < l.length
 ·obtain ⟨b, off, lo, up, rfl, _, hb, hx, _, _, h1, h2⟩ := hE.rg hlt
  rw [<- hbl.ce _ hb] at h1 h2
  have hp' : wr.cell? ⟨p, 0, none⟩ = some (.int .i64 m) := by rw [hbl.ce 0 hpl]; exact hp
  have HX := L0 hx
  have hcon := Y6f lo up m p wr hp'
  have HC := L0 hcon
  clear hx hE hp hp' hcon
  have hi : (k : Int) < (l.length : Int) := by omega
  cases hh : inR (lo, up) m
  ·have HS' : Hid (hasL (l.take (k + 1)) m = false) := L0 (by rw [Z0c HX.o, Y7a, HS.o, hh]; rfl)
   rw [hh] at HC
   clear hh
   go_wp2_with (go_at_call 137; refine HC.o.mono ?_; rintro e w' ⟨rfl, hw⟩)
   go_roundw
   exact ⟨k + 1, by omega, by go_num, HS', hbl.trans (hw.mono hbl.size)⟩
   simp [intOf]; omega
  have HF : Hid (Z47 l m = k) := L0 (Y3r HX.o HS.o hh).1
  rw [hh] at HC
  clear hh
  go_wp2_with (go_at_call 137; refine HC.o.mono ?_; rintro e w' ⟨rfl, hw⟩)
  go_ret
  exact ⟨Z7d HF.o.symm, hbl.trans (hw.mono hbl.size)⟩
 go_wp2
 go_ret
 exact ⟨Z7d (Z7k (by have := HS.o; rwa [L0l (by omega)] at this)).symm, hbl⟩
theorem Y01 (l : List Rg) (m : Int) : decide (0 <= Z47 l m) = hasL l m := by
 cases hh : hasL l m
 ·rw [Z7k hh]; rfl
 unfold Z47
 cases hq : l.findIdx? (fun r => inR r m) with
 | some i => simp
 | none =>
  rw [L1x] at hq
  simp only [hasL, L4g] at hh
  obtain ⟨x, hx, hm⟩ := hh
  rw [hq x hx] at hm; cases hm
theorem Z76 {S : Nat -> Prop} {v : Value} {l : List Rg} (m : Int) (p : Nat) (w : World) (hl : rRgs.rel w S [v] l) (hp : w.cell? ⟨p, 0, none⟩ = some (.int .i64 m)) :
  Calls Tryz.prog 136 #[v, .func (.func 137) #[] #[.pointer (some ⟨p, 0, none⟩)]] w fun e w' => e = .returned (.bool (hasL l m)) /\ Below w.heap.size w w' := by
 have HI := L0 (Y1l m p w hl hp)
 have HD := L0 (Y01 l m)
 clear hl hp
 go_enter Tryz.func136, Tryz.ntmps136
 go_wp2_with (go_at_call 165; refine HI.o.mono ?_; rintro e w' ⟨rfl, hw⟩)
 go_ret
 exact ⟨Z0l HD.o, hw⟩
theorem X05 {S : Nat -> Prop} {v : Value} {l : List Rg} (m : Int) (w : World) (hl : rRgs.rel w S [v] l) :
  Calls Tryz.prog 90 #[v, .int .i64 m] w fun e w' => e = .returned (.bool (hasL l m)) /\ Below w.heap.size w w' := by
 have HI := L0 (Z76 m w.heap.size (w.alloc (.cells #[.int .i64 m] 3)) (Rd.alloc hl _) (L0b _ _ _ _))
 have hb : ∀ w', Below (w.alloc (.cells #[.int .i64 m] 3)).heap.size (w.alloc (.cells #[.int .i64 m] 3)) w' -> Below w.heap.size w w' := fun w' h =>
  bA.trans (h.mono (by simp))
 clear hl
 go_enter Tryz.func90, Tryz.ntmps90
 go_wp2_with (go_at_call 136; refine HI.o.mono ?_; rintro e w' ⟨rfl, hw⟩)
 go_ret
 exact ⟨rfl, hb _ hw⟩
