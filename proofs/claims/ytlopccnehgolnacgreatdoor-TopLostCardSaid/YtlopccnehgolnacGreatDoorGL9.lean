import Derived.Test.YtlopccnehgolnacGreatDoorSpanA
import Derived.Laws.StructEq
namespace Go.Proofs.YtlopccnehgolnacGreatDoor
open Go.RowKit Rb
set_option maxHeartbeats 1600000
theorem Z1u {n : Int} {b : Bool} (h : Z0s n = b) (w : World) : Calls Tryz.prog 130 #[.int .i64 n] w fun e w' => e = .returned (.bool b) /\ w' = w :=
 (Y5j n w).mono fun _ _ ⟨h1, h2⟩ => ⟨by rw [h1, h], h2.symm⟩
theorem Y31 {S : Nat -> Prop} {v : Value} {l : List Rg} (w : World) (hl : rRgs.rel w S [v] l) :
  Calls Tryz.prog 108 #[v] w fun e w' => e = .returned (.bool (Z3d l)) /\ Below w.heap.size w w' := by
 obtain ⟨A, c, rfl, _, _, hn, hE⟩ := rRgs.elems hl
 clear hl
 go_enter Tryz.func108, Tryz.ntmps108
 go_wp2
 go_loopw [7] (fun i wr => ∃ k : Nat, k <= l.length /\ i = .int .i64 k /\ Hid (Z3d l = Z3k (if k = 0 then -1000002 else (l.getD (k - 1) (0, 0)).2) (l.drop k)) /\
  (0 < k -> Z0s (l.getD (k - 1) (0, 0)).2 = true) /\ Below w.heap.size w wr) (fun i _ => l.length - (intOf i).toNat)
 case atStart => exact ⟨0, L0o _, rfl, L0 rfl, fun h => absurd h (by omega), L0m _ _⟩
 case round =>
  obtain ⟨k, hk, rfl, HS, hp, hbl⟩ := hrel
  by_cases hlt : k < l.length
  ·obtain ⟨b, off, lo, up, rfl, _, hb, hx, _, _, h1, h2⟩ := hE.rg hlt
   rw [<- hbl.ce _ hb] at h1 h2
   have hs := HS.out
   rw [Z0l hx, Z3k] at hs
   dsimp only at hs
   have hb2 := hbl.alloc hbl.size (.cells #[.int .i64 lo, .int .i64 up] 74)
   have done : ∀ {q : Bool}, Z3d l = q -> q = false -> Z3d l = false := fun h h' => h.trans h'
   have hg : l.getD k (0, 0) = (lo, up) := by rw [L3p, hx]; rfl
   have HP : 0 < k -> ∃ hi : Int, Z0s hi = true /\ (if k = 0 then -1000002 else (l.getD (k - 1) (0, 0)).2) = hi /\ wr.cell? ⟨b, off + (k - 1) * 2 + 1, none⟩ = some (.int .i64 hi) := fun h0 => by
    obtain ⟨b', off', lo', up', hA', _, hb', hx', _, _, _, h2'⟩ := hE.rg (i := k - 1) (by omega)
    obtain ⟨rfl, rfl⟩ : b = b' /\ off = off' := by simpa using hA'
    rw [<- hbl.ce _ hb] at h2'
    have e : (l.getD (k - 1) (0, 0)) = (lo', up') := by rw [L3p, hx']; rfl
    have h3 := hp h0
    rw [e] at h3
    exact ⟨up', h3, by rw [if_neg (by omega), e], h2'⟩
   have h0 : k = 0 \/ 0 < k := by omega
   have cases5 : Z0s lo = false \/ (Z0s lo = true /\ Z0s up = false) \/ (Z0s lo = true /\ Z0s up = true /\ up < lo) \/ (Z0s lo = true /\ Z0s up = true /\ lo <= up) := by
    cases Z0s lo <;> cases Z0s up <;> simp <;> omega
   have HG := L0 hg
   clear HS hx hE hg hp
   rcases cases5 with c1 | ⟨c1, c2⟩ | ⟨c1, c2, c3⟩ | ⟨c1, c2, c3⟩
   ·have HS : Hid (Z3d l = false) := L0 (done hs (by simp [c1]))
    have c2 := c1
    clear hs h0 HP
    go_wp2
    go_quiet ((first | (go_at_call 130; first | with_reducible exact Calls.quiet_of_same (Z1u c1 _) | with_reducible exact Calls.quiet_of_same (Z1u c2 _))))
    go_wp2
    go_ret
    exact ⟨Z0j HS.out.symm, Z0f hb2 _⟩
   ·have HS : Hid (Z3d l = false) := L0 (done hs (by simp [c2]))
    clear hs h0 HP
    go_wp2
    go_quiet ((first | (go_at_call 130; first | with_reducible exact Calls.quiet_of_same (Z1u c1 _) | with_reducible exact Calls.quiet_of_same (Z1u c2 _))))
    go_wp2
    go_ret
    exact ⟨Z0j HS.out.symm, Z0f hb2 _⟩
   ·have HS : Hid (Z3d l = false) := L0 (done hs (by simp [show ¬ lo <= up by omega]))
    clear hs h0 HP
    go_wp2
    go_quiet ((first | (go_at_call 130; first | with_reducible exact Calls.quiet_of_same (Z1u c1 _) | with_reducible exact Calls.quiet_of_same (Z1u c2 _))))
    go_wp2
    go_ret
    exact ⟨Z0j HS.out.symm, Z0f hb2 _⟩
   ·have hu := (Z1b up).1 c2
    have hl' := (Z1b lo).1 c1
    have HQ : Hid (0 < k + 1 -> Z0s (l.getD (k + 1 - 1) (0, 0)).2 = true) := L0 fun _ => by rw [L4j, HG.out]; exact c2
    rcases h0 with h0 | h0
    ·have HS : Hid (Z3d l = Z3k (if k + 1 = 0 then -1000002 else (l.getD (k + 1 - 1) (0, 0)).2) (l.drop (k + 1))) := L0 (by
      rw [hs, if_pos h0, if_neg (by omega), L4j, HG.out]
      have : (-1000001 : Int) < lo := by omega
      simp [c1, c2, c3, this])
     have hd : decide (0 < k) = false := by simp; omega
     have hd3 : decide (up < lo) = false := by simp; omega
     clear hs HP h0
     go_wp2
     go_quiet ((first | (go_at_call 130; first | with_reducible exact Calls.quiet_of_same (Z1u c1 _) | with_reducible exact Calls.quiet_of_same (Z1u c2 _))))
     go_wp2
     go_roundw
     case rel => exact ⟨k + 1, by omega, by go_num, HS, HQ.out, Z0f hb2 _⟩
     case measure => simp [intOf]; omega
    ·obtain ⟨hi, n1, n2, n3⟩ := HP h0
     have hh := (Z1b hi).1 n1
     rw [n2] at hs
     have hd : decide (0 < k) = true := by simp; omega
     have hd3 : decide (up < lo) = false := by simp; omega
     have hi2 : k - 1 < l.length := by omega
     have hw1 : IntKind.i64.wrap ((k : Int) - 1) = ((k - 1 : Nat) : Int) := by rw [IntWalk.i64_in _ (by omega)]; omega
     have hw2 : IntKind.i64.wrap (hi + 1) = hi + 1 := IntWalk.i64_in _ (by omega)
     have n4 : (wr.alloc (.cells #[.int .i64 lo, .int .i64 up] 74)).cell? ⟨b, off + (k - 1) * 2 + 1, none⟩ = some (.int .i64 hi) := by
      rw [L0j _ _ _ (L0e _ _ n3)]; exact n3
     clear n2 n3 HP
     by_cases c4 : hi + 1 < lo
     ·have HS : Hid (Z3d l = Z3k (if k + 1 = 0 then -1000002 else (l.getD (k + 1 - 1) (0, 0)).2) (l.drop (k + 1))) := L0 (by
       rw [hs, if_neg (by omega), L4j, HG.out]
       simp [c1, c2, c3, c4])
      have hd4 : decide (lo <= hi + 1) = false := by simp; omega
      clear hs n1
      go_wp2
      go_quiet ((first | (go_at_call 130; first | with_reducible exact Calls.quiet_of_same (Z1u c1 _) | with_reducible exact Calls.quiet_of_same (Z1u c2 _))))
      go_wp2
      go_roundw
      case rel => exact ⟨k + 1, by omega, by go_num, HS, HQ.out, Z0f hb2 _⟩
      case measure => simp [intOf]; omega
     ·have HS : Hid (Z3d l = false) := L0 (done hs (by simp [c4]))
      have hd4 : decide (lo <= hi + 1) = true := by simp; omega
      clear hs n1
      go_wp2
      go_quiet ((first | (go_at_call 130; first | with_reducible exact Calls.quiet_of_same (Z1u c1 _) | with_reducible exact Calls.quiet_of_same (Z1u c2 _))))
      go_wp2
      go_ret
      exact ⟨Z0j HS.out.symm, Z0f hb2 _⟩
  ·have hs := HS.out
   rw [L0t (by omega), Z3k] at hs
   have HS' := L0 hs
   clear hs hp
   go_wp2
   go_ret
   exact ⟨Z0j HS'.out.symm, hbl⟩
theorem Y58 (lo up m : Int) (p : Nat) (w : World) (hp : w.cell? ⟨p, 0, none⟩ = some (.int .i64 m)) :
  Calls Tryz.prog 183 #[.agg #[.int .i64 lo, .int .i64 up], .pointer (some ⟨p, 0, none⟩)] w fun e w' => e = .returned (.bool (inR (lo, up) m)) /\ Below w.heap.size w w' := by
 have hp2 : (w.alloc (.cells #[.int .i64 lo, .int .i64 up] 74)).cell? ⟨p, 0, none⟩ = some (.int .i64 m) := by
  rw [L0j _ _ _ (L0e _ _ hp)]; exact hp
 clear hp
 by_cases h : lo <= m
 all_goals
  go_enter Tryz.func183, Tryz.ntmps183
  go_wp2
  go_ret
  exact ⟨Z0j (by first | (simp [inR, h]; done) | (simp [inR]; omega)), (L0m _ _).alloc (L0f _) _⟩
def Z42 (l : List Rg) (m : Int) : Int := match l.findIdx? (fun r => inR r m) with | some i => i | none => -1
theorem Y3h {l : List Rg} {m : Int} {k : Nat} {r : Rg} (hk : l[k]? = some r) (h0 : hasL (l.take k) m = false) (h : inR r m = true) : Z42 l m = k /\ hasL l m = true := by
 obtain ⟨hlt, rfl⟩ := L0n.1 hk
 have hf : l.findIdx? (fun r => inR r m) = some k := by
  rw [L1u]
  refine ⟨hlt, h, fun j hj => ?_⟩
  have : ¬ (∃ x, x ∈ l.take k /\ inR x m = true) := by
   intro ⟨x, hx, hm⟩
   have : hasL (l.take k) m = true := by simp only [hasL, L4f]; exact ⟨x, hx, hm⟩
   rw [h0] at this; cases this
  have hj' : l[j]'(by omega) ∈ l.take k := by
   rw [L2a]
   exact ⟨j, by omega, rfl⟩
  cases hh : inR (l[j]'(by omega)) m
  ·simp
  ·exact absurd ⟨_, hj', hh⟩ this
 refine ⟨by unfold Z42; rw [hf], ?_⟩
 simp only [hasL, L4f]
 exact ⟨_, L2b hlt, h⟩
theorem Z7d {l : List Rg} {m : Int} (h : hasL l m = false) : Z42 l m = -1 := by
 have hf : l.findIdx? (fun r => inR r m) = none := by
  rw [L1v]
  intro x hx
  cases hh : inR x m
  ·rfl
  ·have : hasL l m = true := by simp only [hasL, L4f]; exact ⟨x, hx, hh⟩
   rw [h] at this; cases this
 unfold Z42; rw [hf]
theorem Y1a {S : Nat -> Prop} {v : Value} {l : List Rg} (m : Int) (p : Nat) (w : World) (hl : rRgs.rel w S [v] l) (hp : w.cell? ⟨p, 0, none⟩ = some (.int .i64 m)) :
  Calls Tryz.prog 195 #[v, .func (.func 183) #[] #[.pointer (some ⟨p, 0, none⟩)]] w fun e w' => e = .returned (.int .i64 (Z42 l m)) /\ Below w.heap.size w w' := by
 obtain ⟨A, c, rfl, _, _, hn, hE⟩ := rRgs.elems hl
 have hpl := L0e _ _ hp
 clear hl
 go_enter Tryz.func195, Tryz.ntmps195
 go_wp2
 go_loopw [5, 8] (fun _ i wr => ∃ k : Nat, k <= l.length /\ i = .int .i64 k /\ Hid (hasL (l.take k) m = false) /\ Below w.heap.size w wr) (fun _ i _ => l.length - (intOf i).toNat)
 case atStart => exact ⟨0, L0o _, rfl, L0 (by simp [hasL]), L0m _ _⟩
 case round =>
  obtain ⟨k, hk, rfl, HS, hbl⟩ := hrel
  by_cases hlt : k < l.length
  ·obtain ⟨b, off, lo, up, rfl, _, hb, hx, _, _, h1, h2⟩ := hE.rg hlt
   rw [<- hbl.ce _ hb] at h1 h2
   have hp' : wr.cell? ⟨p, 0, none⟩ = some (.int .i64 m) := by rw [hbl.ce 0 hpl]; exact hp
   have HX := L0 hx
   have hcon := Y58 lo up m p wr hp'
   have HC := L0 hcon
   clear hx hE hp hp' hcon
   have hi : (k : Int) < (l.length : Int) := by omega
   cases hh : inR (lo, up) m
   ·have HS' : Hid (hasL (l.take (k + 1)) m = false) := L0 (by rw [Z0c HX.out, Y64, HS.out, hh]; rfl)
    rw [hh] at HC
    clear hh
    go_wp2_with (go_at_call 183; refine HC.out.mono ?_; rintro e w' ⟨rfl, hw⟩)
    go_roundw
    case rel => exact ⟨k + 1, by omega, by go_num, HS', hbl.trans (hw.mono hbl.size)⟩
    case measure => simp [intOf]; omega
   ·have HF : Hid (Z42 l m = k) := L0 (Y3h HX.out HS.out hh).1
    rw [hh] at HC
    clear hh
    go_wp2_with (go_at_call 183; refine HC.out.mono ?_; rintro e w' ⟨rfl, hw⟩)
    go_ret
    exact ⟨Z66 HF.out.symm, hbl.trans (hw.mono hbl.size)⟩
  ·go_wp2
   go_ret
   exact ⟨Z66 (Z7d (by have := HS.out; rwa [L0k (by omega)] at this)).symm, hbl⟩
theorem Y0q (l : List Rg) (m : Int) : decide (0 <= Z42 l m) = hasL l m := by
 cases hh : hasL l m
 ·rw [Z7d hh]; rfl
 ·unfold Z42
  cases hq : l.findIdx? (fun r => inR r m) with
  | some i => simp
  | none =>
   rw [L1v] at hq
   simp only [hasL, L4f] at hh
   obtain ⟨x, hx, hm⟩ := hh
   rw [hq x hx] at hm; cases hm
theorem Z7y {S : Nat -> Prop} {v : Value} {l : List Rg} (m : Int) (p : Nat) (w : World) (hl : rRgs.rel w S [v] l) (hp : w.cell? ⟨p, 0, none⟩ = some (.int .i64 m)) :
  Calls Tryz.prog 182 #[v, .func (.func 183) #[] #[.pointer (some ⟨p, 0, none⟩)]] w fun e w' => e = .returned (.bool (hasL l m)) /\ Below w.heap.size w w' := by
 have HI := L0 (Y1a m p w hl hp)
 have HD := L0 (Y0q l m)
 clear hl hp
 go_enter Tryz.func182, Tryz.ntmps182
 go_wp2_with (go_at_call 195; refine HI.out.mono ?_; rintro e w' ⟨rfl, hw⟩)
 go_ret
 exact ⟨Z0j HD.out, hw⟩
theorem X0q {S : Nat -> Prop} {v : Value} {l : List Rg} (m : Int) (w : World) (hl : rRgs.rel w S [v] l) :
  Calls Tryz.prog 171 #[v, .int .i64 m] w fun e w' => e = .returned (.bool (hasL l m)) /\ Below w.heap.size w w' := by
 have HI := L0 (Z7y m w.heap.size (w.alloc (.cells #[.int .i64 m] 3)) (Rd.alloc hl _) (L0b _ _ _ _))
 have hb : ∀ w', Below (w.alloc (.cells #[.int .i64 m] 3)).heap.size (w.alloc (.cells #[.int .i64 m] 3)) w' -> Below w.heap.size w w' := fun w' h =>
  bA.trans (h.mono (by simp))
 clear hl
 go_enter Tryz.func171, Tryz.ntmps171
 go_wp2_with (go_at_call 182; refine HI.out.mono ?_; rintro e w' ⟨rfl, hw⟩)
 go_ret
 exact ⟨rfl, hb _ hw⟩
