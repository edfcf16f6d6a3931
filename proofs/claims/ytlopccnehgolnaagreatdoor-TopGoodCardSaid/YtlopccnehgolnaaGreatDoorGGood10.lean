import Derived.Test.YtlopccnehgolnaaGreatDoorSpanA
import Derived.Laws.StructEq
namespace Go.Proofs.YtlopccnehgolnaaGreatDoor
open Go.RowKit Rb
open Go.Lib renaming hid -> hI
set_option maxHeartbeats 1600000
theorem Z1t {n : Int} {b : Bool} (h : Z0s n = b) (w : World) : Calls Tryz.prog 60 #[.int .i64 n] w fun e w' => e = .returned (.bool b) /\ w' = w :=
 (Y4l n w).mono fun _ _ ⟨h1, h2⟩ => ⟨by rw [h1, h], h2.symm⟩
theorem Y3h {S : Nat -> Prop} {v : Value} {l : List Rg} (w : World) (hl : rRgs.rel w S [v] l) :
  Calls Tryz.prog 35 #[v] w fun e w' => e = .returned (.bool (Z3b l)) /\ Below w.heap.size w w' := by
 obtain ⟨A, c, rfl, _, _, hn, hE⟩ := rRgs.elems hl
 clear hl
 go_enter Tryz.func35, Tryz.ntmps35
 go_wp2
 go_loopw [7] (fun i wr => ∃ k : Nat, k <= l.length /\ i = .int .i64 k /\ Hid (Z3b l = Z3h (if k = 0 then -1000002 else (l.getD (k - 1) (0, 0)).2) (l.drop k)) /\
  (0 < k -> Z0s (l.getD (k - 1) (0, 0)).2 = true) /\ Below w.heap.size w wr) (fun i _ => l.length - (intOf i).toNat)
 case atStart => exact ⟨0, Nat.zero_le _, rfl, hI rfl, fun h => absurd h (by omega), Below.refl _ _⟩
 case round =>
  obtain ⟨k, hk, rfl, HS, hp, hbl⟩ := hrel
  by_cases hlt : k < l.length
  ·obtain ⟨b, off, lo, up, rfl, _, hb, hx, _, _, h1, h2⟩ := hE.rg hlt
   rw [<- hbl.cell (p := ⟨b, _, none⟩) hb] at h1 h2
   have hs := HS.out
   rw [Z0m hx, Z3h] at hs
   dsimp only at hs
   have hb2 := hbl.alloc hbl.size (.cells #[.int .i64 lo, .int .i64 up] 92)
   have done : ∀ {q : Bool}, Z3b l = q -> q = false -> Z3b l = false := fun h h' => h.trans h'
   have hg : l.getD k (0, 0) = (lo, up) := by rw [List.getD_eq_getElem?_getD, hx]; rfl
   have HP : 0 < k -> ∃ hi : Int, Z0s hi = true /\ (if k = 0 then -1000002 else (l.getD (k - 1) (0, 0)).2) = hi /\ wr.cell? ⟨b, off + (k - 1) * 2 + 1, none⟩ = some (.int .i64 hi) := fun h0 => by
    obtain ⟨b', off', lo', up', hA', _, hb', hx', _, _, _, h2'⟩ := hE.rg (i := k - 1) (by omega)
    obtain ⟨rfl, rfl⟩ : b = b' /\ off = off' := by simpa using hA'
    rw [<- hbl.cell (p := ⟨b, _, none⟩) hb] at h2'
    have e : (l.getD (k - 1) (0, 0)) = (lo', up') := by rw [List.getD_eq_getElem?_getD, hx']; rfl
    have h3 := hp h0
    rw [e] at h3
    exact ⟨up', h3, by rw [if_neg (by omega), e], h2'⟩
   have h0 : k = 0 \/ 0 < k := by omega
   have cases5 : Z0s lo = false \/ (Z0s lo = true /\ Z0s up = false) \/ (Z0s lo = true /\ Z0s up = true /\ up < lo) \/ (Z0s lo = true /\ Z0s up = true /\ lo <= up) := by
    cases Z0s lo <;> cases Z0s up <;> simp <;> omega
   have HX := hI hx
   have HG := hI hg
   clear HS hx hE hg hp
   rcases cases5 with c1 | ⟨c1, c2⟩ | ⟨c1, c2, c3⟩ | ⟨c1, c2, c3⟩
   ·have HS : Hid (Z3b l = false) := hI (done hs (by simp [c1]))
    have c2 := c1
    clear hs h0 HP
    go_wp2
    go_quiet ((first | (go_at_call 60; first | with_reducible exact Calls.quiet_of_same (Z1t c1 _) | with_reducible exact Calls.quiet_of_same (Z1t c2 _))))
    go_wp2
    go_ret
    exact ⟨Z0i HS.out.symm, Z0e hb2 _⟩
   ·have HS : Hid (Z3b l = false) := hI (done hs (by simp [c2]))
    clear hs h0 HP
    go_wp2
    go_quiet ((first | (go_at_call 60; first | with_reducible exact Calls.quiet_of_same (Z1t c1 _) | with_reducible exact Calls.quiet_of_same (Z1t c2 _))))
    go_wp2
    go_ret
    exact ⟨Z0i HS.out.symm, Z0e hb2 _⟩
   ·have HS : Hid (Z3b l = false) := hI (done hs (by simp [show ¬ lo <= up by omega]))
    clear hs h0 HP
    go_wp2
    go_quiet ((first | (go_at_call 60; first | with_reducible exact Calls.quiet_of_same (Z1t c1 _) | with_reducible exact Calls.quiet_of_same (Z1t c2 _))))
    go_wp2
    go_ret
    exact ⟨Z0i HS.out.symm, Z0e hb2 _⟩
   ·have hu := (Z1b up).1 c2
    have hl' := (Z1b lo).1 c1
    have HQ : Hid (0 < k + 1 -> Z0s (l.getD (k + 1 - 1) (0, 0)).2 = true) := hI fun _ => by rw [Nat.add_sub_cancel, HG.out]; exact c2
    rcases h0 with h0 | h0
    ·have HS : Hid (Z3b l = Z3h (if k + 1 = 0 then -1000002 else (l.getD (k + 1 - 1) (0, 0)).2) (l.drop (k + 1))) := hI (by
      rw [hs, if_pos h0, if_neg (by omega), Nat.add_sub_cancel, HG.out]
      have : (-1000001 : Int) < lo := by omega
      simp [c1, c2, c3, this])
     have hd : decide (0 < k) = false := by simp; omega
     have hd3 : decide (up < lo) = false := by simp; omega
     clear hs HP h0
     go_wp2
     go_quiet ((first | (go_at_call 60; first | with_reducible exact Calls.quiet_of_same (Z1t c1 _) | with_reducible exact Calls.quiet_of_same (Z1t c2 _))))
     go_wp2
     go_roundw
     case rel => exact ⟨k + 1, by omega, by go_num, HS, HQ.out, Z0e hb2 _⟩
     case measure => simp [intOf]; omega
    ·obtain ⟨hi, n1, n2, n3⟩ := HP h0
     have hh := (Z1b hi).1 n1
     rw [n2] at hs
     have hd : decide (0 < k) = true := by simp; omega
     have hd3 : decide (up < lo) = false := by simp; omega
     have hi2 : k - 1 < l.length := by omega
     have hw1 : IntKind.i64.wrap ((k : Int) - 1) = ((k - 1 : Nat) : Int) := by rw [IntWalk.i64_in _ (by omega)]; omega
     have hw2 : IntKind.i64.wrap (hi + 1) = hi + 1 := IntWalk.i64_in _ (by omega)
     have n4 : (wr.alloc (.cells #[.int .i64 lo, .int .i64 up] 92)).cell? ⟨b, off + (k - 1) * 2 + 1, none⟩ = some (.int .i64 hi) := by
      rw [World.cell?_alloc_lt _ _ _ (World.block_lt_of_cell? _ _ n3)]; exact n3
     clear n2 n3 HP
     by_cases c4 : hi + 1 < lo
     ·have HS : Hid (Z3b l = Z3h (if k + 1 = 0 then -1000002 else (l.getD (k + 1 - 1) (0, 0)).2) (l.drop (k + 1))) := hI (by
       rw [hs, if_neg (by omega), Nat.add_sub_cancel, HG.out]
       simp [c1, c2, c3, c4])
      have hd4 : decide (lo <= hi + 1) = false := by simp; omega
      clear hs n1
      go_wp2
      go_quiet ((first | (go_at_call 60; first | with_reducible exact Calls.quiet_of_same (Z1t c1 _) | with_reducible exact Calls.quiet_of_same (Z1t c2 _))))
      go_wp2
      go_roundw
      case rel => exact ⟨k + 1, by omega, by go_num, HS, HQ.out, Z0e hb2 _⟩
      case measure => simp [intOf]; omega
     ·have HS : Hid (Z3b l = false) := hI (done hs (by simp [c4]))
      have hd4 : decide (lo <= hi + 1) = true := by simp; omega
      clear hs n1
      go_wp2
      go_quiet ((first | (go_at_call 60; first | with_reducible exact Calls.quiet_of_same (Z1t c1 _) | with_reducible exact Calls.quiet_of_same (Z1t c2 _))))
      go_wp2
      go_ret
      exact ⟨Z0i HS.out.symm, Z0e hb2 _⟩
  ·have hs := HS.out
   rw [List.drop_eq_nil_of_le (by omega), Z3h] at hs
   have HS' := hI hs
   clear hs hp
   go_wp2
   go_ret
   exact ⟨Z0i HS'.out.symm, hbl⟩
end Go.Proofs.YtlopccnehgolnaaGreatDoor
namespace Go.Proofs.YtlopccnehgolnaaGreatDoor
open Go.RowKit Rb
open Go.Lib renaming hid -> hI
theorem Y6k (lo up m : Int) (p : Nat) (w : World) (hp : w.cell? ⟨p, 0, none⟩ = some (.int .i64 m)) :
  Calls Tryz.prog 175 #[.agg #[.int .i64 lo, .int .i64 up], .pointer (some ⟨p, 0, none⟩)] w fun e w' => e = .returned (.bool (inR (lo, up) m)) /\ Below w.heap.size w w' := by
 have hp2 : (w.alloc (.cells #[.int .i64 lo, .int .i64 up] 92)).cell? ⟨p, 0, none⟩ = some (.int .i64 m) := by
  rw [World.cell?_alloc_lt _ _ _ (World.block_lt_of_cell? _ _ hp)]; exact hp
 clear hp
 by_cases h : lo <= m
 all_goals
  go_enter Tryz.func175, Tryz.ntmps175
  go_wp2
  go_ret
  exact ⟨Z0i (by first | (simp [inR, h]; done) | (simp [inR]; omega)), (Below.refl _ _).alloc (Nat.le_refl _) _⟩
def Z4x (l : List Rg) (m : Int) : Int := match l.findIdx? (fun r => inR r m) with | some i => i | none => -1
theorem Y2j {l : List Rg} {m : Int} {k : Nat} {r : Rg} (hk : l[k]? = some r) (h0 : hasL (l.take k) m = false) (h : inR r m = true) : Z4x l m = k /\ hasL l m = true := by
 obtain ⟨hlt, rfl⟩ := List.getElem?_eq_some_iff.1 hk
 have hf : l.findIdx? (fun r => inR r m) = some k := by
  rw [List.findIdx?_eq_some_iff_getElem]
  refine ⟨hlt, h, fun j hj => ?_⟩
  have : ¬ (∃ x, x ∈ l.take k /\ inR x m = true) := by
   intro ⟨x, hx, hm⟩
   have : hasL (l.take k) m = true := by simp only [hasL, List.any_eq_true]; exact ⟨x, hx, hm⟩
   rw [h0] at this; cases this
  have hj' : l[j]'(by omega) ∈ l.take k := by
   rw [List.mem_take_iff_getElem]
   exact ⟨j, by omega, rfl⟩
  cases hh : inR (l[j]'(by omega)) m
  ·simp
  ·exact absurd ⟨_, hj', hh⟩ this
 refine ⟨by unfold Z4x; rw [hf], ?_⟩
 simp only [hasL, List.any_eq_true]
 exact ⟨_, List.getElem_mem hlt, h⟩
theorem Z7a {l : List Rg} {m : Int} (h : hasL l m = false) : Z4x l m = -1 := by
 have hf : l.findIdx? (fun r => inR r m) = none := by
  rw [List.findIdx?_eq_none_iff]
  intro x hx
  cases hh : inR x m
  ·rfl
  ·have : hasL l m = true := by simp only [hasL, List.any_eq_true]; exact ⟨x, hx, hh⟩
   rw [h] at this; cases this
 unfold Z4x; rw [hf]
theorem Y1r {S : Nat -> Prop} {v : Value} {l : List Rg} (m : Int) (p : Nat) (w : World) (hl : rRgs.rel w S [v] l) (hp : w.cell? ⟨p, 0, none⟩ = some (.int .i64 m)) :
  Calls Tryz.prog 176 #[v, .func (.func 175) #[] #[.pointer (some ⟨p, 0, none⟩)]] w fun e w' => e = .returned (.int .i64 (Z4x l m)) /\ Below w.heap.size w w' := by
 obtain ⟨A, c, rfl, _, _, hn, hE⟩ := rRgs.elems hl
 have hpl := World.block_lt_of_cell? _ _ hp
 clear hl
 go_enter Tryz.func176, Tryz.ntmps176
 go_wp2
 go_loopw [5, 8] (fun _ i wr => ∃ k : Nat, k <= l.length /\ i = .int .i64 k /\ Hid (hasL (l.take k) m = false) /\ Below w.heap.size w wr) (fun _ i _ => l.length - (intOf i).toNat)
 case atStart => exact ⟨0, Nat.zero_le _, rfl, hI (by simp [hasL]), Below.refl _ _⟩
 case round =>
  obtain ⟨k, hk, rfl, HS, hbl⟩ := hrel
  by_cases hlt : k < l.length
  ·obtain ⟨b, off, lo, up, rfl, _, hb, hx, _, _, h1, h2⟩ := hE.rg hlt
   rw [<- hbl.cell (p := ⟨b, _, none⟩) hb] at h1 h2
   have hp' : wr.cell? ⟨p, 0, none⟩ = some (.int .i64 m) := by rw [hbl.cell (p := ⟨p, 0, none⟩) hpl]; exact hp
   have HX := hI hx
   have hcon := Y6k lo up m p wr hp'
   have HC := hI hcon
   clear hx hE hp hp' hcon
   have hi : (k : Int) < (l.length : Int) := by omega
   cases hh : inR (lo, up) m
   ·have HS' : Hid (hasL (l.take (k + 1)) m = false) := hI (by rw [Z0b HX.out, Y5a, HS.out, hh]; rfl)
    rw [hh] at HC
    clear hh
    go_wp2_with (first | (go_at_call 175; refine HC.out.mono ?_; rintro e w' ⟨rfl, hw⟩))
    go_roundw
    case rel => exact ⟨k + 1, by omega, by go_num, HS', hbl.trans (hw.mono hbl.size)⟩
    case measure => simp [intOf]; omega
   ·have HF : Hid (Z4x l m = k) := hI (Y2j HX.out HS.out hh).1
    rw [hh] at HC
    clear hh
    go_wp2_with (first | (go_at_call 175; refine HC.out.mono ?_; rintro e w' ⟨rfl, hw⟩))
    go_ret
    exact ⟨Z6t HF.out.symm, hbl.trans (hw.mono hbl.size)⟩
  ·go_wp2
   go_ret
   exact ⟨Z6t (Z7a (by have := HS.out; rwa [List.take_of_length_le (by omega)] at this)).symm, hbl⟩
theorem Z99 (l : List Rg) (m : Int) : decide (0 <= Z4x l m) = hasL l m := by
 cases hh : hasL l m
 ·rw [Z7a hh]; rfl
 ·unfold Z4x
  cases hq : l.findIdx? (fun r => inR r m) with
  | some i => simp
  | none =>
   rw [List.findIdx?_eq_none_iff] at hq
   simp only [hasL, List.any_eq_true] at hh
   obtain ⟨x, hx, hm⟩ := hh
   rw [hq x hx] at hm; cases hm
theorem Z8k {S : Nat -> Prop} {v : Value} {l : List Rg} (m : Int) (p : Nat) (w : World) (hl : rRgs.rel w S [v] l) (hp : w.cell? ⟨p, 0, none⟩ = some (.int .i64 m)) :
  Calls Tryz.prog 174 #[v, .func (.func 175) #[] #[.pointer (some ⟨p, 0, none⟩)]] w fun e w' => e = .returned (.bool (hasL l m)) /\ Below w.heap.size w w' := by
 have HI := hI (Y1r m p w hl hp)
 have HD := hI (Z99 l m)
 clear hl hp
 go_enter Tryz.func174, Tryz.ntmps174
 go_wp2_with (first | (go_at_call 176; refine HI.out.mono ?_; rintro e w' ⟨rfl, hw⟩))
 go_ret
 exact ⟨Z0i HD.out, hw⟩
theorem Y98 {S : Nat -> Prop} {v : Value} {l : List Rg} (m : Int) (w : World) (hl : rRgs.rel w S [v] l) :
  Calls Tryz.prog 168 #[v, .int .i64 m] w fun e w' => e = .returned (.bool (hasL l m)) /\ Below w.heap.size w w' := by
 have HI := hI (Z8k m w.heap.size (w.alloc (.cells #[.int .i64 m] 3)) (Rd.alloc hl _) (World.cell?_alloc_new _ _ _ _))
 have hb : ∀ w', Below (w.alloc (.cells #[.int .i64 m] 3)).heap.size (w.alloc (.cells #[.int .i64 m] 3)) w' -> Below w.heap.size w w' := fun w' h =>
  ((Below.refl _ _).alloc (Nat.le_refl _) _).trans (h.mono (by simp))
 clear hl
 go_enter Tryz.func168, Tryz.ntmps168
 go_wp2_with (first | (go_at_call 174; refine HI.out.mono ?_; rintro e w' ⟨rfl, hw⟩))
 go_ret
 exact ⟨rfl, hb _ hw⟩
end Go.Proofs.YtlopccnehgolnaaGreatDoor
