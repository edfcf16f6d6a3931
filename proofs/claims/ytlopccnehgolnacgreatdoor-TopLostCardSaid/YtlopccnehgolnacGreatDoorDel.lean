import Derived.Test.YtlopccnehgolnacGreatDoorGL11
import Derived.Test.YtlopccnehgolnacGreatDoorRowSet
import Derived.Test.YtlopccnehgolnacGreatDoorClo
import Derived.BigQuiet
import Derived.BigFrame
import Derived.Deep.DeepMust
namespace Go.Proofs.YtlopccnehgolnacGreatDoor
open Go.RowKit Rb
open List renaming drop_set_of_lt -> jA, take_set_of_le -> jB
set_option maxRecDepth 100000
set_option maxHeartbeats 1600000
def idxN {α : Type} (p : α -> Bool) (l : List α) : Int := match l.findIdx? p with | some i => i | none => -1
theorem Y0t {α : Type} {p : α -> Bool} {l : List α} {k : Nat} {x : α} (hk : l[k]? = some x) (h0 : (l.take k).any p = false) (h : p x = true) : idxN p l = k := by
 have hlt : k < l.length := (L0n.1 hk).1
 have hf : l.findIdx? p = some k := by
  rw [L1u]
  refine ⟨hlt, ?_, fun j hj => ?_⟩
  ·have := (L0n.1 hk).2
   rw [this]; exact h
  ·have := L1z.1 h0 l[j] (by rw [L2a]; exact ⟨j, by omega, rfl⟩)
   exact this
 unfold idxN; rw [hf]
theorem Y18 {α : Type} {p : α -> Bool} {l : List α} (h : l.any p = false) : idxN p l = -1 := by
 have hf : l.findIdx? p = none := by
  rw [L1v]
  intro x hx
  simpa using L1z.1 h x hx
 unfold idxN; rw [hf]
theorem Z9p {α : Type} (p : α -> Bool) (l : List α) : (idxN p l = -1 /\ l.any p = false) \/ ∃ (k : Nat) (x : α), idxN p l = (k : Int) /\ l[k]? = some x /\ p x = true /\ (l.take k).any p = false := by
 cases hf : l.findIdx? p with
 | none =>
  left
  refine ⟨by unfold idxN; rw [hf], ?_⟩
  rw [L1v] at hf
  rw [L1z]
  intro x hx
  simp [hf x hx]
 | some k =>
  right
  rw [L1u] at hf
  obtain ⟨hk, h1, h2⟩ := hf
  refine ⟨k, l[k], ?_, L0g hk, h1, ?_⟩
  ·exact Y0t (L0g hk) (by
    rw [L1z]
    intro x hx
    obtain ⟨j, hj, rfl⟩ := L2a.1 hx
    exact h2 j (by omega)) h1
  ·rw [L1z]
   intro x hx
   obtain ⟨j, hj, rfl⟩ := L2a.1 hx
   exact h2 j (by omega)
theorem Y1l {α : Type} {p : α -> Bool} {l : List α} {k : Nat} {x : α} (hx : l[k]? = some x) : (l.take (k + 1)).any p = ((l.take k).any p || p x) := by
 rw [L1k, hx]; simp
theorem Z7v {x y : Int} (h : x = y) : Ending.returned (.int .i64 x) = .returned (.int .i64 y) := by rw [h]
theorem Z97 (s : Txt) (x : Dm) {nb : Nat} (w : World) (hn : w.cell? ⟨nb, 0, none⟩ = some (.string ⟨s.toArray⟩)) {r : Bool} (hr : (x.name == s) = r) :
  Calls Tryz.prog 56 #[.agg #[.string ⟨x.name.toArray⟩, .int .i64 x.lo, .int .i64 x.hi], .pointer (some ⟨nb, 0, none⟩)] w fun e w' => e = .returned (.bool r) /\ Below w.heap.size w w' := by
 have hlt : nb < w.heap.size := L0e _ _ hn
 obtain ⟨W1, e1, k1, HB⟩ : ∃ W1, w.alloc (.cells #[.string ⟨x.name.toArray⟩, .int .i64 x.lo, .int .i64 x.hi] 63) = W1 /\ W1.cell? ⟨nb, 0, none⟩ = some (.string ⟨s.toArray⟩) /\ Hid (Below w.heap.size w W1) := ⟨_, rfl, (L0j _ _ _ (by exact hlt)).trans hn, L0 bA⟩; have k0 := ac0 e1
 clear hn
 cases r
 all_goals
  go_enter Tryz.func56, Tryz.ntmps56
  go_wp2
  go_ret
  exact ⟨rfl, HB.out⟩
theorem Y6a {S : Nat -> Prop} {A : Option Addr} {c nb : Nat} {l : List Dm} (s : Txt) (w : World) (hE : Elems rDm w S A l) (hl : l.length <= 4398046511104) (hn : w.cell? ⟨nb, 0, none⟩ = some (.string ⟨s.toArray⟩)) :
  Calls Tryz.prog 89 #[.slice A l.length c, .func (.func 56) #[] #[.pointer (some ⟨nb, 0, none⟩)]] w fun e w' => e = .returned (.int .i64 (idxN (fun d : Dm => d.name == s) l)) /\ Below w.heap.size w w' := by
 have hnl : nb < w.heap.size := L0e _ _ hn
 have HE := L0 hE
 have HN := L0 hn
 clear hE hn
 go_enter Tryz.func89, Tryz.ntmps89
 go_wp2
 go_loopw [5, 8] (fun _ i wr => ∃ k : Nat, k <= l.length /\ i = .int .i64 k /\ Hid ((l.take k).any (fun d : Dm => d.name == s) = false) /\ Hid (Below w.heap.size w wr)) (fun _ i _ => l.length - (intOf i).toNat)
 case atStart => exact ⟨0, L0o _, rfl, L0 (by simp), L0 (L0m _ _)⟩
 case round =>
  obtain ⟨k, hk, rfl, HS, HB⟩ := hrel
  by_cases hlt : k < l.length
  ·obtain ⟨q, off, x, rfl, hq, hx, hr, g0, g1, g2⟩ := HE.out.dm hlt
   rw [<- HB.out.ce _ hq] at g0 g1 g2
   have HNW : Hid (wr.cell? ⟨nb, 0, none⟩ = some (.string ⟨s.toArray⟩)) := L0 ((HB.out.ce 0 hnl).trans HN.out)
   have HX := L0 hx
   have hi : (k : Int) < (l.length : Int) := by omega
   clear hx hr
   cases hh : (x.name == s)
   ·have HC := L0 hh
    have HS' : Hid ((l.take (k + 1)).any (fun d : Dm => d.name == s) = false) := L0 (by rw [Y1l HX.out, HS.out, hh]; rfl)
    clear hh
    go_wp2_with (go_at_call 56; (with_reducible refine (Z97 s x _ HNW.out HC.out).mono ?_); rintro e w' ⟨rfl, hw⟩)
    go_roundw
    case rel => exact ⟨k + 1, by omega, by go_num, HS', L0 (HB.out.trans (hw.mono HB.out.size))⟩
    case measure => simp [intOf]; omega
   ·have HC := L0 hh
    have HF : Hid (idxN (fun d : Dm => d.name == s) l = k) := L0 (Y0t HX.out HS.out hh)
    clear hh
    go_wp2_with (go_at_call 56; (with_reducible refine (Z97 s x _ HNW.out HC.out).mono ?_); rintro e w' ⟨rfl, hw⟩)
    go_ret
    exact ⟨Z7v HF.out.symm, HB.out.trans (hw.mono HB.out.size)⟩
  ·go_wp2
   go_ret
   exact ⟨Z7v (Y18 (by have := HS.out; rwa [L0k (by omega)] at this)).symm, HB.out⟩
theorem Z98 (s : Txt) (x : Tb) {A1 A2 : Option Addr} {c1 c2 : Nat} {nb : Nat} (w : World) (hn : w.cell? ⟨nb, 0, none⟩ = some (.string ⟨s.toArray⟩)) {r : Bool} (hr : (x.name == s) = r) :
  Calls Tryz.prog 59 #[.agg #[.string ⟨x.name.toArray⟩, .int .i64 x.pol, .bool x.comp, .slice A1 x.ins.length c1, .slice A2 x.rules.length c2], .pointer (some ⟨nb, 0, none⟩)] w fun e w' => e = .returned (.bool r) /\ Below w.heap.size w w' := by
 have hlt : nb < w.heap.size := L0e _ _ hn
 obtain ⟨W1, e1, k1, HB⟩ : ∃ W1, w.alloc (.cells #[.string ⟨x.name.toArray⟩, .int .i64 x.pol, .bool x.comp, .slice A1 x.ins.length c1, .slice A2 x.rules.length c2] 66) = W1 /\ W1.cell? ⟨nb, 0, none⟩ = some (.string ⟨s.toArray⟩) /\ Hid (Below w.heap.size w W1) := ⟨_, rfl, (L0j _ _ _ (by exact hlt)).trans hn, L0 bA⟩; have k0 := ac0 e1
 clear hn
 cases r
 all_goals
  go_enter Tryz.func59, Tryz.ntmps59
  go_wp2
  go_ret
  exact ⟨rfl, HB.out⟩
theorem Y6b {S : Nat -> Prop} {A : Option Addr} {c nb : Nat} {l : List Tb} (s : Txt) (w : World) (hE : Elems rTb w S A l) (hl : l.length <= 4398046511104) (hn : w.cell? ⟨nb, 0, none⟩ = some (.string ⟨s.toArray⟩)) :
  Calls Tryz.prog 90 #[.slice A l.length c, .func (.func 59) #[] #[.pointer (some ⟨nb, 0, none⟩)]] w fun e w' => e = .returned (.int .i64 (idxN (fun d : Tb => d.name == s) l)) /\ Below w.heap.size w w' := by
 have hnl : nb < w.heap.size := L0e _ _ hn
 have HE := L0 hE
 have HN := L0 hn
 clear hE hn
 go_enter Tryz.func90, Tryz.ntmps90
 go_wp2
 go_loopw [5, 8] (fun _ i wr => ∃ k : Nat, k <= l.length /\ i = .int .i64 k /\ Hid ((l.take k).any (fun d : Tb => d.name == s) = false) /\ Hid (Below w.heap.size w wr)) (fun _ i _ => l.length - (intOf i).toNat)
 case atStart => exact ⟨0, L0o _, rfl, L0 (by simp), L0 (L0m _ _)⟩
 case round =>
  obtain ⟨k, hk, rfl, HS, HB⟩ := hrel
  by_cases hlt : k < l.length
  ·obtain ⟨q, off, x, A1, c1, A2, c2, rfl, hq, hx, hr, g0, g1, g2, g3, g4⟩ := HE.out.tb hlt
   rw [<- HB.out.ce _ hq] at g0 g1 g2 g3 g4
   have HNW : Hid (wr.cell? ⟨nb, 0, none⟩ = some (.string ⟨s.toArray⟩)) := L0 ((HB.out.ce 0 hnl).trans HN.out)
   have HX := L0 hx
   have hi : (k : Int) < (l.length : Int) := by omega
   clear hx hr
   cases hh : (x.name == s)
   ·have HC := L0 hh
    have HS' : Hid ((l.take (k + 1)).any (fun d : Tb => d.name == s) = false) := L0 (by rw [Y1l HX.out, HS.out, hh]; rfl)
    clear hh
    go_wp2_with (go_at_call 59; (with_reducible refine (Z98 s x _ HNW.out HC.out).mono ?_); rintro e w' ⟨rfl, hw⟩)
    go_roundw
    case rel => exact ⟨k + 1, by omega, by go_num, HS', L0 (HB.out.trans (hw.mono HB.out.size))⟩
    case measure => simp [intOf]; omega
   ·have HC := L0 hh
    have HF : Hid (idxN (fun d : Tb => d.name == s) l = k) := L0 (Y0t HX.out HS.out hh)
    clear hh
    go_wp2_with (go_at_call 59; (with_reducible refine (Z98 s x _ HNW.out HC.out).mono ?_); rintro e w' ⟨rfl, hw⟩)
    go_ret
    exact ⟨Z7v HF.out.symm, HB.out.trans (hw.mono HB.out.size)⟩
  ·go_wp2
   go_ret
   exact ⟨Z7v (Y18 (by have := HS.out; rwa [L0k (by omega)] at this)).symm, HB.out⟩
theorem Y5p {w : World} {base : Nat} {S : Nat -> Prop} {ys : List Dm} {n c g i : Nat} (h : OwnS rDm 63 w base S (.slice (some ⟨g, 0, none⟩) n c) ys) (hl : ys.length = n) (hi : i < n) : ∃ z0, w.cell? ⟨g, i * 3, none⟩ = some z0 /\ ∃ z1, w.cell? ⟨g, i * 3 + 1, none⟩ = some z1 /\ ∃ z2, w.cell? ⟨g, i * 3 + 2, none⟩ = some z2 := by
 subst hl
 obtain ⟨cs, hr, hc⟩ := h.elem rfl (L0g hi)
 have hl := rDm.len hr
 have hl' : cs.length = 3 := hl
 match cs, hl' with
 | [c0, c1, c2], _ => exact ⟨_, hc 0 _ rfl, _, hc 1 _ rfl, _, hc 2 _ rfl⟩
theorem Y5q {w : World} {base : Nat} {S : Nat -> Prop} {ys : List Tb} {n c g i : Nat} (h : OwnS rTb 66 w base S (.slice (some ⟨g, 0, none⟩) n c) ys) (hl : ys.length = n) (hi : i < n) : ∃ z0, w.cell? ⟨g, i * 5, none⟩ = some z0 /\ ∃ z1, w.cell? ⟨g, i * 5 + 1, none⟩ = some z1 /\ ∃ z2, w.cell? ⟨g, i * 5 + 2, none⟩ = some z2 /\ ∃ z3, w.cell? ⟨g, i * 5 + 3, none⟩ = some z3 /\ ∃ z4, w.cell? ⟨g, i * 5 + 4, none⟩ = some z4 := by
 subst hl
 obtain ⟨cs, hr, hc⟩ := h.elem rfl (L0g hi)
 have hl := rTb.len hr
 have hl' : cs.length = 5 := hl
 match cs, hl' with
 | [c0, c1, c2, c3, c4], _ => exact ⟨_, hc 0 _ rfl, _, hc 1 _ rfl, _, hc 2 _ rfl, _, hc 3 _ rfl, _, hc 4 _ rfl⟩
theorem X2p {S : Nat -> Prop} {base nb : Nat} {v : Value} {l : List Dm} (s : Txt) (w : World) (hown : OwnS rDm 63 w base S v l) (hbase : base <= w.heap.size) (hlen : l.length <= 4398046511104) (hn : w.cell? ⟨nb, 0, none⟩ = some (.string ⟨s.toArray⟩)) (hnb : nb < base) :
  Calls Tryz.prog 54 #[v, .func (.func 56) #[] #[.pointer (some ⟨nb, 0, none⟩)]] w fun e' w' => ∃ u, e' = .returned u /\ OwnS rDm 63 w' base S u (l.filter (fun d : Dm => !(d.name == s))) /\ Below base w w' /\ w.grownBy w' v.ownBlock /\ (u.ownBlock = none \/ u.ownBlock = v.ownBlock) := by
 have hnl : nb < w.heap.size := L0e _ _ hn
 have hel := rSl.elems (hown.self.rel (by decide))
 obtain ⟨A, c, rfl, _, _, _, hE⟩ := hel
 have hidx := Y6a (c := c) s w hE hlen hn
 rcases Z9p (fun d : Dm => d.name == s) l with ⟨h1, h2⟩ | ⟨i0, x0, h1, h2, h3, h4⟩
 ·rw [h1] at hidx
  have hfil : l.filter (fun d : Dm => !(d.name == s)) = l := by
   rw [L4g]
   intro d hd
   have := L1z.1 h2 d hd
   simpa using this
  have HI := L0 hidx
  have HO := L0 hown
  clear hidx hE hown hn h1 h2
  go_enter Tryz.func54, Tryz.ntmps54
  go_wp2_with (go_at_call 89; (with_reducible refine HI.out.mono ?_); rintro e w1 ⟨rfl, hb1⟩; have HB1 := L0 hb1; clear hb1)
  go_ret
  exact ⟨_, rfl, by rw [hfil]; exact HO.out.below HB1.out, HB1.out.mono hbase, Z0v HB1.out, .inr rfl⟩
 ·have hi0 : i0 < l.length := (L0n.1 h2).1
  rcases hown.form with ⟨hv, hl0⟩ | ⟨g, cap, hv, hgb, hgl⟩
  ·rw [hl0] at hi0; simp at hi0
  injection hv with hA _ hc
  subst hA hc
  rw [h1] at hidx
  have hicap : l.length <= c := by
   obtain ⟨_, q, _⟩ := hown
   rcases q.2 with ⟨hq, _⟩ | ⟨_, _, _, hq, _, _, hq', _⟩
   ·cases hq
   ·cases hq; assumption
  have HI := L0 hidx
  have HO := L0 hown
  have HN := L0 hn
  have HP0 : Hid (l.take i0 = (l.take (i0 + 1)).filter (fun d : Dm => !(d.name == s))) := L0 (by
   rw [L1k, h2, L2q]
   have e1 : (l.take i0).filter (fun d : Dm => !(d.name == s)) = l.take i0 := by
    rw [L4g]
    intro d hd
    have := L1z.1 h4 d hd
    simpa using this
   rw [e1]
   simp [h3])
  clear hidx hE hown hn h1 h2 h3 h4
  go_enter Tryz.func54, Tryz.ntmps54
  have hz0 : ((i0 : Int) == -1) = false := by first | (simp; omega) | simp
  have hz1 : ¬ ((i0 : Int) = -1) := by omega
  go_wp2_with (go_at_call 89; (with_reducible refine HI.out.mono ?_); rintro e w1 ⟨rfl, hb1⟩; have HB1 := L0 hb1; clear hb1)
  go_loopw [5, 6] (fun si sj wr => ∃ (i j : Nat) (ys : List Dm), si = .int .i64 i /\ sj = .int .i64 j /\ i < j /\ j <= l.length /\ Hid (ys.length = l.length) /\ Hid (ys.take i = (l.take j).filter (fun d : Dm => !(d.name == s))) /\ Hid (ys.drop j = l.drop j) /\
   Hid (OwnS rDm 63 wr base S (.slice (some ⟨g, 0, none⟩) l.length c) ys) /\ Hid (w.grownBy wr (some g))) (fun _ sj _ => l.length - (intOf sj).toNat)
  case atStart => exact ⟨i0, i0 + 1, l, rfl, by go_num, by omega, by omega, L0 rfl, HP0, L0 rfl, L0 (HO.out.below HB1.out), L0 (Z0v HB1.out)⟩
  case round =>
   obtain ⟨i, j, ys, rfl, rfl, hij, hjl, HL, HT, HD, HO2, HG⟩ := hrel
   by_cases hlt : j < l.length
   ·have hjz : (j : Int) < (l.length : Int) := by omega
    obtain ⟨x, hx⟩ : ∃ x, l[j]? = some x := ⟨_, L0g hlt⟩
    have hy : ys[j]? = some x := by
     have := congrArg (fun z => z[0]?) HD.out
     simp only [L1l, L3l] at this
     rw [this, hx]
    obtain ⟨cs, hrel0, hcell⟩ := OwnS.elem (cap := c) HO2.out (by rw [HL.out]) hy
    have hrelc := L0 hrel0
    obtain ⟨rfl, hr'⟩ := hrel0
    have HC := L0 hcell
    have HX := L0 hx
    clear hcell hx hy
    have g0 : wr.cell? ⟨g, j * 3, none⟩ = some (.string ⟨x.name.toArray⟩) := by have := HC.out 0 _ rfl; simpa [rDm] using this
    have g1 : wr.cell? ⟨g, j * 3 + 1, none⟩ = some (.int .i64 x.lo) := by have := HC.out 1 _ rfl; simpa [rDm] using this
    have g2 : wr.cell? ⟨g, j * 3 + 2, none⟩ = some (.int .i64 x.hi) := by have := HC.out 2 _ rfl; simpa [rDm] using this
    have HNW : Hid (wr.cell? ⟨nb, 0, none⟩ = some (.string ⟨s.toArray⟩)) := L0 (by
     have := HG.out.block nb hnl (by intro h; injection h with h; omega)
     exact (L1c this).trans HN.out)
    have hgw : g < wr.heap.size := L0e _ _ g0
    obtain ⟨W3, e3, HB3, hw3⟩ : ∃ W3, wr.alloc (.cells #[.string ⟨x.name.toArray⟩, .int .i64 x.lo, .int .i64 x.hi] 63) = W3 /\ Hid (Below wr.heap.size wr W3) /\ W3.heap.size = wr.heap.size + 1 := ⟨_, rfl, L0 bA, by simp⟩; have j0 := ac0 e3; have j1 := ac1 e3; have j2 := ac2 e3
    clear hw3
    have HN3 : Hid (W3.cell? ⟨nb, 0, none⟩ = some (.string ⟨s.toArray⟩)) := L0 ((HB3.out.ce 0 (L0e _ _ HNW.out)).trans HNW.out)
    cases hh : (x.name == s)
    ·have HH := L0 hh
     have HT' : Hid ((l.take (j + 1)).filter (fun d : Dm => !(d.name == s)) = ys.take i ++ [x]) := L0 (by rw [L1k, HX.out, L2q, HT.out]; simp [hh])
     clear hh
     have HO3 : Hid (∀ w4, Below W3.heap.size W3 w4 -> OwnS rDm 63 w4 base S (.slice (some ⟨g, 0, none⟩) l.length c) ys /\ rDm.rel w4 S [.string ⟨x.name.toArray⟩, .int .i64 x.lo, .int .i64 x.hi] x /\ w.grownBy w4 (some g)) := L0 fun w4 hb => by
      have hb' := HB3.out.trans (hb.mono HB3.out.size)
      exact ⟨HO2.out.below hb', Rd.below hrelc.out hb', Z0p HG.out (Z0v hb')⟩
     go_wp2_with (go_at_call 56; (with_reducible refine (Z97 s x _ HN3.out HH.out).mono ?_); rintro e w4 ⟨rfl, hb4⟩; have HB4 := L0 hb4; replace j0 := (hb4.ce 0 (L0e _ _ j0)).trans j0; replace j1 := (hb4.ce 1 (L0e _ _ j1)).trans j1; replace j2 := (hb4.ce 2 (L0e _ _ j2)).trans j2; have HQ := L0 (HO3.out w4 hb4); have f0 := HQ.out.1.frozen rfl (i * 3); have f1 := HQ.out.1.frozen rfl (i * 3 + 1); have f2 := HQ.out.1.frozen rfl (i * 3 + 2); obtain ⟨z0, y0, z1, y1, z2, y2⟩ := Y5p HQ.out.1 HL.out (show i < l.length by omega); clear hb4 e3)
     have HR := L0 (HQ.out.1.setRow (i := i) (by rw [HL.out]) (by have := HL.out; omega) HQ.out.2.1)
     go_roundw
     case rel => exact ⟨i + 1, j + 1, ys.set i x, by go_num, by go_num, by omega, hlt, L0 (by rw [L3i]; exact HL.out), L0 (by rw [HT'.out, L1k, L2e (by have := HL.out; omega), jB (L0f _)]; rfl), L0 (by rw [jA (by omega), <- L3d, HD.out, L3d]), L0 HR.out.1, L0 (Z0p HQ.out.2.2 (Z0b [.string ⟨x.name.toArray⟩, .int .i64 x.lo, .int .i64 x.hi] (i * 3)))⟩
     case measure => simp [intOf]; omega
    ·have HH := L0 hh
     have HT' : Hid ((l.take (j + 1)).filter (fun d : Dm => !(d.name == s)) = ys.take i) := L0 (by rw [L1k, HX.out, L2q, HT.out]; simp [hh])
     clear hh
     go_wp2_with (go_at_call 56; (with_reducible refine (Z97 s x _ HN3.out HH.out).mono ?_); rintro e w4 ⟨rfl, hb4⟩; have HB4 := L0 (HB3.out.trans (hb4.mono HB3.out.size)); clear hb4)
     go_roundw
     case rel => exact ⟨i, j + 1, ys, rfl, by go_num, by omega, hlt, HL, L0 HT'.out.symm, L0 (by rw [<- L3d, HD.out, L3d]), L0 (HO2.out.below HB4.out), L0 (Z0p HG.out (Z0v HB4.out))⟩
     case measure => simp [intOf]; omega
   ·have hjz : ¬ ((j : Int) < (l.length : Int)) := by omega
    have hic : i < l.length := by omega
    obtain ⟨vs, hvs, hcl0⟩ := Z6l (P := Tryz.prog) (c := c - i) Y60 HO2.out (by rw [HL.out]) (i := i) (by rw [HL.out]; exact hic) Tryz.zeroValue63 rfl (by decide)
    have HCUT := L0 (HO2.out.cutRow (by rw [HL.out]) (i := i) (by rw [HL.out]; omega) hvs)
    have HFIN : Hid (ys.take i = l.filter (fun d : Dm => !(d.name == s))) := L0 (by rw [HT.out, L0k (by omega)])
    rw [HL.out] at hcl0
    have hcl : ∀ ty, (Builtin.clear_ #[35] ty #[.slice (some ⟨g, i * 3, none⟩) (l.length - i) (c - i)]).run Tryz.prog wr = .ok (.tuple #[]) (wr.setCells g (i * 3) vs) := hcl0
    have HGF : Hid (w.grownBy (wr.setCells g (i * 3) vs) (some g)) := L0 (Z0p HG.out (Z0b vs _))
    have hiz : (i : Int) <= (l.length : Int) := by omega
    have hicc : i <= c := by omega
    clear hvs hcl0
    go_wp2
    go_ret
    refine ⟨_, rfl, by rw [<- HFIN.out]; exact HCUT.out.1, (L0m base w).grown HGF.out hbase fun q hq => by injection hq with hq; omega, HGF.out, .inr rfl⟩
theorem X2q {S : Nat -> Prop} {base nb : Nat} {v : Value} {l : List Tb} (s : Txt) (w : World) (hown : OwnS rTb 66 w base S v l) (hbase : base <= w.heap.size) (hlen : l.length <= 4398046511104) (hn : w.cell? ⟨nb, 0, none⟩ = some (.string ⟨s.toArray⟩)) (hnb : nb < base) :
  Calls Tryz.prog 57 #[v, .func (.func 59) #[] #[.pointer (some ⟨nb, 0, none⟩)]] w fun e' w' => ∃ u, e' = .returned u /\ OwnS rTb 66 w' base S u (l.filter (fun d : Tb => !(d.name == s))) /\ Below base w w' /\ w.grownBy w' v.ownBlock /\ (u.ownBlock = none \/ u.ownBlock = v.ownBlock) := by
 have hnl : nb < w.heap.size := L0e _ _ hn
 have hel := rSl.elems (hown.self.rel (by decide))
 obtain ⟨A, c, rfl, _, _, _, hE⟩ := hel
 have hidx := Y6b (c := c) s w hE hlen hn
 rcases Z9p (fun d : Tb => d.name == s) l with ⟨h1, h2⟩ | ⟨i0, x0, h1, h2, h3, h4⟩
 ·rw [h1] at hidx
  have hfil : l.filter (fun d : Tb => !(d.name == s)) = l := by
   rw [L4g]
   intro d hd
   have := L1z.1 h2 d hd
   simpa using this
  have HI := L0 hidx
  have HO := L0 hown
  clear hidx hE hown hn h1 h2
  go_enter Tryz.func57, Tryz.ntmps57
  go_wp2_with (go_at_call 90; (with_reducible refine HI.out.mono ?_); rintro e w1 ⟨rfl, hb1⟩; have HB1 := L0 hb1; clear hb1)
  go_ret
  exact ⟨_, rfl, by rw [hfil]; exact HO.out.below HB1.out, HB1.out.mono hbase, Z0v HB1.out, .inr rfl⟩
 ·have hi0 : i0 < l.length := (L0n.1 h2).1
  rcases hown.form with ⟨hv, hl0⟩ | ⟨g, cap, hv, hgb, hgl⟩
  ·rw [hl0] at hi0; simp at hi0
  injection hv with hA _ hc
  subst hA hc
  rw [h1] at hidx
  have hicap : l.length <= c := by
   obtain ⟨_, q, _⟩ := hown
   rcases q.2 with ⟨hq, _⟩ | ⟨_, _, _, hq, _, _, hq', _⟩
   ·cases hq
   ·cases hq; assumption
  have HI := L0 hidx
  have HO := L0 hown
  have HN := L0 hn
  have HP0 : Hid (l.take i0 = (l.take (i0 + 1)).filter (fun d : Tb => !(d.name == s))) := L0 (by
   rw [L1k, h2, L2q]
   have e1 : (l.take i0).filter (fun d : Tb => !(d.name == s)) = l.take i0 := by
    rw [L4g]
    intro d hd
    have := L1z.1 h4 d hd
    simpa using this
   rw [e1]
   simp [h3])
  clear hidx hE hown hn h1 h2 h3 h4
  go_enter Tryz.func57, Tryz.ntmps57
  have hz0 : ((i0 : Int) == -1) = false := by first | (simp; omega) | simp
  have hz1 : ¬ ((i0 : Int) = -1) := by omega
  go_wp2_with (go_at_call 90; (with_reducible refine HI.out.mono ?_); rintro e w1 ⟨rfl, hb1⟩; have HB1 := L0 hb1; clear hb1)
  go_loopw [5, 6] (fun si sj wr => ∃ (i j : Nat) (ys : List Tb), si = .int .i64 i /\ sj = .int .i64 j /\ i < j /\ j <= l.length /\ Hid (ys.length = l.length) /\ Hid (ys.take i = (l.take j).filter (fun d : Tb => !(d.name == s))) /\ Hid (ys.drop j = l.drop j) /\
   Hid (OwnS rTb 66 wr base S (.slice (some ⟨g, 0, none⟩) l.length c) ys) /\ Hid (w.grownBy wr (some g))) (fun _ sj _ => l.length - (intOf sj).toNat)
  case atStart => exact ⟨i0, i0 + 1, l, rfl, by go_num, by omega, by omega, L0 rfl, HP0, L0 rfl, L0 (HO.out.below HB1.out), L0 (Z0v HB1.out)⟩
  case round =>
   obtain ⟨i, j, ys, rfl, rfl, hij, hjl, HL, HT, HD, HO2, HG⟩ := hrel
   by_cases hlt : j < l.length
   ·have hjz : (j : Int) < (l.length : Int) := by omega
    obtain ⟨x, hx⟩ : ∃ x, l[j]? = some x := ⟨_, L0g hlt⟩
    have hy : ys[j]? = some x := by
     have := congrArg (fun z => z[0]?) HD.out
     simp only [L1l, L3l] at this
     rw [this, hx]
    obtain ⟨cs, hrel0, hcell⟩ := OwnS.elem (cap := c) HO2.out (by rw [HL.out]) hy
    have hrelc := L0 hrel0
    obtain ⟨v1, v2, rfl, hr1, hr2, hr3, hr4⟩ := hrel0
    obtain ⟨A1, c1, rfl, _⟩ := rSl.elems hr3
    obtain ⟨A2, c2, rfl, _⟩ := rSl.elems hr4
    have HC := L0 hcell
    have HX := L0 hx
    clear hcell hx hy
    have g0 : wr.cell? ⟨g, j * 5, none⟩ = some (.string ⟨x.name.toArray⟩) := by have := HC.out 0 _ rfl; simpa [rTb] using this
    have g1 : wr.cell? ⟨g, j * 5 + 1, none⟩ = some (.int .i64 x.pol) := by have := HC.out 1 _ rfl; simpa [rTb] using this
    have g2 : wr.cell? ⟨g, j * 5 + 2, none⟩ = some (.bool x.comp) := by have := HC.out 2 _ rfl; simpa [rTb] using this
    have g3 : wr.cell? ⟨g, j * 5 + 3, none⟩ = some (.slice A1 x.ins.length c1) := by have := HC.out 3 _ rfl; simpa [rTb] using this
    have g4 : wr.cell? ⟨g, j * 5 + 4, none⟩ = some (.slice A2 x.rules.length c2) := by have := HC.out 4 _ rfl; simpa [rTb] using this
    have HNW : Hid (wr.cell? ⟨nb, 0, none⟩ = some (.string ⟨s.toArray⟩)) := L0 (by
     have := HG.out.block nb hnl (by intro h; injection h with h; omega)
     exact (L1c this).trans HN.out)
    have hgw : g < wr.heap.size := L0e _ _ g0
    obtain ⟨W3, e3, HB3, hw3⟩ : ∃ W3, wr.alloc (.cells #[.string ⟨x.name.toArray⟩, .int .i64 x.pol, .bool x.comp, .slice A1 x.ins.length c1, .slice A2 x.rules.length c2] 66) = W3 /\ Hid (Below wr.heap.size wr W3) /\ W3.heap.size = wr.heap.size + 1 := ⟨_, rfl, L0 bA, by simp⟩; have j0 := ac0 e3; have j1 := ac1 e3; have j2 := ac2 e3; have j3 := ac3 e3; have j4 := ac4 e3
    clear hw3
    have HN3 : Hid (W3.cell? ⟨nb, 0, none⟩ = some (.string ⟨s.toArray⟩)) := L0 ((HB3.out.ce 0 (L0e _ _ HNW.out)).trans HNW.out)
    cases hh : (x.name == s)
    ·have HH := L0 hh
     have HT' : Hid ((l.take (j + 1)).filter (fun d : Tb => !(d.name == s)) = ys.take i ++ [x]) := L0 (by rw [L1k, HX.out, L2q, HT.out]; simp [hh])
     clear hh
     have HO3 : Hid (∀ w4, Below W3.heap.size W3 w4 -> OwnS rTb 66 w4 base S (.slice (some ⟨g, 0, none⟩) l.length c) ys /\ rTb.rel w4 S [.string ⟨x.name.toArray⟩, .int .i64 x.pol, .bool x.comp, .slice A1 x.ins.length c1, .slice A2 x.rules.length c2] x /\ w.grownBy w4 (some g)) := L0 fun w4 hb => by
      have hb' := HB3.out.trans (hb.mono HB3.out.size)
      exact ⟨HO2.out.below hb', Rd.below hrelc.out hb', Z0p HG.out (Z0v hb')⟩
     go_wp2_with (go_at_call 59; (with_reducible refine (Z98 s x _ HN3.out HH.out).mono ?_); rintro e w4 ⟨rfl, hb4⟩; have HB4 := L0 hb4; replace j0 := (hb4.ce 0 (L0e _ _ j0)).trans j0; replace j1 := (hb4.ce 1 (L0e _ _ j1)).trans j1; replace j2 := (hb4.ce 2 (L0e _ _ j2)).trans j2; replace j3 := (hb4.ce 3 (L0e _ _ j3)).trans j3; replace j4 := (hb4.ce 4 (L0e _ _ j4)).trans j4; have HQ := L0 (HO3.out w4 hb4); have f0 := HQ.out.1.frozen rfl (i * 5); have f1 := HQ.out.1.frozen rfl (i * 5 + 1); have f2 := HQ.out.1.frozen rfl (i * 5 + 2); have f3 := HQ.out.1.frozen rfl (i * 5 + 3); have f4 := HQ.out.1.frozen rfl (i * 5 + 4); obtain ⟨z0, y0, z1, y1, z2, y2, z3, y3, z4, y4⟩ := Y5q HQ.out.1 HL.out (show i < l.length by omega); clear hb4 e3)
     have HR := L0 (HQ.out.1.setRow (i := i) (by rw [HL.out]) (by have := HL.out; omega) HQ.out.2.1)
     go_roundw
     case rel => exact ⟨i + 1, j + 1, ys.set i x, by go_num, by go_num, by omega, hlt, L0 (by rw [L3i]; exact HL.out), L0 (by rw [HT'.out, L1k, L2e (by have := HL.out; omega), jB (L0f _)]; rfl), L0 (by rw [jA (by omega), <- L3d, HD.out, L3d]), L0 HR.out.1, L0 (Z0p HQ.out.2.2 (Z0b [.string ⟨x.name.toArray⟩, .int .i64 x.pol, .bool x.comp, .slice A1 x.ins.length c1, .slice A2 x.rules.length c2] (i * 5)))⟩
     case measure => simp [intOf]; omega
    ·have HH := L0 hh
     have HT' : Hid ((l.take (j + 1)).filter (fun d : Tb => !(d.name == s)) = ys.take i) := L0 (by rw [L1k, HX.out, L2q, HT.out]; simp [hh])
     clear hh
     go_wp2_with (go_at_call 59; (with_reducible refine (Z98 s x _ HN3.out HH.out).mono ?_); rintro e w4 ⟨rfl, hb4⟩; have HB4 := L0 (HB3.out.trans (hb4.mono HB3.out.size)); clear hb4)
     go_roundw
     case rel => exact ⟨i, j + 1, ys, rfl, by go_num, by omega, hlt, HL, L0 HT'.out.symm, L0 (by rw [<- L3d, HD.out, L3d]), L0 (HO2.out.below HB4.out), L0 (Z0p HG.out (Z0v HB4.out))⟩
     case measure => simp [intOf]; omega
   ·have hjz : ¬ ((j : Int) < (l.length : Int)) := by omega
    have hic : i < l.length := by omega
    obtain ⟨vs, hvs, hcl0⟩ := Z6l (P := Tryz.prog) (c := c - i) Y4c HO2.out (by rw [HL.out]) (i := i) (by rw [HL.out]; exact hic) Tryz.zeroValue66 rfl (by decide)
    have HCUT := L0 (HO2.out.cutRow (by rw [HL.out]) (i := i) (by rw [HL.out]; omega) hvs)
    have HFIN : Hid (ys.take i = l.filter (fun d : Tb => !(d.name == s))) := L0 (by rw [HT.out, L0k (by omega)])
    rw [HL.out] at hcl0
    have hcl : ∀ ty, (Builtin.clear_ #[36] ty #[.slice (some ⟨g, i * 5, none⟩) (l.length - i) (c - i)]).run Tryz.prog wr = .ok (.tuple #[]) (wr.setCells g (i * 5) vs) := hcl0
    have HGF : Hid (w.grownBy (wr.setCells g (i * 5) vs) (some g)) := L0 (Z0p HG.out (Z0b vs _))
    have hiz : (i : Int) <= (l.length : Int) := by omega
    have hicc : i <= c := by omega
    clear hvs hcl0
    go_wp2
    go_ret
    refine ⟨_, rfl, by rw [<- HFIN.out]; exact HCUT.out.1, (L0m base w).grown HGF.out hbase fun q hq => by injection hq with hq; omega, HGF.out, .inr rfl⟩
