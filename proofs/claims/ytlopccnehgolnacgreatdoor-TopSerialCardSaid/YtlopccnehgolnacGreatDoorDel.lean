import Derived.Test.YtlopccnehgolnacGreatDoorGK11
import Derived.Test.YtlopccnehgolnacGreatDoorRowSet
import Derived.Test.YtlopccnehgolnacGreatDoorClo
import Derived.BigQuiet
import Derived.BigFrame
import Derived.Deep.DeepMust
namespace Go.Proofs.YtlopccnehgolnacGreatDoor
open Go.RowKit Rb
open List renaming drop_set_of_lt -> jA, take_set_of_le -> jB
set_option maxRecDepth 100000
set_option maxHeartbeats 1600000
def idxN {α : Type} (p : α -> Bool) (l : List α) : Int := match l.findIdx? p with | some i => i | none => -1
theorem Y16 {α : Type} {p : α -> Bool} {l : List α} {k : Nat} {x : α} (hk : l[k]? = some x) (h0 : (l.take k).any p = false) (h : p x = true) : idxN p l = k := by
 have hlt : k < l.length := (L0n.1 hk).1
 have hf : l.findIdx? p = some k := by
  rw [L2g]
  refine ⟨hlt, ?_, fun j hj => ?_⟩
  ·have := (L0n.1 hk).2
   rw [this]; exact h
  have := L2m.1 h0 l[j] (by rw [L2n]; exact ⟨j, by omega, rfl⟩)
  exact this
 unfold idxN; rw [hf]
theorem Y3o {α : Type} {p : α -> Bool} {l : List α} (h : l.any p = false) : idxN p l = -1 := by
 have hf : l.findIdx? p = none := by
  rw [L2h]
  intro x hx
  simpa using L2m.1 h x hx
 unfold idxN; rw [hf]
theorem Y0z {α : Type} (p : α -> Bool) (l : List α) : (idxN p l = -1 /\ l.any p = false) \/ ∃ (k : Nat) (x : α), idxN p l = (k : Int) /\ l[k]? = some x /\ p x = true /\ (l.take k).any p = false := by
 cases hf : l.findIdx? p with
 | none =>
  left
  refine ⟨by unfold idxN; rw [hf], ?_⟩
  rw [L2h] at hf
  rw [L2m]
  intro x hx
  simp [hf x hx]
 | some k =>
  right
  rw [L2g] at hf
  obtain ⟨hk, h1, h2⟩ := hf
  refine ⟨k, l[k], ?_, L0f hk, h1, ?_⟩
  ·exact Y16 (L0f hk) (by
    rw [L2m]
    intro x hx
    obtain ⟨j, hj, rfl⟩ := L2n.1 hx
    exact h2 j (by omega)) h1
  rw [L2m]
  intro x hx
  obtain ⟨j, hj, rfl⟩ := L2n.1 hx
  exact h2 j (by omega)
theorem Y21 {α : Type} {p : α -> Bool} {l : List α} {k : Nat} {x : α} (hx : l[k]? = some x) : (l.take (k + 1)).any p = ((l.take k).any p || p x) := by
 rw [L1k, hx]; simp
theorem Z80 {x y : Int} (h : x = y) : Ending.returned (.int .i64 x) = .returned (.int .i64 y) := by rw [h]
theorem Y1j (s : Txt) (x : Dm) {nb : Nat} (w : World) (hn : w.cell? (zn nb 0) = some (sq s)) {r : Bool} (hr : (x.name == s) = r) :
  Calls Tryz.prog 56 #[.agg #[sq x.name, .int .i64 x.lo, .int .i64 x.hi], .pointer (some (zn nb 0))] w fun e w' => e = .returned (.bool r) /\ Bw w w' := by
 have hlt : nb < w.heap.size := L0d _ _ hn
 obtain ⟨W1, e1, k1, HB⟩ : ∃ W1, w.alloc (.cells #[sq x.name, .int .i64 x.lo, .int .i64 x.hi] 63) = W1 /\ W1.cell? (zn nb 0) = some (sq s) /\ Hid (Bw w W1) := ⟨_, rfl, (L0j _ _ _ (by exact hlt)).trans hn, L0 bA⟩; have k0 := ac0 e1
 clear hn
 cases r
 all_goals
  go_enter Tryz.func56, Tryz.ntmps56
  go_wp2
  go_ret
  exact ⟨rfl, HB.o⟩
theorem Y75 {S : Nat -> Prop} {A : Option Addr} {c nb : Nat} {l : List Dm} (s : Txt) (w : World) (hE : Elems rDm w S A l) (hl : l.length <= 4398046511104) (hn : w.cell? (zn nb 0) = some (sq s)) :
  Calls Tryz.prog 89 #[.slice A l.length c, .func (.func 56) #[] #[.pointer (some (zn nb 0))]] w fun e w' => e = .returned (.int .i64 (idxN (fun d : Dm => d.name == s) l)) /\ Bw w w' := by
 have hnl : nb < w.heap.size := L0d _ _ hn
 have HE := L0 hE
 have HN := L0 hn
 clear hE hn
 go_enter Tryz.func89, Tryz.ntmps89
 go_wp2
 go_loopw [5, 8] (fun _ i wr => ∃ k : Nat, k <= l.length /\ i = .int .i64 k /\ Hid ((l.take k).any (fun d : Dm => d.name == s) = false) /\ Hid (Bw w wr)) (fun _ i _ => l.length - (intOf i).toNat)
 exact ⟨0, L0o _, rfl, L0 (by simp), L0 (L0m _ _)⟩
 obtain ⟨k, hk, rfl, HS, HB⟩ := hrel
 by_cases hlt : k < l.length
 ·obtain ⟨q, off, x, rfl, hq, hx, hr, g0, g1, g2⟩ := HE.o.dm hlt
  rw [<- HB.o.ce _ hq] at g0 g1 g2
  have HNW : Hid (wr.cell? (zn nb 0) = some (sq s)) := L0 ((HB.o.ce 0 hnl).trans HN.o)
  have HX := L0 hx
  have hi : (k : Int) < l.length := by omega
  clear hx hr
  cases hh : (x.name == s)
  ·have HC := L0 hh
   have HS' : Hid ((l.take (k + 1)).any (fun d : Dm => d.name == s) = false) := L0 (by rw [Y21 HX.o, HS.o, hh]; rfl)
   clear hh
   go_wp2_with (go_at_call 56; (with_reducible refine (Y1j s x _ HNW.o HC.o).mono ?_); rintro e w' ⟨rfl, hw⟩)
   go_roundw
   exact ⟨k + 1, by omega, by go_num, HS', L0 (HB.o.trans (hw.mono HB.o.size))⟩
   simp [intOf]; omega
  have HC := L0 hh
  have HF : Hid (idxN (fun d : Dm => d.name == s) l = k) := L0 (Y16 HX.o HS.o hh)
  clear hh
  go_wp2_with (go_at_call 56; (with_reducible refine (Y1j s x _ HNW.o HC.o).mono ?_); rintro e w' ⟨rfl, hw⟩)
  go_ret
  exact ⟨Z80 HF.o.symm, HB.o.trans (hw.mono HB.o.size)⟩
 go_wp2
 go_ret
 exact ⟨Z80 (Y3o (by have := HS.o; rwa [L0l (by omega)] at this)).symm, HB.o⟩
theorem Y1k (s : Txt) (x : Tb) {A1 A2 : Option Addr} {c1 c2 : Nat} {nb : Nat} (w : World) (hn : w.cell? (zn nb 0) = some (sq s)) {r : Bool} (hr : (x.name == s) = r) :
  Calls Tryz.prog 59 #[.agg #[sq x.name, .int .i64 x.pol, .bool x.comp, .slice A1 x.ins.length c1, .slice A2 x.rules.length c2], .pointer (some (zn nb 0))] w fun e w' => e = .returned (.bool r) /\ Bw w w' := by
 have hlt : nb < w.heap.size := L0d _ _ hn
 obtain ⟨W1, e1, k1, HB⟩ : ∃ W1, w.alloc (.cells #[sq x.name, .int .i64 x.pol, .bool x.comp, .slice A1 x.ins.length c1, .slice A2 x.rules.length c2] 66) = W1 /\ W1.cell? (zn nb 0) = some (sq s) /\ Hid (Bw w W1) := ⟨_, rfl, (L0j _ _ _ (by exact hlt)).trans hn, L0 bA⟩; have k0 := ac0 e1
 clear hn
 cases r
 all_goals
  go_enter Tryz.func59, Tryz.ntmps59
  go_wp2
  go_ret
  exact ⟨rfl, HB.o⟩
theorem Y76 {S : Nat -> Prop} {A : Option Addr} {c nb : Nat} {l : List Tb} (s : Txt) (w : World) (hE : Elems rTb w S A l) (hl : l.length <= 4398046511104) (hn : w.cell? (zn nb 0) = some (sq s)) :
  Calls Tryz.prog 90 #[.slice A l.length c, .func (.func 59) #[] #[.pointer (some (zn nb 0))]] w fun e w' => e = .returned (.int .i64 (idxN (fun d : Tb => d.name == s) l)) /\ Bw w w' := by
 have hnl : nb < w.heap.size := L0d _ _ hn
 have HE := L0 hE
 have HN := L0 hn
 clear hE hn
 go_enter Tryz.func90, Tryz.ntmps90
 go_wp2
 go_loopw [5, 8] (fun _ i wr => ∃ k : Nat, k <= l.length /\ i = .int .i64 k /\ Hid ((l.take k).any (fun d : Tb => d.name == s) = false) /\ Hid (Bw w wr)) (fun _ i _ => l.length - (intOf i).toNat)
 exact ⟨0, L0o _, rfl, L0 (by simp), L0 (L0m _ _)⟩
 obtain ⟨k, hk, rfl, HS, HB⟩ := hrel
 by_cases hlt : k < l.length
 ·obtain ⟨q, off, x, A1, c1, A2, c2, rfl, hq, hx, hr, g0, g1, g2, g3, g4⟩ := HE.o.tb hlt
  rw [<- HB.o.ce _ hq] at g0 g1 g2 g3 g4
  have HNW : Hid (wr.cell? (zn nb 0) = some (sq s)) := L0 ((HB.o.ce 0 hnl).trans HN.o)
  have HX := L0 hx
  have hi : (k : Int) < l.length := by omega
  clear hx hr
  cases hh : (x.name == s)
  ·have HC := L0 hh
   have HS' : Hid ((l.take (k + 1)).any (fun d : Tb => d.name == s) = false) := L0 (by rw [Y21 HX.o, HS.o, hh]; rfl)
   clear hh
   go_wp2_with (go_at_call 59; (with_reducible refine (Y1k s x _ HNW.o HC.o).mono ?_); rintro e w' ⟨rfl, hw⟩)
   go_roundw
   exact ⟨k + 1, by omega, by go_num, HS', L0 (HB.o.trans (hw.mono HB.o.size))⟩
   simp [intOf]; omega
  have HC := L0 hh
  have HF : Hid (idxN (fun d : Tb => d.name == s) l = k) := L0 (Y16 HX.o HS.o hh)
  clear hh
  go_wp2_with (go_at_call 59; (with_reducible refine (Y1k s x _ HNW.o HC.o).mono ?_); rintro e w' ⟨rfl, hw⟩)
  go_ret
  exact ⟨Z80 HF.o.symm, HB.o.trans (hw.mono HB.o.size)⟩
 go_wp2
 go_ret
 exact ⟨Z80 (Y3o (by have := HS.o; rwa [L0l (by omega)] at this)).symm, HB.o⟩
theorem Y7l {w : World} {base : Nat} {S : Nat -> Prop} {ys : List Dm} {n c g i : Nat} (h : OwnS rDm 63 w base S (.slice (some (zn g 0)) n c) ys) (hl : ys.length = n) (hi : i < n) : ∃ z0, w.cell? (zn g (i * 3)) = some z0 /\ ∃ z1, w.cell? (zn g (i * 3 + 1)) = some z1 /\ ∃ z2, w.cell? (zn g (i * 3 + 2)) = some z2 := by
 subst hl
 obtain ⟨cs, hr, hc⟩ := h.elem rfl (L0f hi)
 have hl := rDm.len hr
 have hl' : cs.length = 3 := hl
 match cs, hl' with
 | [c0, c1, c2], _ => exact ⟨_, hc 0 _ rfl, _, hc 1 _ rfl, _, hc 2 _ rfl⟩
theorem Y7m {w : World} {base : Nat} {S : Nat -> Prop} {ys : List Tb} {n c g i : Nat} (h : OwnS rTb 66 w base S (.slice (some (zn g 0)) n c) ys) (hl : ys.length = n) (hi : i < n) : ∃ z0, w.cell? (zn g (i * 5)) = some z0 /\ ∃ z1, w.cell? (zn g (i * 5 + 1)) = some z1 /\ ∃ z2, w.cell? (zn g (i * 5 + 2)) = some z2 /\ ∃ z3, w.cell? (zn g (i * 5 + 3)) = some z3 /\ ∃ z4, w.cell? (zn g (i * 5 + 4)) = some z4 := by
 subst hl
 obtain ⟨cs, hr, hc⟩ := h.elem rfl (L0f hi)
 have hl := rTb.len hr
 have hl' : cs.length = 5 := hl
 match cs, hl' with
 | [c0, c1, c2, c3, c4], _ => exact ⟨_, hc 0 _ rfl, _, hc 1 _ rfl, _, hc 2 _ rfl, _, hc 3 _ rfl, _, hc 4 _ rfl⟩
theorem X4w {S : Nat -> Prop} {base nb : Nat} {v : Value} {l : List Dm} (s : Txt) (w : World) (hown : OwnS rDm 63 w base S v l) (hbase : base <= w.heap.size) (hlen : l.length <= 4398046511104) (hn : w.cell? (zn nb 0) = some (sq s)) (hnb : nb < base) :
  Calls Tryz.prog 54 #[v, .func (.func 56) #[] #[.pointer (some (zn nb 0))]] w fun e' w' => ∃ u, e' = .returned u /\ OwnS rDm 63 w' base S u (l.filter (fun d : Dm => !(d.name == s))) /\ Below base w w' /\ w.grownBy w' v.ownBlock /\ (u.ownBlock = none \/ u.ownBlock = v.ownBlock) := by
 have hnl : nb < w.heap.size := L0d _ _ hn
 have hel := rSl.elems (hown.self.rel (by decide))
 obtain ⟨A, c, rfl, _, _, _, hE⟩ := hel
 have hidx := Y75 (c := c) s w hE hlen hn
 rcases Y0z (fun d : Dm => d.name == s) l with ⟨h1, h2⟩ | ⟨i0, x0, h1, h2, h3, h4⟩
 ·rw [h1] at hidx
  have hfil : l.filter (fun d : Dm => !(d.name == s)) = l := by
   rw [L4b]
   intro d hd
   have := L2m.1 h2 d hd
   simpa using this
  have HI := L0 hidx
  have HO := L0 hown
  clear hidx hE hown hn h1 h2
  go_enter Tryz.func54, Tryz.ntmps54
  go_wp2_with (go_at_call 89; (with_reducible refine HI.o.mono ?_); rintro e w1 ⟨rfl, hb1⟩; have HB1 := L0 hb1; clear hb1)
  go_ret
  exact ⟨_, rfl, by rw [hfil]; exact HO.o.below HB1.o, HB1.o.mono hbase, Z0i HB1.o, .inr rfl⟩
 have hi0 : i0 < l.length := (L0n.1 h2).1
 rcases hown.form with ⟨hv, hl0⟩ | ⟨g, cap, hv, hgb, hgl⟩
 ·rw [hl0] at hi0; simp at hi0
 injection hv with hA _ hc
 subst hA hc
 rw [h1] at hidx
 have hicap : l.length <= c := by
  obtain ⟨_, q, _⟩ := hown
  rcases q.2 with ⟨hq, _⟩ | ⟨_, _, _, hq, _, _, hq', _⟩
  ·cases hq
  cases hq; assumption
 have HI := L0 hidx
 have HO := L0 hown
 have HN := L0 hn
 have HP0 : Hid (l.take i0 = (l.take (i0 + 1)).filter (fun d : Dm => !(d.name == s))) := L0 (by
  rw [L1k, h2, L3b]
  have e1 : (l.take i0).filter (fun d : Dm => !(d.name == s)) = l.take i0 := by
   rw [L4b]
   intro d hd
   have := L2m.1 h4 d hd
   simpa using this
  rw [e1]
  simp [h3])
 clear hidx hE hown hn h1 h2 h3 h4
 go_enter Tryz.func54, Tryz.ntmps54
 have hz0 : ((i0 : Int) == -1) = false := by first | (simp; omega) | simp
 have hz1 : ¬ ((i0 : Int) = -1) := by omega
 go_wp2_with (go_at_call 89; (with_reducible refine HI.o.mono ?_); rintro e w1 ⟨rfl, hb1⟩; have HB1 := L0 hb1; clear hb1)
 go_loopw [5, 6] (fun si sj wr => ∃ (i j : Nat) (ys : List Dm), si = .int .i64 i /\ sj = .int .i64 j /\ i < j /\ j <= l.length /\ Hid (ys.length = l.length) /\ Hid (ys.take i = (l.take j).filter (fun d : Dm => !(d.name == s))) /\ Hid (ys.drop j = l.drop j) /\
  Hid (OwnS rDm 63 wr base S (.slice (some (zn g 0)) l.length c) ys) /\ Hid (w.grownBy wr (some g))) (fun _ sj _ => l.length - (intOf sj).toNat)
 exact ⟨i0, i0 + 1, l, rfl, by go_num, by omega, by omega, L0 rfl, HP0, L0 rfl, L0 (HO.o.below HB1.o), L0 (Z0i HB1.o)⟩
 obtain ⟨i, j, ys, rfl, rfl, hij, hjl, HL, HT, HD, HO2, HG⟩ := hrel
 by_cases hlt : j < l.length
 ·have hjz : (j : Int) < l.length := by omega
  obtain ⟨x, hx⟩ : ∃ x, l[j]? = some x := ⟨_, L0f hlt⟩
  have hy : ys[j]? = some x := by
   have := congrArg (fun z => z[0]?) HD.o
   simp only [L1p, L3x] at this
   rw [this, hx]
  obtain ⟨cs, hrel0, hcell⟩ := OwnS.elem (cap := c) HO2.o (by rw [HL.o]) hy
  have hrelc := L0 hrel0
  obtain ⟨rfl, hr'⟩ := hrel0
  have HC := L0 hcell
  have HX := L0 hx
  clear hcell hx hy
  have g0 : wr.cell? (zn g (j * 3)) = some (sq x.name) := by have := HC.o 0 _ rfl; simpa [rDm] using this
  have g1 : wr.cell? (zn g (j * 3 + 1)) = some (.int .i64 x.lo) := by have := HC.o 1 _ rfl; simpa [rDm] using this
  have g2 : wr.cell? (zn g (j * 3 + 2)) = some (.int .i64 x.hi) := by have := HC.o 2 _ rfl; simpa [rDm] using this
  have HNW : Hid (wr.cell? (zn nb 0) = some (sq s)) := L0 (by
   have := HG.o.block nb hnl (by intro h; injection h with h; omega)
   exact (L1d this).trans HN.o)
  have hgw : g < wr.heap.size := L0d _ _ g0
  obtain ⟨W3, e3, HB3, hw3⟩ : ∃ W3, wr.alloc (.cells #[sq x.name, .int .i64 x.lo, .int .i64 x.hi] 63) = W3 /\ Hid (Bw wr W3) /\ W3.heap.size = wr.heap.size + 1 := ⟨_, rfl, L0 bA, by simp⟩; have j0 := ac0 e3; have j1 := ac1 e3; have j2 := ac2 e3
  clear hw3
  have HN3 : Hid (W3.cell? (zn nb 0) = some (sq s)) := L0 ((HB3.o.ce 0 (L0d _ _ HNW.o)).trans HNW.o)
  cases hh : (x.name == s)
  ·have HH := L0 hh
   have HT' : Hid ((l.take (j + 1)).filter (fun d : Dm => !(d.name == s)) = ys.take i ++ [x]) := L0 (by rw [L1k, HX.o, L3b, HT.o]; simp [hh])
   clear hh
   have HO3 : Hid (∀ w4, Bw W3 w4 -> OwnS rDm 63 w4 base S (.slice (some (zn g 0)) l.length c) ys /\ rDm.rel w4 S [sq x.name, .int .i64 x.lo, .int .i64 x.hi] x /\ w.grownBy w4 (some g)) := L0 fun w4 hb => by
    have hb' := HB3.o.trans (hb.mono HB3.o.size)
    exact ⟨HO2.o.below hb', Rd.below hrelc.out hb', Z0f HG.o (Z0i hb')⟩
   go_wp2_with (go_at_call 56; (with_reducible refine (Y1j s x _ HN3.o HH.o).mono ?_); rintro e w4 ⟨rfl, hb4⟩; have HB4 := L0 hb4; replace j0 := (hb4.ce 0 (L0d _ _ j0)).trans j0; replace j1 := (hb4.ce 1 (L0d _ _ j1)).trans j1; replace j2 := (hb4.ce 2 (L0d _ _ j2)).trans j2; have HQ := L0 (HO3.o w4 hb4); have f0 := HQ.o.1.frozen rfl (i * 3); have f1 := HQ.o.1.frozen rfl (i * 3 + 1); have f2 := HQ.o.1.frozen rfl (i * 3 + 2); obtain ⟨z0, y0, z1, y1, z2, y2⟩ := Y7l HQ.o.1 HL.o (show i < l.length by omega); clear hb4 e3)
   have HR := L0 (HQ.o.1.setRow (i := i) (by rw [HL.o]) (by have := HL.o; omega) HQ.o.2.1)
   go_roundw
   exact ⟨i + 1, j + 1, ys.set i x, by go_num, by go_num, by omega, hlt, L0 (by rw [L3s]; exact HL.o), L0 (by rw [HT'.o, L1k, L2r (by have := HL.o; omega), jB (L0g _)]; rfl), L0 (by rw [jA (by omega), <- L3n, HD.o, L3n]), L0 HR.o.1, L0 (Z0f HQ.o.2.2 (Z0b [sq x.name, .int .i64 x.lo, .int .i64 x.hi] (i * 3)))⟩
   simp [intOf]; omega
  have HH := L0 hh
  have HT' : Hid ((l.take (j + 1)).filter (fun d : Dm => !(d.name == s)) = ys.take i) := L0 (by rw [L1k, HX.o, L3b, HT.o]; simp [hh])
  clear hh
  go_wp2_with (go_at_call 56; (with_reducible refine (Y1j s x _ HN3.o HH.o).mono ?_); rintro e w4 ⟨rfl, hb4⟩; have HB4 := L0 (HB3.o.trans (hb4.mono HB3.o.size)); clear hb4)
  go_roundw
  exact ⟨i, j + 1, ys, rfl, by go_num, by omega, hlt, HL, L0 HT'.o.symm, L0 (by rw [<- L3n, HD.o, L3n]), L0 (HO2.o.below HB4.o), L0 (Z0f HG.o (Z0i HB4.o))⟩
  simp [intOf]; omega
 have hjz : ¬ ((j : Int) < l.length) := by omega
 have hic : i < l.length := by omega
 obtain ⟨vs, hvs, hcl0⟩ := Z7i (P := Tryz.prog) (c := c - i) Y8u HO2.o (by rw [HL.o]) (i := i) (by rw [HL.o]; exact hic) Tryz.zeroValue63 rfl (by decide)
 have HCUT := L0 (HO2.o.cutRow (by rw [HL.o]) (i := i) (by rw [HL.o]; omega) hvs)
 have HFIN : Hid (ys.take i = l.filter (fun d : Dm => !(d.name == s))) := L0 (by rw [HT.o, L0l (by omega)])
 rw [HL.o] at hcl0
 have hcl : ∀ ty, (Builtin.clear_ #[35] ty #[.slice (some (zn g (i * 3))) (l.length - i) (c - i)]).run Tryz.prog wr = .ok (.tuple #[]) (wr.setCells g (i * 3) vs) := hcl0
 have HGF : Hid (w.grownBy (wr.setCells g (i * 3) vs) (some g)) := L0 (Z0f HG.o (Z0b vs _))
 have hiz : (i : Int) <= l.length := by omega
 have hicc : i <= c := by omega
 clear hvs hcl0
 go_wp2
 go_ret
 refine ⟨_, rfl, by rw [<- HFIN.o]; exact HCUT.o.1, (L0m base w).grown HGF.o hbase fun q hq => by injection hq with hq; omega, HGF.o, .inr rfl⟩
theorem X4x {S : Nat -> Prop} {base nb : Nat} {v : Value} {l : List Tb} (s : Txt) (w : World) (hown : OwnS rTb 66 w base S v l) (hbase : base <= w.heap.size) (hlen : l.length <= 4398046511104) (hn : w.cell? (zn nb 0) = some (sq s)) (hnb : nb < base) :
  Calls Tryz.prog 57 #[v, .func (.func 59) #[] #[.pointer (some (zn nb 0))]] w fun e' w' => ∃ u, e' = .returned u /\ OwnS rTb 66 w' base S u (l.filter (fun d : Tb => !(d.name == s))) /\ Below base w w' /\ w.grownBy w' v.ownBlock /\ (u.ownBlock = none \/ u.ownBlock = v.ownBlock) := by
 have hnl : nb < w.heap.size := L0d _ _ hn
 have hel := rSl.elems (hown.self.rel (by decide))
 obtain ⟨A, c, rfl, _, _, _, hE⟩ := hel
 have hidx := Y76 (c := c) s w hE hlen hn
 rcases Y0z (fun d : Tb => d.name == s) l with ⟨h1, h2⟩ | ⟨i0, x0, h1, h2, h3, h4⟩
 ·rw [h1] at hidx
  have hfil : l.filter (fun d : Tb => !(d.name == s)) = l := by
   rw [L4b]
   intro d hd
   have := L2m.1 h2 d hd
   simpa using this
  have HI := L0 hidx
  have HO := L0 hown
  clear hidx hE hown hn h1 h2
  go_enter Tryz.func57, Tryz.ntmps57
  go_wp2_with (go_at_call 90; (with_reducible refine HI.o.mono ?_); rintro e w1 ⟨rfl, hb1⟩; have HB1 := L0 hb1; clear hb1)
  go_ret
  exact ⟨_, rfl, by rw [hfil]; exact HO.o.below HB1.o, HB1.o.mono hbase, Z0i HB1.o, .inr rfl⟩
 have hi0 : i0 < l.length := (L0n.1 h2).1
 rcases hown.form with ⟨hv, hl0⟩ | ⟨g, cap, hv, hgb, hgl⟩
 ·rw [hl0] at hi0; simp at hi0
 injection hv with hA _ hc
 subst hA hc
 rw [h1] at hidx
 have hicap : l.length <= c := by
  obtain ⟨_, q, _⟩ := hown
  rcases q.2 with ⟨hq, _⟩ | ⟨_, _, _, hq, _, _, hq', _⟩
  ·cases hq
  cases hq; assumption
 have HI := L0 hidx
 have HO := L0 hown
 have HN := L0 hn
 have HP0 : Hid (l.take i0 = (l.take (i0 + 1)).filter (fun d : Tb => !(d.name == s))) := L0 (by
  rw [L1k, h2, L3b]
  have e1 : (l.take i0).filter (fun d : Tb => !(d.name == s)) = l.take i0 := by
   rw [L4b]
   intro d hd
   have := L2m.1 h4 d hd
   simpa using this
  rw [e1]
  simp [h3])
 clear hidx hE hown hn h1 h2 h3 h4
 go_enter Tryz.func57, Tryz.ntmps57
 have hz0 : ((i0 : Int) == -1) = false := by first | (simp; omega) | simp
 have hz1 : ¬ ((i0 : Int) = -1) := by omega
 go_wp2_with (go_at_call 90; (with_reducible refine HI.o.mono ?_); rintro e w1 ⟨rfl, hb1⟩; have HB1 := L0 hb1; clear hb1)
 go_loopw [5, 6] (fun si sj wr => ∃ (i j : Nat) (ys : List Tb), si = .int .i64 i /\ sj = .int .i64 j /\ i < j /\ j <= l.length /\ Hid (ys.length = l.length) /\ Hid (ys.take i = (l.take j).filter (fun d : Tb => !(d.name == s))) /\ Hid (ys.drop j = l.drop j) /\
  Hid (OwnS rTb 66 wr base S (.slice (some (zn g 0)) l.length c) ys) /\ Hid (w.grownBy wr (some g))) (fun _ sj _ => l.length - (intOf sj).toNat)
 exact ⟨i0, i0 + 1, l, rfl, by go_num, by omega, by omega, L0 rfl, HP0, L0 rfl, L0 (HO.o.below HB1.o), L0 (Z0i HB1.o)⟩
 obtain ⟨i, j, ys, rfl, rfl, hij, hjl, HL, HT, HD, HO2, HG⟩ := hrel
 by_cases hlt : j < l.length
 ·have hjz : (j : Int) < l.length := by omega
  obtain ⟨x, hx⟩ : ∃ x, l[j]? = some x := ⟨_, L0f hlt⟩
  have hy : ys[j]? = some x := by
   have := congrArg (fun z => z[0]?) HD.o
   simp only [L1p, L3x] at this
   rw [this, hx]
  obtain ⟨cs, hrel0, hcell⟩ := OwnS.elem (cap := c) HO2.o (by rw [HL.o]) hy
  have hrelc := L0 hrel0
  obtain ⟨v1, v2, rfl, hr1, hr2, hr3, hr4⟩ := hrel0
  obtain ⟨A1, c1, rfl, _⟩ := rSl.elems hr3
  obtain ⟨A2, c2, rfl, _⟩ := rSl.elems hr4
  have HC := L0 hcell
  have HX := L0 hx
  clear hcell hx hy
  have g0 : wr.cell? (zn g (j * 5)) = some (sq x.name) := by have := HC.o 0 _ rfl; simpa [rTb] using this
  have g1 : wr.cell? (zn g (j * 5 + 1)) = some (.int .i64 x.pol) := by have := HC.o 1 _ rfl; simpa [rTb] using this
  have g2 : wr.cell? (zn g (j * 5 + 2)) = some (.bool x.comp) := by have := HC.o 2 _ rfl; simpa [rTb] using this
  have g3 : wr.cell? (zn g (j * 5 + 3)) = some (.slice A1 x.ins.length c1) := by have := HC.o 3 _ rfl; simpa [rTb] using this
  have g4 : wr.cell? (zn g (j * 5 + 4)) = some (.slice A2 x.rules.length c2) := by have := HC.o 4 _ rfl; simpa [rTb] using this
  have HNW : Hid (wr.cell? (zn nb 0) = some (sq s)) := L0 (by
   have := HG.o.block nb hnl (by intro h; injection h with h; omega)
   exact (L1d this).trans HN.o)
  have hgw : g < wr.heap.size := L0d _ _ g0
  obtain ⟨W3, e3, HB3, hw3⟩ : ∃ W3, wr.alloc (.cells #[sq x.name, .int .i64 x.pol, .bool x.comp, .slice A1 x.ins.length c1, .slice A2 x.rules.length c2] 66) = W3 /\ Hid (Bw wr W3) /\ W3.heap.size = wr.heap.size + 1 := ⟨_, rfl, L0 bA, by simp⟩; have j0 := ac0 e3; have j1 := ac1 e3; have j2 := ac2 e3; have j3 := ac3 e3; have j4 := ac4 e3
  clear hw3
  have HN3 : Hid (W3.cell? (zn nb 0) = some (sq s)) := L0 ((HB3.o.ce 0 (L0d _ _ HNW.o)).trans HNW.o)
  cases hh : (x.name == s)
  ·have HH := L0 hh
   have HT' : Hid ((l.take (j + 1)).filter (fun d : Tb => !(d.name == s)) = ys.take i ++ [x]) := L0 (by rw [L1k, HX.o, L3b, HT.o]; simp [hh])
   clear hh
   have HO3 : Hid (∀ w4, Bw W3 w4 -> OwnS rTb 66 w4 base S (.slice (some (zn g 0)) l.length c) ys /\ rTb.rel w4 S [sq x.name, .int .i64 x.pol, .bool x.comp, .slice A1 x.ins.length c1, .slice A2 x.rules.length c2] x /\ w.grownBy w4 (some g)) := L0 fun w4 hb => by
    have hb' := HB3.o.trans (hb.mono HB3.o.size)
    exact ⟨HO2.o.below hb', Rd.below hrelc.out hb', Z0f HG.o (Z0i hb')⟩
   go_wp2_with (go_at_call 59; (with_reducible refine (Y1k s x _ HN3.o HH.o).mono ?_); rintro e w4 ⟨rfl, hb4⟩; have HB4 := L0 hb4; replace j0 := (hb4.ce 0 (L0d _ _ j0)).trans j0; replace j1 := (hb4.ce 1 (L0d _ _ j1)).trans j1; replace j2 := (hb4.ce 2 (L0d _ _ j2)).trans j2; replace j3 := (hb4.ce 3 (L0d _ _ j3)).trans j3; replace j4 := (hb4.ce 4 (L0d _ _ j4)).trans j4; have HQ := L0 (HO3.o w4 hb4); have f0 := HQ.o.1.frozen rfl (i * 5); have f1 := HQ.o.1.frozen rfl (i * 5 + 1); have f2 := HQ.o.1.frozen rfl (i * 5 + 2); have f3 := HQ.o.1.frozen rfl (i * 5 + 3); have f4 := HQ.o.1.frozen rfl (i * 5 + 4); obtain ⟨z0, y0, z1, y1, z2, y2, z3, y3, z4, y4⟩ := Y7m HQ.o.1 HL.o (show i < l.length by omega); clear hb4 e3)
   have HR := L0 (HQ.o.1.setRow (i := i) (by rw [HL.o]) (by have := HL.o; omega) HQ.o.2.1)
   go_roundw
   exact ⟨i + 1, j + 1, ys.set i x, by go_num, by go_num, by omega, hlt, L0 (by rw [L3s]; exact HL.o), L0 (by rw [HT'.o, L1k, L2r (by have := HL.o; omega), jB (L0g _)]; rfl), L0 (by rw [jA (by omega), <- L3n, HD.o, L3n]), L0 HR.o.1, L0 (Z0f HQ.o.2.2 (Z0b [sq x.name, .int .i64 x.pol, .bool x.comp, .slice A1 x.ins.length c1, .slice A2 x.rules.length c2] (i * 5)))⟩
   simp [intOf]; omega
  have HH := L0 hh
  have HT' : Hid ((l.take (j + 1)).filter (fun d : Tb => !(d.name == s)) = ys.take i) := L0 (by rw [L1k, HX.o, L3b, HT.o]; simp [hh])
  clear hh
  go_wp2_with (go_at_call 59; (with_reducible refine (Y1k s x _ HN3.o HH.o).mono ?_); rintro e w4 ⟨rfl, hb4⟩; have HB4 := L0 (HB3.o.trans (hb4.mono HB3.o.size)); clear hb4)
  go_roundw
  exact ⟨i, j + 1, ys, rfl, by go_num, by omega, hlt, HL, L0 HT'.o.symm, L0 (by rw [<- L3n, HD.o, L3n]), L0 (HO2.o.below HB4.o), L0 (Z0f HG.o (Z0i HB4.o))⟩
  simp [intOf]; omega
 have hjz : ¬ ((j : Int) < l.length) := by omega
 have hic : i < l.length := by omega
 obtain ⟨vs, hvs, hcl0⟩ := Z7i (P := Tryz.prog) (c := c - i) Y55 HO2.o (by rw [HL.o]) (i := i) (by rw [HL.o]; exact hic) Tryz.zeroValue66 rfl (by decide)
 have HCUT := L0 (HO2.o.cutRow (by rw [HL.o]) (i := i) (by rw [HL.o]; omega) hvs)
 have HFIN : Hid (ys.take i = l.filter (fun d : Tb => !(d.name == s))) := L0 (by rw [HT.o, L0l (by omega)])
 rw [HL.o] at hcl0
 have hcl : ∀ ty, (Builtin.clear_ #[36] ty #[.slice (some (zn g (i * 5))) (l.length - i) (c - i)]).run Tryz.prog wr = .ok (.tuple #[]) (wr.setCells g (i * 5) vs) := hcl0
 have HGF : Hid (w.grownBy (wr.setCells g (i * 5) vs) (some g)) := L0 (Z0f HG.o (Z0b vs _))
 have hiz : (i : Int) <= l.length := by omega
 have hicc : i <= c := by omega
 clear hvs hcl0
 go_wp2
 go_ret
 refine ⟨_, rfl, by rw [<- HFIN.o]; exact HCUT.o.1, (L0m base w).grown HGF.o hbase fun q hq => by injection hq with hq; omega, HGF.o, .inr rfl⟩
