import Derived.Test.YtlopccnehgolnacGreatDoorGK11
import Derived.Test.YtlopccnehgolnacGreatDoorGK8
import Derived.Test.YtlopccnehgolnacGreatDoorGK22
import Derived.Test.YtlopccnehgolnacGreatDoorSpanD
import Derived.Test.YtlopccnehgolnacGreatDoorGK0
import Derived.Deep.RegionHeld3
import Derived.Deep.RegionLaw
import Derived.BigRegion
import Derived.Test.YtlopccnehgolnacGreatDoorSort
import Derived.StillTailTactics
import Derived.WalkSpells
namespace Go.Proofs.YtlopccnehgolnacGreatDoor
open Go.RowKit Rb
set_option maxRecDepth 100000
set_option maxHeartbeats 400000
theorem Y3j : ElemOf Tryz.prog (rSl rRg) 163 70 := .mk' Tryz.underlying163 (z := nl) (k := 1) (b := 24) (by kernel_rfl) rfl rfl rfl (by decide) (by decide)
theorem Y3i : ElemOf Tryz.prog rBx 182 163 := .mk' Tryz.underlying182 (z := nl) (k := 1) (b := 24) (by kernel_rfl) rfl rfl rfl (by decide) (by decide)
theorem X3f {w : World} {base n : Nat} {S0 : Nat -> Prop} {v : Value} (hb : base <= n) (hlt : ∀ k, v.ownBlock = some k -> k < n) : ∀ b, Up (fun _ => False) n b -> b < w.heap.size -> Up S0 base b /\ v.ownBlock ≠ some b := by
 intro b hb' _
 rcases hb' with h | h
 ·exact h.elim
 exact ⟨.inr (by omega), fun e => by have := hlt b e; omega⟩
theorem Own.empty {α : Type} (R : Rd α) (e : TypeId) (w : World) {n : Nat} (S0 : Nat -> Prop) (hn : w.heap.size = n) : Own R e (w.alloc (.cells #[] e)) n S0 (.slice (some (zn n 0)) 0 0) [] := by
 subst hn
 exact ⟨fun _ => False, ⟨[], ⟨by simp, .inr ⟨w.heap.size, 0, #[], rfl, L0g _, heap_alloc_new w _, L0g _, by decide, by simp, by simp⟩⟩, fun _ _ h => h, fun _ => by simp, fun i x h => by simp at h⟩, fun _ h => h.elim⟩
def Z48 : Bx -> Bx -> Option Bx
 | s :: a, t :: b => if (Z09 s t).length = 0 then none else (Z48 a b).map (Z09 s t :: ·)
 | _, _ => some []
def Z13 (a b : Bx) : Option Bx := if Z06 a (a.length : Int) && Z06 b (a.length : Int) then Z48 a b else none
def Z3a (o : Option Bx) : Bx := match o with | some x => x | none => []
def Z1i (o : Option Bx) : Bool := match o with | some _ => true | none => false
theorem Y7u {S T : Nat -> Prop} {v u : Value} {a b : Bx} (w : World) (hl : rBx.rel w S [v] a) (hm : rBx.rel w T [u] b) :
  Calls Tryz.prog 120 #[v, u] w fun e w' => ∃ z, e = .returned (.tuple #[z, .bool (Z1i (Z13 a b))]) /\ Own (rSl rRg) 70 w' w.heap.size (fun _ => False) z (Z3a (Z13 a b)) /\ Bw w w' := by
 have hal := rSl.lenle hl (by decide)
 have HG := L0 (Z3m (a.length : Int) w hl)
 have HG2 := L0 fun w' (hb : Bw w w') => Z3m (a.length : Int) w' (Rd.below hm hb)
 obtain ⟨A, c, rfl, _, _, hbb, hE⟩ := rSl.elems hl
 obtain ⟨B, d, rfl, _, _, _, hF⟩ := rSl.elems hm
 have hbb' : a.length <= 5864062014805 := by simp only [rSl] at hbb; omega
 clear hl hm hbb
 cases hg : Z06 a (a.length : Int)
 ·rw [hg] at HG
  have HF : Hid (Z13 a b = none) := L0 (by unfold Z13; rw [hg]; rfl)
  clear hg
  go_enter Tryz.func120, Tryz.ntmps120
  go_wp2_with (go_at_call 118; ((with_reducible refine HG.o.mono ?_); rintro e w1 ⟨rfl, hb1⟩))
  go_ret2
  exact ⟨_, by rw [HF.o]; rfl, by rw [HF.o]; exact Own.nil _ _ _ _ _, hb1⟩
 rw [hg] at HG
 cases hg2 : Z06 b (a.length : Int)
 ·rw [hg2] at HG2
  have HF : Hid (Z13 a b = none) := L0 (by unfold Z13; rw [hg, hg2]; rfl)
  clear hg hg2
  go_enter Tryz.func120, Tryz.ntmps120
  go_wp2_with (first | (go_at_call 118; ((with_reducible refine HG.o.mono ?_); rintro e w1 ⟨rfl, hb1⟩)) | (go_at_call 118; ((with_reducible refine (HG2.o _ hb1).mono ?_); rintro e w2 ⟨rfl, hb2⟩)))
  go_ret2
  exact ⟨_, by rw [HF.o]; rfl, by rw [HF.o]; exact Own.nil _ _ _ _ _, hb1.trans (hb2.mono hb1.size)⟩
 rw [hg2] at HG2
 obtain ⟨ga, _, ha3⟩ := goodBx_iff.1 hg
 obtain ⟨gb, hab, _⟩ := goodBx_iff.1 hg2
 have HGS := L0 (And.intro ga gb)
 have HF : Hid (Z13 a b = (Z48 (a.drop 0) (b.drop 0)).map ((a.take 0) ++ ·)) := L0 (by unfold Z13; rw [hg, hg2]; simp)
 clear hg hg2 ga gb
 have HAB := L0 hab
 clear hab
 go_enter Tryz.func120, Tryz.ntmps120
 go_wp2_with (first | (go_at_call 118; ((with_reducible refine HG.o.mono ?_); rintro e w1 ⟨rfl, hb1⟩)) | (go_at_call 118; ((with_reducible refine (HG2.o _ hb1).mono ?_); rintro e w2 ⟨rfl, hb2⟩)))
 have hbx := hb1.trans (hb2.mono hb1.size)
 go_loopw [6, 23] (fun o i wr => ∃ (k : Nat) (out : Bx), k <= a.length /\ i = .int .i64 k /\ out.length = k /\ Own (rSl rRg) 70 wr w.heap.size (fun _ => False) o out /\ Hid (Z13 a b = (Z48 (a.drop k) (b.drop k)).map (out ++ ·)) /\ Bw w wr) (fun _ i _ => a.length - (intOf i).toNat)
 exact ⟨0, [], L0o _, rfl, rfl, Own.nil _ _ _ _ _, HF, hbx⟩
 obtain ⟨k, out, hk, rfl, hol, hown, HK, hb⟩ := hrel
 by_cases hlt : k < a.length
 ·have hltb : k < b.length := by have := HAB.o; omega
  obtain ⟨p, off, v, s, rfl, _, hp, hx, hs, h1⟩ := hE.sl hlt
  obtain ⟨q, off', v', t, rfl, _, hq, hx', hs', h2⟩ := hF.sl hltb
  rw [<- hb.ce _ hp] at h1
  rw [<- hb.ce _ hq] at h2
  have hik : (k : Int) < a.length := by omega
  have hik2 : (k : Int) < b.length := by omega
  have hC := Z8s wr.drew (Rd.drew (Rd.below hs hb)) (Rd.drew (Rd.below hs' hb)) (HGS.o.1 s (L0z hx)).2 (HGS.o.2 t (L0z hx')).2
  have HC := L0 hC
  obtain ⟨A2, c2, rfl, _⟩ := rSl.elems hs
  obtain ⟨A3, c3, rfl, _⟩ := rSl.elems hs'
  have HKn : Hid (Z13 a b = if (Z09 s t).length = 0 then none else (Z48 (a.drop (k + 1)) (b.drop (k + 1))).map ((out ++ [Z09 s t]) ++ ·)) := L0 (by
   rw [HK.o, Z0p hx, Z0p hx', Z48]
   split
   ·rfl
   cases Z48 (a.drop (k + 1)) (b.drop (k + 1)) <;> simp)
  clear hx hx' hs hs' hC HK hE hF
  generalize Z09 s t = bs at *
  go_wp2
  go_still_tail 8, (by kernel_rfl)
  change wpList _ _ _ _ _ wr.drew
  have HLT := L0 hown.lt
  have hownd := hown.drew
  have hbd : Bw w wr.drew := Z0h hb 1
  have hsz : wr.drew.heap.size = wr.heap.size := rfl
  generalize wr.drew = wd at *
  by_cases hz : bs.length = 0
  ·have HFN : Hid (Z13 a b = none) := L0 (by rw [HKn.o, if_pos hz])
   go_wp2_with (go_at_call 144; ((with_reducible refine HC.o.mono ?_); rintro e w3 ⟨z3, rfl, hown3, hb3⟩; obtain ⟨A4, c4, rfl⟩ := hown3.value))
   go_ret2
   exact ⟨_, by rw [HFN.o]; rfl, by rw [HFN.o]; exact Own.nil _ _ _ _ _, hbd.trans (hb3.mono hbd.size)⟩
  have HFN : Hid (Z13 a b = (Z48 (a.drop (k + 1)) (b.drop (k + 1))).map ((out ++ [bs]) ++ ·)) := L0 (by rw [HKn.o, if_neg hz])
  have hz2 : ((bs.length : Int) == 0) = false := by rw [beq_eq_false_iff_ne]; omega
  clear hz
  go_wp2_with (first | (go_at_call 144; ((with_reducible refine HC.o.mono ?_); rintro e w3 ⟨z3, rfl, hown3, hb3⟩; obtain ⟨A4, c4, rfl⟩ := hown3.value; have hr3 := hown3.rel (by decide); have hown2 := hownd.below hb3)) | (at_builtin; refine Z0a (R := rSl rRg) (x := bs) Y3j rfl (.tmp 38) (.tmp 40) rfl rfl hown2 [_] rfl rfl (Up (fun _ => False) wd.heap.size) hr3 (X3f hbd.size (fun k hk => by rw [hsz]; exact (HLT.o k hk).2)) ?_ (L0h hbd.size hb3.size) ?_; (simp only [rSl]; omega); intro v9 w9 hown9 hb9 _ _))
  go_roundw
  exact ⟨k + 1, out ++ [bs], by omega, by go_num, by simp [hol], hown9, HFN, (hbd.trans (hb3.mono hbd.size)).trans hb9⟩
  simp [intOf]; omega
 obtain ⟨z1, z2, rfl⟩ := hown.value
 have HFN : Hid (Z13 a b = some out) := L0 (by rw [HK.o, L0u (by omega)]; simp [Z48])
 go_wp2
 go_ret2
 exact ⟨_, by rw [HFN.o]; rfl, by rw [HFN.o]; exact hown, hb⟩
