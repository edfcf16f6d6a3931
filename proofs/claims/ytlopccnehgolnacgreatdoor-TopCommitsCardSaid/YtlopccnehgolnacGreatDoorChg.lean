import Derived.Test.YtlopccnehgolnacGreatDoorGCommits44
import Derived.Test.YtlopccnehgolnacGreatDoorGCommits43
namespace Go.Proofs.YtlopccnehgolnacGreatDoor
open Go.RowKit Rb
open Go.Lib renaming hid -> hI9
open Go.World renaming cell?_alloc_new -> cN, block_lt_of_cell? -> jM
open Nat renaming lt_of_lt_of_le -> nL, le_trans -> nT, le_refl -> nR, le_of_lt -> jJ, zero_le -> jK
open List renaming take_of_length_le -> tL, length_append -> lA, flatMap_cons -> jB, flatMap_nil -> jC, foldl_append -> jD, length_map -> jE, length_nil -> jF, map_append -> jG, take_succ_cons -> jH, take_zero -> jI
open Go.RowKit.Below renaming refl -> jA
open Rd renaming below -> jL
set_option maxRecDepth 100000
set_option maxHeartbeats 6400000
def Z0q (b : Bk) : List Txt := b.doms.map (·.name) ++ b.tabs.map (·.name)
def Z1a (a b : Bk) (o : List Txt) (s : Txt) : List Txt := if Z2w a s == Z2w b s then o else addN o s
def Z3e (a b : Bk) : List Txt := (Z0q a ++ Z0q b).foldl (Z1a a b) []
def Nw (n : Nat) (w : World) : Nat -> Prop := fun q => n <= q /\ q < w.heap.size
theorem Nw.lt {n : Nat} {w : World} {q : Nat} (h : Nw n w q) : q < w.heap.size := h.2
theorem Z2c {α : Type} {R : Rd α} {n : Nat} {w w' : World} {cs : List Value} {x : α} (h : R.rel w (Nw n w) cs x) (hb : Below w.heap.size w w') : R.rel w' (Nw n w') cs x :=
 R.mono (jL h hb) fun _ hq _ => ⟨hq.1, nL hq.2 hb.size⟩
theorem Y6o {α : Type} {R : Rd α} {n : Nat} {w w' : World} {cs : List Value} {x : α} (h : R.rel w' (Up (Nw n w) w.heap.size) cs x) (hn : n <= w.heap.size) : R.rel w' (Nw n w') cs x :=
 R.mono h fun _ hq hl => ⟨hq.elim (fun h => h.1) (nT hn), hl⟩
theorem Z08 (l : List Txt) (s : Txt) : (addN l s).length <= l.length + 1 := by
 unfold addN
 have := Y6q l s
 split
 ·omega
 ·simp only [lA, List.length_take, List.length_drop, List.length_cons, jF]
  omega
theorem Y2i {S S' : Nat -> Prop} {cs ds : List Value} {a b : Bk} (w : World) (h : rBk.rel w S cs a) (h' : rBk.rel w S' ds b) (hw : LibW w) (hp : PolW w) (hlen : (Z0q a).length + (Z0q b).length < 1000000000000) :
  Calls Tryz.prog 62 #[.agg cs.toArray, .agg ds.toArray] w fun e w' => ∃ u, e = .returned u /\ (rSl rStr).rel w' (Nw w.heap.size w') [u] (Z3e a b) /\ Below w.heap.size w w' := by
 have HL0 := hI9 h
 have HL0' := hI9 h'
 have HLEN := hI9 hlen
 obtain ⟨v, u, rfl, ha, hi⟩ := h
 obtain ⟨v', u', rfl, ha', hi'⟩ := h'
 obtain ⟨A, c, rfl, _, _, hby, hE⟩ := rSl.elems ha
 obtain ⟨B, d, rfl, _, _, hby2, hI⟩ := rSl.elems hi
 obtain ⟨A', c', rfl, _, _, hby3, hE'⟩ := rSl.elems ha'
 obtain ⟨B', d', rfl, _, _, hby4, hI'⟩ := rSl.elems hi'
 have hln : a.doms.length <= 4398046511104 := by simp only [rDm] at hby; omega
 have hlm : a.tabs.length <= 1759218604441 := by simp only [rTb] at hby2; omega
 have hln' : b.doms.length <= 4398046511104 := by simp only [rDm] at hby3; omega
 have hlm' : b.tabs.length <= 1759218604441 := by simp only [rTb] at hby4; omega
 obtain ⟨X, e1, HB1, p0, p1, q0, q1⟩ : ∃ X, (w.alloc (.cells #[.slice A a.doms.length c, .slice B a.tabs.length d] 38)).alloc (.cells #[.slice A' b.doms.length c', .slice B' b.tabs.length d'] 38) = X /\ Hid (Below w.heap.size w X) /\
   X.cell? ⟨w.heap.size, 0, none⟩ = some (.slice A a.doms.length c) /\ X.cell? ⟨w.heap.size, 1, none⟩ = some (.slice B a.tabs.length d) /\ X.cell? ⟨w.heap.size + 1, 0, none⟩ = some (.slice A' b.doms.length c') /\ X.cell? ⟨w.heap.size + 1, 1, none⟩ = some (.slice B' b.tabs.length d') := by
  have z1 : (w.alloc (.cells #[.slice A a.doms.length c, .slice B a.tabs.length d] 38)).heap.size = w.heap.size + 1 := by simp
  refine ⟨_, rfl, hI9 (bA.alloc (by simp) _), ?_, ?_, ?_, ?_⟩
  all_goals first
   | exact (World.cell?_alloc_lt _ _ _ (by simp)).trans (cN _ _ _ _)
   | (rw [<- z1]; exact cN _ _ _ _)
 have HE := hI9 (hE.keep (.of_below HB1.out))
 have HE' := hI9 (hE'.keep (.of_below HB1.out))
 have HI := hI9 (hI.keep (.of_below HB1.out))
 have HI' := hI9 (hI'.keep (.of_below HB1.out))
 have HW := hI9 fun w' (hb : Below w.heap.size w w') => hw.below hb
 have HP := hI9 fun w' (hb : Below w.heap.size w w') => hp.below hb
 have hz0 : w.heap.size < X.heap.size := jM _ _ p0
 have hz1 : w.heap.size + 1 < X.heap.size := jM _ _ q0
 have HZ := hI9 (And.intro hz0 hz1)
 have HOLD : Hid (∀ wr, Below X.heap.size X wr -> wr.cell? ⟨w.heap.size, 0, none⟩ = some (.slice A a.doms.length c) /\ wr.cell? ⟨w.heap.size, 1, none⟩ = some (.slice B a.tabs.length d) /\ wr.cell? ⟨w.heap.size + 1, 0, none⟩ = some (.slice A' b.doms.length c') /\ wr.cell? ⟨w.heap.size + 1, 1, none⟩ = some (.slice B' b.tabs.length d')) := hI9 fun wr hb =>
  ⟨(hb.ce 0 hz0).trans p0, (hb.ce 1 hz0).trans p1, (hb.ce 0 hz1).trans q0, (hb.ce 1 hz1).trans q1⟩
 have HN0 : Hid ((rSl rStr).rel X (Nw w.heap.size X) [.slice none 0 0] []) := hI9 ⟨none, 0, rfl, nR _, by decide, by simp, fun i x hx => by simp at hx⟩
 clear ha hi ha' hi' hE hE' hI hI' hby hby2 hby3 hby4 hz0 hz1 hw hp hlen
 have hx0 : ∀ w : World, (Instr.index 118 (.agg #[.slice A a.doms.length c, .slice B a.tabs.length d, .slice A' b.doms.length c', .slice B' b.tabs.length d']) (.int .i64 0)).run Tryz.prog w = .ok (.agg #[.slice A a.doms.length c, .slice B a.tabs.length d]) w := fun _ => by kernel_rfl
 have hx1 : ∀ w : World, (Instr.index 118 (.agg #[.slice A a.doms.length c, .slice B a.tabs.length d, .slice A' b.doms.length c', .slice B' b.tabs.length d']) (.int .i64 1)).run Tryz.prog w = .ok (.agg #[.slice A' b.doms.length c', .slice B' b.tabs.length d']) w := fun _ => by kernel_rfl
 go_enter Tryz.func62, Tryz.ntmps62
 go_wp2
 clear e1 p0 p1 q0 q1
 go_loopw [5, 15] (fun u si wr => ∃ (k : Nat) (uv : Value) (out : List Txt), u = uv /\ (k = 0 /\ si = .int .i64 0 \/ k = 1 /\ si = .int .i64 1 \/ k = 2 /\ si = .int .i64 2) /\ Hid (Below X.heap.size X wr) /\ Hid ((rSl rStr).rel wr (Nw w.heap.size wr) [uv] out) /\ Hid (out = (([a, b].take k).flatMap Z0q).foldl (Z1a a b) []) /\ Hid (out.length <= (([a, b].take k).flatMap Z0q).length)) (fun _ si _ => 2 - (intOf si).toNat)
 case atStart => exact ⟨0, _, _, rfl, .inl ⟨rfl, rfl⟩, hI9 (jA _ _), HN0, hI9 rfl, hI9 (jK _)⟩
 case round =>
  clear HN0
  obtain ⟨k, uv, out, rfl, hk3, HB, HU0, HO0, HL0o⟩ := hrel
  obtain ⟨wo, hwo⟩ : ∃ x, x = wr := ⟨_, rfl⟩
  subst hwo
  rcases hk3 with ⟨rfl, rfl⟩ | ⟨rfl, rfl⟩ | ⟨rfl, rfl⟩
  ·skip
   obtain ⟨W7, e7, HB7, HBr, HR1⟩ : ∃ W7, wo.alloc (.cells #[.slice A a.doms.length c, .slice B a.tabs.length d] 38) = W7 /\ Hid (Below X.heap.size X W7) /\ Hid (Below wo.heap.size wo W7) /\ Hid (W7.cell? ⟨wo.heap.size, 1, none⟩ = some (.slice B a.tabs.length d) /\ wo.heap.size < W7.heap.size) := ⟨_, rfl, hI9 (HB.out.alloc HB.out.size _), hI9 bA, hI9 ⟨cN _ _ _ _, by simp⟩⟩; have r0 := ac0 e7
   have HU := hI9 (Z2c HU0.out HBr.out)
   have HBS : Hid (Below W7.heap.size W7 W7) := hI9 (jA _ _)
   have HLB : Hid (out.length + a.doms.length + a.tabs.length < 1000000000000) := hI9 (by have := HL0o.out; have := HLEN.out; simp only [Z0q, lA, jE, jC, jI, jF] at *; omega)
   go_wp2
   clear r0 e7
   go_loopw [5, 21] (fun u si wi => ∃ (j : Nat) (uv : Value) (o2 : List Txt), u = uv /\ si = .int .i64 j /\ j <= a.doms.length /\ Hid (Below W7.heap.size W7 wi) /\ Hid ((rSl rStr).rel wi (Nw w.heap.size wi) [uv] o2) /\ Hid (o2 = ((a.doms.take j).map (·.name)).foldl (Z1a a b) out) /\ Hid (o2.length <= out.length + j)) (fun _ si _ => a.doms.length - (intOf si).toNat)
   case atStart => exact ⟨0, _, _, rfl, by go_num, jK _, HBS, HU, hI9 rfl, hI9 (nR _)⟩
   case round =>
    clear HBS HU
    obtain ⟨j, uv2, o2, rfl, rfl, hj, HBi, HUi, HOi, HLi⟩ := hrel
    obtain ⟨wi, hwi⟩ : ∃ x, x = wr := ⟨_, rfl⟩
    subst hwi
    by_cases hlt : j < a.doms.length
    ·have hjk : (j : Int) < (a.doms.length : Int) := by omega
     obtain ⟨b1, o1, y, rfl, hb1, hx, hyb, g0, g1, g2⟩ := HE.out.dm hlt
     have hnm : y.name.length <= 140737488355328 := hyb.1
     have HBx : Hid (Below X.heap.size X wi) := hI9 (HB7.out.trans (HBi.out.mono HB7.out.size))
     rw [<- HBx.out.ce _ hb1] at g0 g1 g2
     obtain ⟨W9, e9, HB9, HB9i, hs9⟩ : ∃ W9, wi.alloc (.cells #[.string ⟨y.name.toArray⟩, .int .i64 y.lo, .int .i64 y.hi] 63) = W9 /\ Hid (Below X.heap.size X W9) /\ Hid (Below wi.heap.size wi W9) /\ wi.heap.size < W9.heap.size := ⟨_, rfl, hI9 (HBx.out.alloc HBx.out.size _), hI9 bA, by simp⟩; have m0 := ac0 e9
     have HX := hI9 hx
     have HNM := hI9 hnm
     have HS9 := hI9 hs9
     have HM0 := hI9 m0
     obtain ⟨p0, p1, q0, q1⟩ := HOLD.out W9 HB9.out
     have hz0 : w.heap.size < W9.heap.size := nL HZ.out.1 HB9.out.size
     have hz1 : w.heap.size + 1 < W9.heap.size := nL HZ.out.2 HB9.out.size
     have HBW := hI9 (HB1.out.trans (HB9.out.mono HB1.out.size))
     obtain ⟨sa, hsa⟩ : ∃ z, Z2w a y.name = z := ⟨_, rfl⟩
     obtain ⟨sb, hsb⟩ : ∃ z, Z2w b y.name = z := ⟨_, rfl⟩
     have HCa := hI9 fun w' (hb : Below W9.heap.size W9 w') => hsa ▸ Z14 y.name w' (jL HL0.out (HBW.out.trans (hb.mono HBW.out.size))) hnm (HW.out _ (HBW.out.trans (hb.mono HBW.out.size))) (HP.out _ (HBW.out.trans (hb.mono HBW.out.size)))
     have HCb := hI9 fun w' (hb : Below W9.heap.size W9 w') => hsb ▸ Z14 y.name w' (jL HL0'.out (HBW.out.trans (hb.mono HBW.out.size))) hnm (HW.out _ (HBW.out.trans (hb.mono HBW.out.size))) (HP.out _ (HBW.out.trans (hb.mono HBW.out.size)))
     cases hne : (sa == sb)
     ·have HST : Hid (Z1a a b o2 y.name = addN o2 y.name) := hI9 (by unfold Z1a; rw [hsa, hsb, hne]; rfl)
      have hne2 : (sa != sb) = true := by simp [bne, hne]
      clear hsa hsb hx hyb hnm hb1
      go_wp2
      refine wp_region_quiet_below (by kernel_rfl) (by kernel_rfl) ?_
      repeat (go_big_quiet_step (first | with_reducible exact Calls.inBelow HCa.out _ _ | with_reducible exact Calls.inBelow HCb.out _ _))
      refine wpQuiet_nil ?_
      intro _ hw'
      obtain ⟨⟨dq, osq⟩, hw''⟩ := hw'
      subst hw''
      clear m0 hs9 p0 p1 q0 q1 hz0 hz1
      obtain ⟨wq, ewq, HBQ⟩ : ∃ wq, Go.Sort.grow (redrawn W9 dq) osq = wq /\ Hid (Below W9.heap.size W9 wq) := ⟨_, rfl, hI9 (below_regrown W9 dq osq)⟩
      rw [ewq]
      clear ewq
      have m0q := (HBQ.out.ce 0 HS9.out).trans HM0.out
      have HUq := hI9 (Z2c HUi.out (HB9i.out.trans (HBQ.out.mono HB9i.out.size)))
      have HLq : Hid (o2.length < 1000000000000) := hI9 (by have := HLi.out; have := HLB.out; omega)
      go_wp2_with (go_at_call 36; (with_reducible refine (Z13 y.name wq HUq.out HNM.out HLq.out (fun _ h => Nw.lt h)).mono ?_); rintro e w3 ⟨u3, rfl, hr3, hb3⟩; have HR3 := hI9 hr3; have HB3 := hI9 hb3; clear hr3 hb3)
      go_roundw
      case rel =>
       have h1 := HBi.out.trans ((HB9i.out.trans (HBQ.out.mono HB9i.out.size)).mono HBi.out.size)
       refine ⟨j + 1, _, _, rfl, by go_num, hlt, hI9 (h1.trans (HB3.out.mono h1.size)), hI9 (Y6o HR3.out (nT (jJ HZ.out.1) (nT HB9.out.size HBQ.out.size))), hI9 ?_, hI9 ?_⟩
       ·rw [Z0b HX.out, jG, jD, <- HOi.out]
        exact HST.out.symm
       ·have := Z08 o2 y.name
        have := HLi.out
        omega
      case measure => simp [intOf]; omega
     ·have HST : Hid (Z1a a b o2 y.name = o2) := hI9 (by unfold Z1a; rw [hsa, hsb, hne]; rfl)
      have hne2 : (sa != sb) = false := by simp [bne, hne]
      clear hsa hsb hx hyb hnm hb1
      go_wp2
      refine wp_region_quiet_below (by kernel_rfl) (by kernel_rfl) ?_
      repeat (go_big_quiet_step (first | with_reducible exact Calls.inBelow HCa.out _ _ | with_reducible exact Calls.inBelow HCb.out _ _))
      refine wpQuiet_nil ?_
      intro _ hw'
      obtain ⟨⟨dq, osq⟩, hw''⟩ := hw'
      subst hw''
      clear m0 hs9 p0 p1 q0 q1 hz0 hz1
      obtain ⟨wq, ewq, HBQ⟩ : ∃ wq, Go.Sort.grow (redrawn W9 dq) osq = wq /\ Hid (Below W9.heap.size W9 wq) := ⟨_, rfl, hI9 (below_regrown W9 dq osq)⟩
      rw [ewq]
      clear ewq
      have HUq := hI9 (Z2c HUi.out (HB9i.out.trans (HBQ.out.mono HB9i.out.size)))
      go_wp2
      go_roundw
      case rel =>
       refine ⟨j + 1, _, _, rfl, by go_num, hlt, hI9 (HBi.out.trans ((HB9i.out.trans (HBQ.out.mono HB9i.out.size)).mono HBi.out.size)), HUq, hI9 ?_, hI9 (by have := HLi.out; omega)⟩
       rw [Z0b HX.out, jG, jD, <- HOi.out]
       exact HST.out.symm
      case measure => simp [intOf]; omega
    ·have hjk : ¬ (j : Int) < (a.doms.length : Int) := by omega
     have HOF : Hid (o2 = (a.doms.map (·.name)).foldl (Z1a a b) out) := hI9 (by rw [HOi.out, tL (by omega)])
     have HLF : Hid (o2.length <= out.length + a.doms.length) := hI9 (by have := HLi.out; omega)
     clear HOi HLi hlt hj
     have r1 := (HBi.out.ce 1 HR1.out.2).trans HR1.out.1
     obtain ⟨od, hod⟩ : ∃ x, x = o2 := ⟨_, rfl⟩
     subst hod
     have HOD := HOF
     have HLD := HLF
     have HU := HUi
     have HBS := HBi
     replace HLB : Hid (od.length + a.tabs.length < 1000000000000) := hI9 (by have := HLB.out; have := HLF.out; omega)
     clear HOF HLF HUi HBi
     go_wp2
     clear r1 hjk
     go_loopw [5, 42] (fun u si wi => ∃ (j : Nat) (uv : Value) (o2 : List Txt), u = uv /\ si = .int .i64 j /\ j <= a.tabs.length /\ Hid (Below W7.heap.size W7 wi) /\ Hid ((rSl rStr).rel wi (Nw w.heap.size wi) [uv] o2) /\ Hid (o2 = ((a.tabs.take j).map (·.name)).foldl (Z1a a b) od) /\ Hid (o2.length <= od.length + j)) (fun _ si _ => a.tabs.length - (intOf si).toNat)
     case atStart => exact ⟨0, _, _, rfl, by go_num, jK _, HBS, HU, hI9 rfl, hI9 (nR _)⟩
     case round =>
      clear HBS HU
      obtain ⟨j, uv2, o2, rfl, rfl, hj, HBi, HUi, HOi, HLi⟩ := hrel
      obtain ⟨wi, hwi⟩ : ∃ x, x = wr := ⟨_, rfl⟩
      subst hwi
      by_cases hlt : j < a.tabs.length
      ·have hjk : (j : Int) < (a.tabs.length : Int) := by omega
       obtain ⟨b1, o1, y, A1, c1, A2, c2, rfl, hb1, hx, hrl, g0, g1, g2, g3, g4⟩ := HI.out.tb hlt
       have hnm : y.name.length <= 140737488355328 := by obtain ⟨_, _, _, h, _⟩ := hrl; exact h
       have HBx : Hid (Below X.heap.size X wi) := hI9 (HB7.out.trans (HBi.out.mono HB7.out.size))
       rw [<- HBx.out.ce _ hb1] at g0 g1 g2 g3 g4
       obtain ⟨W9, e9, HB9, HB9i, hs9⟩ : ∃ W9, wi.alloc (.cells #[.string ⟨y.name.toArray⟩, .int .i64 y.pol, .bool y.comp, .slice A1 y.ins.length c1, .slice A2 y.rules.length c2] 66) = W9 /\ Hid (Below X.heap.size X W9) /\ Hid (Below wi.heap.size wi W9) /\ wi.heap.size < W9.heap.size := ⟨_, rfl, hI9 (HBx.out.alloc HBx.out.size _), hI9 bA, by simp⟩; have m0 := ac0 e9
       have HX := hI9 hx
       have HNM := hI9 hnm
       have HS9 := hI9 hs9
       have HM0 := hI9 m0
       obtain ⟨p0, p1, q0, q1⟩ := HOLD.out W9 HB9.out
       have hz0 : w.heap.size < W9.heap.size := nL HZ.out.1 HB9.out.size
       have hz1 : w.heap.size + 1 < W9.heap.size := nL HZ.out.2 HB9.out.size
       have HBW := hI9 (HB1.out.trans (HB9.out.mono HB1.out.size))
       obtain ⟨sa, hsa⟩ : ∃ z, Z2w a y.name = z := ⟨_, rfl⟩
       obtain ⟨sb, hsb⟩ : ∃ z, Z2w b y.name = z := ⟨_, rfl⟩
       have HCa := hI9 fun w' (hb : Below W9.heap.size W9 w') => hsa ▸ Z14 y.name w' (jL HL0.out (HBW.out.trans (hb.mono HBW.out.size))) hnm (HW.out _ (HBW.out.trans (hb.mono HBW.out.size))) (HP.out _ (HBW.out.trans (hb.mono HBW.out.size)))
       have HCb := hI9 fun w' (hb : Below W9.heap.size W9 w') => hsb ▸ Z14 y.name w' (jL HL0'.out (HBW.out.trans (hb.mono HBW.out.size))) hnm (HW.out _ (HBW.out.trans (hb.mono HBW.out.size))) (HP.out _ (HBW.out.trans (hb.mono HBW.out.size)))
       cases hne : (sa == sb)
       ·have HST : Hid (Z1a a b o2 y.name = addN o2 y.name) := hI9 (by unfold Z1a; rw [hsa, hsb, hne]; rfl)
        have hne2 : (sa != sb) = true := by simp [bne, hne]
        clear hsa hsb hx hrl hnm hb1
        go_wp2
        refine wp_region_quiet_below (by kernel_rfl) (by kernel_rfl) ?_
        repeat (go_big_quiet_step (first | with_reducible exact Calls.inBelow HCa.out _ _ | with_reducible exact Calls.inBelow HCb.out _ _))
        refine wpQuiet_nil ?_
        intro _ hw'
        obtain ⟨⟨dq, osq⟩, hw''⟩ := hw'
        subst hw''
        clear m0 hs9 p0 p1 q0 q1 hz0 hz1
        obtain ⟨wq, ewq, HBQ⟩ : ∃ wq, Go.Sort.grow (redrawn W9 dq) osq = wq /\ Hid (Below W9.heap.size W9 wq) := ⟨_, rfl, hI9 (below_regrown W9 dq osq)⟩
        rw [ewq]
        clear ewq
        have m0q := (HBQ.out.ce 0 HS9.out).trans HM0.out
        have HUq := hI9 (Z2c HUi.out (HB9i.out.trans (HBQ.out.mono HB9i.out.size)))
        have HLq : Hid (o2.length < 1000000000000) := hI9 (by have := HLi.out; have := HLB.out; omega)
        go_wp2_with (go_at_call 36; (with_reducible refine (Z13 y.name wq HUq.out HNM.out HLq.out (fun _ h => Nw.lt h)).mono ?_); rintro e w3 ⟨u3, rfl, hr3, hb3⟩; have HR3 := hI9 hr3; have HB3 := hI9 hb3; clear hr3 hb3)
        go_roundw
        case rel =>
         have h1 := HBi.out.trans ((HB9i.out.trans (HBQ.out.mono HB9i.out.size)).mono HBi.out.size)
         refine ⟨j + 1, _, _, rfl, by go_num, hlt, hI9 (h1.trans (HB3.out.mono h1.size)), hI9 (Y6o HR3.out (nT (jJ HZ.out.1) (nT HB9.out.size HBQ.out.size))), hI9 ?_, hI9 ?_⟩
         ·rw [Z0b HX.out, jG, jD, <- HOi.out]
          exact HST.out.symm
         ·have := Z08 o2 y.name
          have := HLi.out
          omega
        case measure => simp [intOf]; omega
       ·have HST : Hid (Z1a a b o2 y.name = o2) := hI9 (by unfold Z1a; rw [hsa, hsb, hne]; rfl)
        have hne2 : (sa != sb) = false := by simp [bne, hne]
        clear hsa hsb hx hrl hnm hb1
        go_wp2
        refine wp_region_quiet_below (by kernel_rfl) (by kernel_rfl) ?_
        repeat (go_big_quiet_step (first | with_reducible exact Calls.inBelow HCa.out _ _ | with_reducible exact Calls.inBelow HCb.out _ _))
        refine wpQuiet_nil ?_
        intro _ hw'
        obtain ⟨⟨dq, osq⟩, hw''⟩ := hw'
        subst hw''
        clear m0 hs9 p0 p1 q0 q1 hz0 hz1
        obtain ⟨wq, ewq, HBQ⟩ : ∃ wq, Go.Sort.grow (redrawn W9 dq) osq = wq /\ Hid (Below W9.heap.size W9 wq) := ⟨_, rfl, hI9 (below_regrown W9 dq osq)⟩
        rw [ewq]
        clear ewq
        have HUq := hI9 (Z2c HUi.out (HB9i.out.trans (HBQ.out.mono HB9i.out.size)))
        go_wp2
        go_roundw
        case rel =>
         refine ⟨j + 1, _, _, rfl, by go_num, hlt, hI9 (HBi.out.trans ((HB9i.out.trans (HBQ.out.mono HB9i.out.size)).mono HBi.out.size)), HUq, hI9 ?_, hI9 (by have := HLi.out; omega)⟩
         rw [Z0b HX.out, jG, jD, <- HOi.out]
         exact HST.out.symm
        case measure => simp [intOf]; omega
      ·have hjk : ¬ (j : Int) < (a.tabs.length : Int) := by omega
       have HOF : Hid (o2 = (a.tabs.map (·.name)).foldl (Z1a a b) od) := hI9 (by rw [HOi.out, tL (by omega)])
       have HLF : Hid (o2.length <= od.length + a.tabs.length) := hI9 (by have := HLi.out; omega)
       clear HOi HLi hlt hj
       go_wp2
       go_roundw
       case rel =>
        refine ⟨1, _, _, rfl, .inr (.inl ⟨rfl, by go_num⟩), hI9 (HB7.out.trans (HBi.out.mono HB7.out.size)), HUi, hI9 ?_, hI9 ?_⟩
        ·rw [HOF.out, HOD.out, HO0.out]
         simp [Z0q, jD]
        ·have := HLF.out; have := HLD.out; have := HL0o.out
         simp only [Z0q, lA, jE, jB, jC, jH, jI, jF] at *
         omega
       case measure => simp [intOf]
  ·skip
   obtain ⟨W7, e7, HB7, HBr, HR1⟩ : ∃ W7, wo.alloc (.cells #[.slice A' b.doms.length c', .slice B' b.tabs.length d'] 38) = W7 /\ Hid (Below X.heap.size X W7) /\ Hid (Below wo.heap.size wo W7) /\ Hid (W7.cell? ⟨wo.heap.size, 1, none⟩ = some (.slice B' b.tabs.length d') /\ wo.heap.size < W7.heap.size) := ⟨_, rfl, hI9 (HB.out.alloc HB.out.size _), hI9 bA, hI9 ⟨cN _ _ _ _, by simp⟩⟩; have r0 := ac0 e7
   have HU := hI9 (Z2c HU0.out HBr.out)
   have HBS : Hid (Below W7.heap.size W7 W7) := hI9 (jA _ _)
   have HLB : Hid (out.length + b.doms.length + b.tabs.length < 1000000000000) := hI9 (by have := HL0o.out; have := HLEN.out; simp only [Z0q, lA, jE, jB, jC, jH, jI, jF] at *; omega)
   go_wp2
   clear r0 e7
   go_loopw [5, 21] (fun u si wi => ∃ (j : Nat) (uv : Value) (o2 : List Txt), u = uv /\ si = .int .i64 j /\ j <= b.doms.length /\ Hid (Below W7.heap.size W7 wi) /\ Hid ((rSl rStr).rel wi (Nw w.heap.size wi) [uv] o2) /\ Hid (o2 = ((b.doms.take j).map (·.name)).foldl (Z1a a b) out) /\ Hid (o2.length <= out.length + j)) (fun _ si _ => b.doms.length - (intOf si).toNat)
   case atStart => exact ⟨0, _, _, rfl, by go_num, jK _, HBS, HU, hI9 rfl, hI9 (nR _)⟩
   case round =>
    clear HBS HU
    obtain ⟨j, uv2, o2, rfl, rfl, hj, HBi, HUi, HOi, HLi⟩ := hrel
    obtain ⟨wi, hwi⟩ : ∃ x, x = wr := ⟨_, rfl⟩
    subst hwi
    by_cases hlt : j < b.doms.length
    ·have hjk : (j : Int) < (b.doms.length : Int) := by omega
     obtain ⟨b1, o1, y, rfl, hb1, hx, hyb, g0, g1, g2⟩ := HE'.out.dm hlt
     have hnm : y.name.length <= 140737488355328 := hyb.1
     have HBx : Hid (Below X.heap.size X wi) := hI9 (HB7.out.trans (HBi.out.mono HB7.out.size))
     rw [<- HBx.out.ce _ hb1] at g0 g1 g2
     obtain ⟨W9, e9, HB9, HB9i, hs9⟩ : ∃ W9, wi.alloc (.cells #[.string ⟨y.name.toArray⟩, .int .i64 y.lo, .int .i64 y.hi] 63) = W9 /\ Hid (Below X.heap.size X W9) /\ Hid (Below wi.heap.size wi W9) /\ wi.heap.size < W9.heap.size := ⟨_, rfl, hI9 (HBx.out.alloc HBx.out.size _), hI9 bA, by simp⟩; have m0 := ac0 e9
     have HX := hI9 hx
     have HNM := hI9 hnm
     have HS9 := hI9 hs9
     have HM0 := hI9 m0
     obtain ⟨p0, p1, q0, q1⟩ := HOLD.out W9 HB9.out
     have hz0 : w.heap.size < W9.heap.size := nL HZ.out.1 HB9.out.size
     have hz1 : w.heap.size + 1 < W9.heap.size := nL HZ.out.2 HB9.out.size
     have HBW := hI9 (HB1.out.trans (HB9.out.mono HB1.out.size))
     obtain ⟨sa, hsa⟩ : ∃ z, Z2w a y.name = z := ⟨_, rfl⟩
     obtain ⟨sb, hsb⟩ : ∃ z, Z2w b y.name = z := ⟨_, rfl⟩
     have HCa := hI9 fun w' (hb : Below W9.heap.size W9 w') => hsa ▸ Z14 y.name w' (jL HL0.out (HBW.out.trans (hb.mono HBW.out.size))) hnm (HW.out _ (HBW.out.trans (hb.mono HBW.out.size))) (HP.out _ (HBW.out.trans (hb.mono HBW.out.size)))
     have HCb := hI9 fun w' (hb : Below W9.heap.size W9 w') => hsb ▸ Z14 y.name w' (jL HL0'.out (HBW.out.trans (hb.mono HBW.out.size))) hnm (HW.out _ (HBW.out.trans (hb.mono HBW.out.size))) (HP.out _ (HBW.out.trans (hb.mono HBW.out.size)))
     cases hne : (sa == sb)
     ·have HST : Hid (Z1a a b o2 y.name = addN o2 y.name) := hI9 (by unfold Z1a; rw [hsa, hsb, hne]; rfl)
      have hne2 : (sa != sb) = true := by simp [bne, hne]
      clear hsa hsb hx hyb hnm hb1
      go_wp2
      refine wp_region_quiet_below (by kernel_rfl) (by kernel_rfl) ?_
      repeat (go_big_quiet_step (first | with_reducible exact Calls.inBelow HCa.out _ _ | with_reducible exact Calls.inBelow HCb.out _ _))
      refine wpQuiet_nil ?_
      intro _ hw'
      obtain ⟨⟨dq, osq⟩, hw''⟩ := hw'
      subst hw''
      clear m0 hs9 p0 p1 q0 q1 hz0 hz1
      obtain ⟨wq, ewq, HBQ⟩ : ∃ wq, Go.Sort.grow (redrawn W9 dq) osq = wq /\ Hid (Below W9.heap.size W9 wq) := ⟨_, rfl, hI9 (below_regrown W9 dq osq)⟩
      rw [ewq]
      clear ewq
      have m0q := (HBQ.out.ce 0 HS9.out).trans HM0.out
      have HUq := hI9 (Z2c HUi.out (HB9i.out.trans (HBQ.out.mono HB9i.out.size)))
      have HLq : Hid (o2.length < 1000000000000) := hI9 (by have := HLi.out; have := HLB.out; omega)
      go_wp2_with (go_at_call 36; (with_reducible refine (Z13 y.name wq HUq.out HNM.out HLq.out (fun _ h => Nw.lt h)).mono ?_); rintro e w3 ⟨u3, rfl, hr3, hb3⟩; have HR3 := hI9 hr3; have HB3 := hI9 hb3; clear hr3 hb3)
      go_roundw
      case rel =>
       have h1 := HBi.out.trans ((HB9i.out.trans (HBQ.out.mono HB9i.out.size)).mono HBi.out.size)
       refine ⟨j + 1, _, _, rfl, by go_num, hlt, hI9 (h1.trans (HB3.out.mono h1.size)), hI9 (Y6o HR3.out (nT (jJ HZ.out.1) (nT HB9.out.size HBQ.out.size))), hI9 ?_, hI9 ?_⟩
       ·rw [Z0b HX.out, jG, jD, <- HOi.out]
        exact HST.out.symm
       ·have := Z08 o2 y.name
        have := HLi.out
        omega
      case measure => simp [intOf]; omega
     ·have HST : Hid (Z1a a b o2 y.name = o2) := hI9 (by unfold Z1a; rw [hsa, hsb, hne]; rfl)
      have hne2 : (sa != sb) = false := by simp [bne, hne]
      clear hsa hsb hx hyb hnm hb1
      go_wp2
      refine wp_region_quiet_below (by kernel_rfl) (by kernel_rfl) ?_
      repeat (go_big_quiet_step (first | with_reducible exact Calls.inBelow HCa.out _ _ | with_reducible exact Calls.inBelow HCb.out _ _))
      refine wpQuiet_nil ?_
      intro _ hw'
      obtain ⟨⟨dq, osq⟩, hw''⟩ := hw'
      subst hw''
      clear m0 hs9 p0 p1 q0 q1 hz0 hz1
      obtain ⟨wq, ewq, HBQ⟩ : ∃ wq, Go.Sort.grow (redrawn W9 dq) osq = wq /\ Hid (Below W9.heap.size W9 wq) := ⟨_, rfl, hI9 (below_regrown W9 dq osq)⟩
      rw [ewq]
      clear ewq
      have HUq := hI9 (Z2c HUi.out (HB9i.out.trans (HBQ.out.mono HB9i.out.size)))
      go_wp2
      go_roundw
      case rel =>
       refine ⟨j + 1, _, _, rfl, by go_num, hlt, hI9 (HBi.out.trans ((HB9i.out.trans (HBQ.out.mono HB9i.out.size)).mono HBi.out.size)), HUq, hI9 ?_, hI9 (by have := HLi.out; omega)⟩
       rw [Z0b HX.out, jG, jD, <- HOi.out]
       exact HST.out.symm
      case measure => simp [intOf]; omega
    ·have hjk : ¬ (j : Int) < (b.doms.length : Int) := by omega
     have HOF : Hid (o2 = (b.doms.map (·.name)).foldl (Z1a a b) out) := hI9 (by rw [HOi.out, tL (by omega)])
     have HLF : Hid (o2.length <= out.length + b.doms.length) := hI9 (by have := HLi.out; omega)
     clear HOi HLi hlt hj
     have r1 := (HBi.out.ce 1 HR1.out.2).trans HR1.out.1
     obtain ⟨od, hod⟩ : ∃ x, x = o2 := ⟨_, rfl⟩
     subst hod
     have HOD := HOF
     have HLD := HLF
     have HU := HUi
     have HBS := HBi
     replace HLB : Hid (od.length + b.tabs.length < 1000000000000) := hI9 (by have := HLB.out; have := HLF.out; omega)
     clear HOF HLF HUi HBi
     go_wp2
     clear r1 hjk
     go_loopw [5, 42] (fun u si wi => ∃ (j : Nat) (uv : Value) (o2 : List Txt), u = uv /\ si = .int .i64 j /\ j <= b.tabs.length /\ Hid (Below W7.heap.size W7 wi) /\ Hid ((rSl rStr).rel wi (Nw w.heap.size wi) [uv] o2) /\ Hid (o2 = ((b.tabs.take j).map (·.name)).foldl (Z1a a b) od) /\ Hid (o2.length <= od.length + j)) (fun _ si _ => b.tabs.length - (intOf si).toNat)
     case atStart => exact ⟨0, _, _, rfl, by go_num, jK _, HBS, HU, hI9 rfl, hI9 (nR _)⟩
     case round =>
      clear HBS HU
      obtain ⟨j, uv2, o2, rfl, rfl, hj, HBi, HUi, HOi, HLi⟩ := hrel
      obtain ⟨wi, hwi⟩ : ∃ x, x = wr := ⟨_, rfl⟩
      subst hwi
      by_cases hlt : j < b.tabs.length
      ·have hjk : (j : Int) < (b.tabs.length : Int) := by omega
       obtain ⟨b1, o1, y, A1, c1, A2, c2, rfl, hb1, hx, hrl, g0, g1, g2, g3, g4⟩ := HI'.out.tb hlt
       have hnm : y.name.length <= 140737488355328 := by obtain ⟨_, _, _, h, _⟩ := hrl; exact h
       have HBx : Hid (Below X.heap.size X wi) := hI9 (HB7.out.trans (HBi.out.mono HB7.out.size))
       rw [<- HBx.out.ce _ hb1] at g0 g1 g2 g3 g4
       obtain ⟨W9, e9, HB9, HB9i, hs9⟩ : ∃ W9, wi.alloc (.cells #[.string ⟨y.name.toArray⟩, .int .i64 y.pol, .bool y.comp, .slice A1 y.ins.length c1, .slice A2 y.rules.length c2] 66) = W9 /\ Hid (Below X.heap.size X W9) /\ Hid (Below wi.heap.size wi W9) /\ wi.heap.size < W9.heap.size := ⟨_, rfl, hI9 (HBx.out.alloc HBx.out.size _), hI9 bA, by simp⟩; have m0 := ac0 e9
       have HX := hI9 hx
       have HNM := hI9 hnm
       have HS9 := hI9 hs9
       have HM0 := hI9 m0
       obtain ⟨p0, p1, q0, q1⟩ := HOLD.out W9 HB9.out
       have hz0 : w.heap.size < W9.heap.size := nL HZ.out.1 HB9.out.size
       have hz1 : w.heap.size + 1 < W9.heap.size := nL HZ.out.2 HB9.out.size
       have HBW := hI9 (HB1.out.trans (HB9.out.mono HB1.out.size))
       obtain ⟨sa, hsa⟩ : ∃ z, Z2w a y.name = z := ⟨_, rfl⟩
       obtain ⟨sb, hsb⟩ : ∃ z, Z2w b y.name = z := ⟨_, rfl⟩
       have HCa := hI9 fun w' (hb : Below W9.heap.size W9 w') => hsa ▸ Z14 y.name w' (jL HL0.out (HBW.out.trans (hb.mono HBW.out.size))) hnm (HW.out _ (HBW.out.trans (hb.mono HBW.out.size))) (HP.out _ (HBW.out.trans (hb.mono HBW.out.size)))
       have HCb := hI9 fun w' (hb : Below W9.heap.size W9 w') => hsb ▸ Z14 y.name w' (jL HL0'.out (HBW.out.trans (hb.mono HBW.out.size))) hnm (HW.out _ (HBW.out.trans (hb.mono HBW.out.size))) (HP.out _ (HBW.out.trans (hb.mono HBW.out.size)))
       cases hne : (sa == sb)
       ·have HST : Hid (Z1a a b o2 y.name = addN o2 y.name) := hI9 (by unfold Z1a; rw [hsa, hsb, hne]; rfl)
        have hne2 : (sa != sb) = true := by simp [bne, hne]
        clear hsa hsb hx hrl hnm hb1
        go_wp2
        refine wp_region_quiet_below (by kernel_rfl) (by kernel_rfl) ?_
        repeat (go_big_quiet_step (first | with_reducible exact Calls.inBelow HCa.out _ _ | with_reducible exact Calls.inBelow HCb.out _ _))
        refine wpQuiet_nil ?_
        intro _ hw'
        obtain ⟨⟨dq, osq⟩, hw''⟩ := hw'
        subst hw''
        clear m0 hs9 p0 p1 q0 q1 hz0 hz1
        obtain ⟨wq, ewq, HBQ⟩ : ∃ wq, Go.Sort.grow (redrawn W9 dq) osq = wq /\ Hid (Below W9.heap.size W9 wq) := ⟨_, rfl, hI9 (below_regrown W9 dq osq)⟩
        rw [ewq]
        clear ewq
        have m0q := (HBQ.out.ce 0 HS9.out).trans HM0.out
        have HUq := hI9 (Z2c HUi.out (HB9i.out.trans (HBQ.out.mono HB9i.out.size)))
        have HLq : Hid (o2.length < 1000000000000) := hI9 (by have := HLi.out; have := HLB.out; omega)
        go_wp2_with (go_at_call 36; (with_reducible refine (Z13 y.name wq HUq.out HNM.out HLq.out (fun _ h => Nw.lt h)).mono ?_); rintro e w3 ⟨u3, rfl, hr3, hb3⟩; have HR3 := hI9 hr3; have HB3 := hI9 hb3; clear hr3 hb3)
        go_roundw
        case rel =>
         have h1 := HBi.out.trans ((HB9i.out.trans (HBQ.out.mono HB9i.out.size)).mono HBi.out.size)
         refine ⟨j + 1, _, _, rfl, by go_num, hlt, hI9 (h1.trans (HB3.out.mono h1.size)), hI9 (Y6o HR3.out (nT (jJ HZ.out.1) (nT HB9.out.size HBQ.out.size))), hI9 ?_, hI9 ?_⟩
         ·rw [Z0b HX.out, jG, jD, <- HOi.out]
          exact HST.out.symm
         ·have := Z08 o2 y.name
          have := HLi.out
          omega
        case measure => simp [intOf]; omega
       ·have HST : Hid (Z1a a b o2 y.name = o2) := hI9 (by unfold Z1a; rw [hsa, hsb, hne]; rfl)
        have hne2 : (sa != sb) = false := by simp [bne, hne]
        clear hsa hsb hx hrl hnm hb1
        go_wp2
        refine wp_region_quiet_below (by kernel_rfl) (by kernel_rfl) ?_
        repeat (go_big_quiet_step (first | with_reducible exact Calls.inBelow HCa.out _ _ | with_reducible exact Calls.inBelow HCb.out _ _))
        refine wpQuiet_nil ?_
        intro _ hw'
        obtain ⟨⟨dq, osq⟩, hw''⟩ := hw'
        subst hw''
        clear m0 hs9 p0 p1 q0 q1 hz0 hz1
        obtain ⟨wq, ewq, HBQ⟩ : ∃ wq, Go.Sort.grow (redrawn W9 dq) osq = wq /\ Hid (Below W9.heap.size W9 wq) := ⟨_, rfl, hI9 (below_regrown W9 dq osq)⟩
        rw [ewq]
        clear ewq
        have HUq := hI9 (Z2c HUi.out (HB9i.out.trans (HBQ.out.mono HB9i.out.size)))
        go_wp2
        go_roundw
        case rel =>
         refine ⟨j + 1, _, _, rfl, by go_num, hlt, hI9 (HBi.out.trans ((HB9i.out.trans (HBQ.out.mono HB9i.out.size)).mono HBi.out.size)), HUq, hI9 ?_, hI9 (by have := HLi.out; omega)⟩
         rw [Z0b HX.out, jG, jD, <- HOi.out]
         exact HST.out.symm
        case measure => simp [intOf]; omega
      ·have hjk : ¬ (j : Int) < (b.tabs.length : Int) := by omega
       have HOF : Hid (o2 = (b.tabs.map (·.name)).foldl (Z1a a b) od) := hI9 (by rw [HOi.out, tL (by omega)])
       have HLF : Hid (o2.length <= od.length + b.tabs.length) := hI9 (by have := HLi.out; omega)
       clear HOi HLi hlt hj
       go_wp2
       go_roundw
       case rel =>
        refine ⟨2, _, _, rfl, .inr (.inr ⟨rfl, by go_num⟩), hI9 (HB7.out.trans (HBi.out.mono HB7.out.size)), HUi, hI9 ?_, hI9 ?_⟩
        ·rw [HOF.out, HOD.out, HO0.out]
         simp [Z0q, jD]
        ·have := HLF.out; have := HLD.out; have := HL0o.out
         simp only [Z0q, lA, jE, jB, jC, jH, jI, jF] at *
         omega
       case measure => simp [intOf]
  ·go_wp2
   go_ret
   exact ⟨_, rfl, by have h := HU0.out; rw [HO0.out] at h; simpa [Z3e] using h, HB1.out.trans (HB.out.mono HB1.out.size)⟩
