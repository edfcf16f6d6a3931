import Derived.Test.YtlopccnehgolnacGreatDoorSymOwn
import Derived.Test.YtlopccnehgolnacGreatDoorGCommits4
import Derived.Test.YtlopccnehgolnacGreatDoorShSt
import Derived.Test.YtlopccnehgolnacGreatDoorWo
import Derived.Sort.Walk0
namespace Go.Proofs.YtlopccnehgolnacGreatDoor
open Go.RowKit Rb Go.Shelf Go.Sort
open Go.Lib renaming hid -> hI, compareBytes -> jA
open Go.World renaming cell?_alloc_new -> cN, cell?_alloc_lt -> jF
open List renaming getElem_mem -> jB, pairwise_iff_getElem -> jC, pairwise_map -> jD
open Go.Op renaming bytesLess -> jE
set_option maxHeartbeats 1000000
theorem Y1m : ∀ a b : List UInt8, jA a b < 0 ↔ jE a b = true
 | [], [] => by simp [jA, jE]
 | [], _ :: _ => by simp [jA, jE]
 | _ :: _, [] => by simp [jA, jE]
 | a :: x, b :: y => by
  have ih := Y1m x y
  have e1 : jA (a :: x) (b :: y) = if a < b then -1 else if b < a then 1 else jA x y := rfl
  have e2 : jE (a :: x) (b :: y) = (decide (a < b) || a == b && jE x y) := rfl
  rw [e1, e2]
  by_cases h1 : a < b
  ·simp [h1]
  ·by_cases h2 : b < a
   ·have h3 : ¬ a = b := fun e => by subst e; exact h1 h2
    simp [h1, h2, h3]
   ·have h3 : a = b := by
     apply UInt8.toNat_inj.1
     rw [UInt8.lt_iff_toNat_lt] at h1 h2
     omega
    subst h3
    simp [h1, ih]
theorem Y3q (a b : List UInt8) : decide (jA a b < 0) = jE a b := by
 rw [Bool.eq_iff_iff, decide_eq_true_iff]; exact Y1m a b
theorem swo_names : SWO (fun a b : List UInt8 => jE a b) where
 irrefl x := by rw [bytesLess_eq]; simp [List.lt_irrefl]
 trans x y z h1 h2 := by rw [bytesLess_eq] at *; simp only [decide_eq_true_eq] at *; exact List.lt_trans h1 h2
 ntrans x y z h1 h2 := by
  rw [bytesLess_eq] at *
  simp only [decide_eq_false_iff_not, List.not_lt] at *
  exact List.le_trans h2 h1
theorem Y5e (a b : List UInt8) (w : World) : Calls Tryz.prog 82 #[.string ⟨a.toArray⟩, .string ⟨b.toArray⟩] w fun e w' => e = .returned (.int .i64 (jA a b)) /\ w' = w :=
 Any.strings_Compare Tryz.stCmp _ _ w
structure RowDm where
 name : List UInt8
 a : Value
 b : Value
 ha : a.oneCell' = true
 hb : b.oneCell' = true
 dat : Dm
instance : Inhabited RowDm := ⟨⟨[], .bool false, .bool false, rfl, rfl, dm0⟩⟩
def Y2x (r : RowDm) : List Value := [.string ⟨r.name.toArray⟩, r.a, r.b]
def cfDm (x y : RowDm) : Int := jA x.name y.name
theorem ltDm (x y : RowDm) : ltOf cfDm x y = jE x.name y.name := Y3q _ _
theorem X1u : SWO (ltOf cfDm) where
 irrefl x := by rw [ltDm]; exact swo_names.irrefl _
 trans x y z h1 h2 := by rw [ltDm] at *; exact swo_names.trans _ _ _ h1 h2
 ntrans x y z h1 h2 := by rw [ltDm] at *; exact swo_names.ntrans _ _ _ h1 h2
theorem Y8q {w : World} {S : Nat -> Prop} {cs : List Value} {x : Dm} (h : rDm.rel w S cs x) : ∃ r : RowDm, Y2x r = cs /\ r.dat = x /\ r.name = x.name := by
 have h1 := rDm.one h
 obtain ⟨rfl, _⟩ := h
 exact ⟨⟨x.name, .int .i64 x.lo, .int .i64 x.hi, rfl, rfl, x⟩, rfl, rfl, rfl⟩
theorem Y9h (x y : RowDm) (w : World) : Calls Tryz.prog 84 #[.agg (Y2x x).toArray, .agg (Y2x y).toArray] w fun e w' => e = .returned (.int .i64 (cfDm x y)) /\ ∃ q os', w' = grow (w.drewN q) os' := by
 obtain ⟨xn, xa, xb, xha, xhb, xz⟩ := x
 obtain ⟨yn, ya, yb, yha, yhb, yz⟩ := y
 show Calls Tryz.prog 84 #[.agg #[.string ⟨xn.toArray⟩, xa, xb], .agg #[.string ⟨yn.toArray⟩, ya, yb]] w fun e w' => e = .returned (.int .i64 (jA xn yn)) /\ ∃ q os', w' = grow (w.drewN q) os'
 obtain ⟨W1, e1, k0, k1, HG⟩ : ∃ W1, (w.alloc (.cells #[.string ⟨xn.toArray⟩, xa, xb] 63)).alloc (.cells #[.string ⟨yn.toArray⟩, ya, yb] 63) = W1 /\ W1.cell? ⟨w.heap.size, 0, none⟩ = some (.string ⟨xn.toArray⟩) /\ W1.cell? ⟨w.heap.size + 1, 0, none⟩ = some (.string ⟨yn.toArray⟩) /\ Hid (∃ q os', W1 = grow (w.drewN q) os') := by
  have q1 : (w.alloc (.cells #[.string ⟨xn.toArray⟩, xa, xb] 63)).heap.size = w.heap.size + 1 := by simp
  refine ⟨_, rfl, (jF _ _ _ (by simp)).trans (cN _ _ _ _), ?_, hI ⟨0, _, by rw [alloc_eq_grow, alloc_eq_grow, grow_grow]; rfl⟩⟩
  rw [<- q1]; exact cN _ _ _ _
 go_enter Tryz.func84, Tryz.ntmps84
 go_wp2_with (go_at_call 82; (with_reducible refine (Y5e xn yn W1).mono ?_); rintro e w' ⟨rfl, rfl⟩)
 go_ret
 exact ⟨rfl, HG.out⟩
theorem Y04 {S : Nat -> Prop} {base : Nat} {v : Value} {xs : List Dm} (w : World) (hown : OwnS rDm 63 w base S v xs) (hne : 0 < xs.length) (hlen : xs.length < 1152921504606846976) :
  Calls Tryz.prog 83 #[v, .func (.func 84) #[] #[]] w fun e w' => e = .returned (.tuple #[]) /\ ∃ ys : List Dm, ys.Perm xs /\ ys.Pairwise (fun x y => jE y.name x.name = false) /\ OwnS rDm 63 w' base S v ys /\ w.grownBy w' v.ownBlock := by
 rcases hown.form with ⟨_, h0⟩ | ⟨g, cap, rfl, hgb, hgl⟩
 ·rw [h0] at hne; simp at hne
 obtain ⟨d, hname, hmap, hds, hH, hgl', _, hfin⟩ := hown.sorted (enc := Y2x) (dat := RowDm.dat) (k := 3) (Pr := fun r => r.name = r.dat.name) rfl rfl (by decide) (fun _ => rfl) (fun cs x h => by obtain ⟨r, h1, h2, h3⟩ := Y8q h; exact ⟨r, h1, h2, by rw [h3, h2]⟩)
 have eg : ∀ args w, (callFunc 84 args).run Tryz.prog w = .ok (.enter 84 args) w := enters_of Tryz.func84 (by kernel_rfl) rfl
 have R : RowK Y2x 3 w g 0 d := ⟨fun _ => rfl, fun x u hu => by
  simp [Y2x] at hu
  rcases hu with rfl | rfl | rfl
  ·rfl
  ·exact x.ha
  ·exact x.hb
, hH, hgl'⟩
 have hst := Y32 X1f Y2x cfDm 84 #[] X1u g 0 cap d w eg (fun _ _ _ _ x y => Y9h x y _) R d w rfl (SWK.start hH) (by rw [hds]; exact hlen)
 rw [hds] at hst
 have HST := hI hst
 clear hst
 go_enter Tryz.func83, Tryz.ntmps83
 go_wp2_with (go_at_call 111; (with_reducible refine HST.out.mono ?_); rintro e w1 ⟨rfl, hd1⟩; have HD1 := hI hd1; clear hd1)
 go_end0
 obtain ⟨d', ⟨n, os, rfl⟩, hm⟩ := HD1.out
 obtain ⟨f1, f2, f3, f4⟩ := hfin n os d' (by rw [hds]; exact hm.1)
 refine ⟨rfl, d'.toList.map RowDm.dat, f2, ?_, f1, f4⟩
 rw [jD, jC]
 intro i j hi hj hij
 have hi' : i < d'.size := by simpa using hi
 have hj' : j < d'.size := by simpa using hj
 have hd' : d'.size = xs.length := hm.1.1.trans hds
 have := hm.2 i j (Nat.zero_le _) hij (by omega)
 rw [ltDm, getElem!_pos d' i hi', getElem!_pos d' j hj'] at this
 rw [<- hname _ (f3.mem_iff.1 (jB hi)), <- hname _ (f3.mem_iff.1 (jB hj))]
 simpa using this
structure RowTb where
 name : List UInt8
 a : Value
 b : Value
 c : Value
 d : Value
 ha : a.oneCell' = true
 hb : b.oneCell' = true
 hc : c.oneCell' = true
 hd : d.oneCell' = true
 dat : Tb
instance : Inhabited RowTb := ⟨⟨[], .bool false, .bool false, .bool false, .bool false, rfl, rfl, rfl, rfl, tb0⟩⟩
def Y2y (r : RowTb) : List Value := [.string ⟨r.name.toArray⟩, r.a, r.b, r.c, r.d]
def cfTb (x y : RowTb) : Int := jA x.name y.name
theorem ltTb (x y : RowTb) : ltOf cfTb x y = jE x.name y.name := Y3q _ _
theorem X1v : SWO (ltOf cfTb) where
 irrefl x := by rw [ltTb]; exact swo_names.irrefl _
 trans x y z h1 h2 := by rw [ltTb] at *; exact swo_names.trans _ _ _ h1 h2
 ntrans x y z h1 h2 := by rw [ltTb] at *; exact swo_names.ntrans _ _ _ h1 h2
theorem Y8r {w : World} {S : Nat -> Prop} {cs : List Value} {x : Tb} (h : rTb.rel w S cs x) : ∃ r : RowTb, Y2y r = cs /\ r.dat = x /\ r.name = x.name := by
 have h1 := rTb.one h
 obtain ⟨v, u, rfl, _, _, h3, h4⟩ := h
 exact ⟨⟨x.name, .int .i64 x.pol, .bool x.comp, v, u, rfl, rfl, h1 v (by simp), h1 u (by simp), x⟩, rfl, rfl, rfl⟩
theorem Y9i (x y : RowTb) (w : World) : Calls Tryz.prog 81 #[.agg (Y2y x).toArray, .agg (Y2y y).toArray] w fun e w' => e = .returned (.int .i64 (cfTb x y)) /\ ∃ q os', w' = grow (w.drewN q) os' := by
 obtain ⟨xn, xa, xb, xc, xd, xha, xhb, xhc, xhd, xz⟩ := x
 obtain ⟨yn, ya, yb, yc, yd, yha, yhb, yhc, yhd, yz⟩ := y
 show Calls Tryz.prog 81 #[.agg #[.string ⟨xn.toArray⟩, xa, xb, xc, xd], .agg #[.string ⟨yn.toArray⟩, ya, yb, yc, yd]] w fun e w' => e = .returned (.int .i64 (jA xn yn)) /\ ∃ q os', w' = grow (w.drewN q) os'
 obtain ⟨W1, e1, k0, k1, HG⟩ : ∃ W1, (w.alloc (.cells #[.string ⟨xn.toArray⟩, xa, xb, xc, xd] 66)).alloc (.cells #[.string ⟨yn.toArray⟩, ya, yb, yc, yd] 66) = W1 /\ W1.cell? ⟨w.heap.size, 0, none⟩ = some (.string ⟨xn.toArray⟩) /\ W1.cell? ⟨w.heap.size + 1, 0, none⟩ = some (.string ⟨yn.toArray⟩) /\ Hid (∃ q os', W1 = grow (w.drewN q) os') := by
  have q1 : (w.alloc (.cells #[.string ⟨xn.toArray⟩, xa, xb, xc, xd] 66)).heap.size = w.heap.size + 1 := by simp
  refine ⟨_, rfl, (jF _ _ _ (by simp)).trans (cN _ _ _ _), ?_, hI ⟨0, _, by rw [alloc_eq_grow, alloc_eq_grow, grow_grow]; rfl⟩⟩
  rw [<- q1]; exact cN _ _ _ _
 go_enter Tryz.func81, Tryz.ntmps81
 go_wp2_with (go_at_call 82; (with_reducible refine (Y5e xn yn W1).mono ?_); rintro e w' ⟨rfl, rfl⟩)
 go_ret
 exact ⟨rfl, HG.out⟩
theorem Y05 {S : Nat -> Prop} {base : Nat} {v : Value} {xs : List Tb} (w : World) (hown : OwnS rTb 66 w base S v xs) (hne : 0 < xs.length) (hlen : xs.length < 1152921504606846976) :
  Calls Tryz.prog 80 #[v, .func (.func 81) #[] #[]] w fun e w' => e = .returned (.tuple #[]) /\ ∃ ys : List Tb, ys.Perm xs /\ ys.Pairwise (fun x y => jE y.name x.name = false) /\ OwnS rTb 66 w' base S v ys /\ w.grownBy w' v.ownBlock := by
 rcases hown.form with ⟨_, h0⟩ | ⟨g, cap, rfl, hgb, hgl⟩
 ·rw [h0] at hne; simp at hne
 obtain ⟨d, hname, hmap, hds, hH, hgl', _, hfin⟩ := hown.sorted (enc := Y2y) (dat := RowTb.dat) (k := 5) (Pr := fun r => r.name = r.dat.name) rfl rfl (by decide) (fun _ => rfl) (fun cs x h => by obtain ⟨r, h1, h2, h3⟩ := Y8r h; exact ⟨r, h1, h2, by rw [h3, h2]⟩)
 have eg : ∀ args w, (callFunc 81 args).run Tryz.prog w = .ok (.enter 81 args) w := enters_of Tryz.func81 (by kernel_rfl) rfl
 have R : RowK Y2y 5 w g 0 d := ⟨fun _ => rfl, fun x u hu => by
  simp [Y2y] at hu
  rcases hu with rfl | rfl | rfl | rfl | rfl
  ·rfl
  ·exact x.ha
  ·exact x.hb
  ·exact x.hc
  ·exact x.hd
, hH, hgl'⟩
 have hst := Y32 X1g Y2y cfTb 81 #[] X1v g 0 cap d w eg (fun _ _ _ _ x y => Y9i x y _) R d w rfl (SWK.start hH) (by rw [hds]; exact hlen)
 rw [hds] at hst
 have HST := hI hst
 clear hst
 go_enter Tryz.func80, Tryz.ntmps80
 go_wp2_with (go_at_call 109; (with_reducible refine HST.out.mono ?_); rintro e w1 ⟨rfl, hd1⟩; have HD1 := hI hd1; clear hd1)
 go_end0
 obtain ⟨d', ⟨n, os, rfl⟩, hm⟩ := HD1.out
 obtain ⟨f1, f2, f3, f4⟩ := hfin n os d' (by rw [hds]; exact hm.1)
 refine ⟨rfl, d'.toList.map RowTb.dat, f2, ?_, f1, f4⟩
 rw [jD, jC]
 intro i j hi hj hij
 have hi' : i < d'.size := by simpa using hi
 have hj' : j < d'.size := by simpa using hj
 have hd' : d'.size = xs.length := hm.1.1.trans hds
 have := hm.2 i j (Nat.zero_le _) hij (by omega)
 rw [ltTb, getElem!_pos d' i hi', getElem!_pos d' j hj'] at this
 rw [<- hname _ (f3.mem_iff.1 (jB hi)), <- hname _ (f3.mem_iff.1 (jB hj))]
 simpa using this
end Go.Proofs.YtlopccnehgolnacGreatDoor
namespace Go.Proofs.YtlopccnehgolnacGreatDoor
open Go.RowKit Rb
open Go.Lib renaming hid -> hI
open Go.World renaming cell?_alloc_new -> cN, cell?_setCell_other -> cO, cell?_setCell_same -> cS, cell?_alloc_lt -> cL, block_lt_of_cell? -> jJ, cell?_of_block -> jK, frozen? -> jL, frozen?_setCell -> jM
open Nat renaming lt_of_lt_of_le -> nL, le_trans -> nT, le_refl -> nR
open List renaming length_append -> lA, length_filter_le -> jC, length_singleton -> jD, map_cons -> jE, mem_cons -> jF, mem_map_of_mem -> jG, mergeSort_perm -> jH
open Go.RowKit.Below renaming refl -> jA
open Bool renaming not_eq_true' -> jB
open Go.Op renaming bytesLess -> jI
set_option maxRecDepth 100000
set_option maxHeartbeats 3200000
section
variable {α : Type} {R : Rd α} {e : TypeId} {w w' : World} {base : Nat} {S : Nat -> Prop} {v : Value} {xs : List α} {x : α}
theorem Z43 {P : Program} {t ty : TypeId} (hT : ElemOf P R t e) (hown : OwnS R e w base S v xs) (ad : Addr) (c : Nat) (news : List Value) (hrel : R.rel w S news x) (hSb : ∀ b, S b -> b < w.heap.size)
  (hnews : ∀ j u, news[j]? = some u -> w.cell? (ad.add j) = some u) (hbytes : (xs.length + 1) * R.bytes <= 140737488355328) (hbase : base <= w.heap.size) :
  ∃ v' w', (Builtin.append_ #[t, t] ty #[v, .slice (some ad) 1 c]).run P w = .ok v' w' /\ OwnS R e w' base S v' (xs ++ [x]) /\ w.grownBy w' v.ownBlock /\
   (v'.ownBlock = v.ownBlock \/ v'.ownBlock = some w.heap.size) := by
 obtain ⟨i, z, hi, hz, hs1, hs2, hs3⟩ := hT.hi
 obtain ⟨cells, h1, h2, h3, h4⟩ := hown
 have h63 : xs.length + 1 <= maxLen := by
  have := Nat.le_mul_of_pos_right (xs.length + 1) hT.hb
  unfold maxLen; omega
 obtain ⟨v', w', hrun, k1, k2, _, k4⟩ := run_append_own_at (P := P) w base t ty e i z R.k R.bytes hT.ht hi hz hs1 hs2 hs3 hT.hk v xs.length cells h1 ad 1 c news (by rw [Nat.one_mul]; exact R.len hrel) hnews (R.one hrel) h63 hbytes hbase
 have hK : Keeps S w w' := .grown k2 fun g hg => h2 g hg
 refine ⟨v', w', hrun, ⟨cells ++ news, by rw [lA]; exact k1, ?_, fun _ => by rw [lA]; exact hbytes, ?_⟩, k2, k4⟩
 ·intro g hg hS
  rcases k4 with k4 | k4
  ·exact h2 g (k4 ▸ hg) hS
  ·rw [k4] at hg; injection hg with hg; have := hSb g hS; omega
 ·intro j y hy
  obtain ⟨d1, d2⟩ := Z1i (k := R.k) h1.1 (R.len hrel) j
  rcases Nat.lt_or_ge j xs.length with hj | hj
  ·rw [d1 hj]
   rw [List.getElem?_append_left hj] at hy
   exact R.keep (h4 j y hy) hK
  ·have hj' : j = xs.length := by
    have : j < (xs ++ [x]).length := (List.getElem?_eq_some_iff.1 hy).1
    simp at this; omega
   subst hj'
   rw [d2]
   obtain rfl : x = y := by simpa using hy
   exact R.keep hrel hK
theorem Z3m {P : Program} {ops : Array Oper} {rest : List Oper} {o : Oper} {a : Act} {Q : Exit -> Act -> World -> Prop} {t : TypeId} (hT : ElemOf P R t e) (hgd : o.guard = none) (s y : Operand)
  (ho : o.op = .call { callee := .builtin .append, args := #[s, y], argTypes := #[t, t] })
  (hs : a.eval s = v) (hown : OwnS R e w base S v xs) (ad : Addr) (c : Nat) (news : List Value) (hx : a.eval y = .slice (some ad) 1 c) (hrel : R.rel w S news x) (hSb : ∀ b, S b -> b < w.heap.size)
  (hnews : ∀ j u, news[j]? = some u -> w.cell? (ad.add j) = some u) (hbytes : (xs.length + 1) * R.bytes <= 140737488355328) (hbase : base <= w.heap.size)
  (h : ∀ v' w', OwnS R e w' base S v' (xs ++ [x]) -> Below base w w' -> w.grownBy w' v.ownBlock -> (v'.ownBlock = v.ownBlock \/ v'.ownBlock = some w.heap.size) -> wpList P ops Q rest (a.put o.dst v') w') :
  wpList P ops Q (o :: rest) a w := by
 obtain ⟨v', w', hr, h2, h3, h4⟩ := Z43 (P := P) (t := t) (ty := o.type) hT hown ad c news hrel hSb hnews hbytes hbase
 have hlt := hown.lt
 refine wpList_plain hgd fun K hK => ?_
 unfold Oper.wp execOp
 simp only [ho, resolve, invoke, builtin, Sem.run_bind, Sem.run_pure, Result.andThen_ok, List.map_toArray, jE, List.map_nil, hs, hx, hr]
 exact hK _ _ (h v' w' h2 ((jA base w).grown h3 hbase fun k hk => (hlt k hk).1) h3 h4)
theorem OwnS.grown (h : OwnS R e w base S v xs) {r : Option Nat} (hg : w.grownBy w' r) (hr : ∀ g, r = some g -> v.ownBlock ≠ some g /\ ¬ S g) : OwnS R e w' base S v xs := by
 refine h.kept hg ?_ fun g hg => (hr g hg).2
 rcases hv : v.ownBlock with _ | q
 ·exact .inl rfl
 ·rcases r with _ | g
  ·exact .inr (by simp)
  ·refine .inr fun he => ?_
   have := (hr g rfl).1
   rw [hv] at this
   exact this he
theorem Y1e {B n : Nat} {w0 w : World} (hb : Below B w0 w) (hn : B <= n) (a b : Value) : Below B w0 ((w.setCell ⟨n, 0, none⟩ a).setCell ⟨n, 1, none⟩ b) := (hb.setCell (p := ⟨n, 0, none⟩) hn a).setCell (p := ⟨n, 1, none⟩) hn b
end
theorem Y3l {w X w1 : World} {S : Nat -> Prop} {b1 : List Dm} {b2 : List Tb} {A1 B1 : Option Addr} {n1 m1 c1 e1 : Nat} {x0 x1 : Value} (hb : Below X.heap.size X w1) (hsz : X.heap.size = w.heap.size + 3)
  (hv : OwnS rDm 63 w1 X.heap.size S (.slice A1 n1 c1) b1) (hu : OwnS rTb 66 w1 X.heap.size S (.slice B1 m1 e1) b2) (hS : ∀ q, S q -> q < w.heap.size)
  (k0 : w1.cell? ⟨w.heap.size, 0, none⟩ = some x0) (k1 : w1.cell? ⟨w.heap.size, 1, none⟩ = some x1) (f0 : w1.frozen? ⟨w.heap.size, 0, none⟩ = false) (f1 : w1.frozen? ⟨w.heap.size, 1, none⟩ = false) :
  ∃ W2, (w1.setCell ⟨w.heap.size, 0, none⟩ (.slice A1 n1 c1)).setCell ⟨w.heap.size, 1, none⟩ (.slice B1 m1 e1) = W2 /\ Hid (∀ w0, Below w.heap.size w0 w1 -> Below w.heap.size w0 W2) /\ Hid (∀ q, w.heap.size < q -> q < X.heap.size -> W2.heap[q]? = X.heap[q]?) /\
   Hid (OwnS rDm 63 W2 X.heap.size S (.slice A1 n1 c1) b1) /\ Hid (OwnS rTb 66 W2 X.heap.size S (.slice B1 m1 e1) b2) /\
   Hid (∀ g, (Value.slice A1 n1 c1).ownBlock = some g -> X.heap.size <= g /\ g < W2.heap.size) /\ Hid (∀ g, (Value.slice B1 m1 e1).ownBlock = some g -> X.heap.size <= g /\ g < W2.heap.size) /\ Hid (X.heap.size <= W2.heap.size) /\
   W2.cell? ⟨w.heap.size, 0, none⟩ = some (.slice A1 n1 c1) /\ W2.cell? ⟨w.heap.size, 1, none⟩ = some (.slice B1 m1 e1) /\ W2.frozen? ⟨w.heap.size, 0, none⟩ = false /\ W2.frozen? ⟨w.heap.size, 1, none⟩ = false := by
 have HG : w1.grownBy ((w1.setCell ⟨w.heap.size, 0, none⟩ (.slice A1 n1 c1)).setCell ⟨w.heap.size, 1, none⟩ (.slice B1 m1 e1)) (some w.heap.size) := Z0c [.slice A1 n1 c1, .slice B1 m1 e1] 0
 have hv' := hv.grown HG fun g hg => by
  injection hg with hg
  subst hg
  exact ⟨fun h => by have := (hv.lt _ h).1; omega, fun h => by have := hS _ h; omega⟩
 have hu' := hu.grown HG fun g hg => by
  injection hg with hg
  subst hg
  exact ⟨fun h => by have := (hu.lt _ h).1; omega, fun h => by have := hS _ h; omega⟩
 refine ⟨_, rfl, hI fun w0 h0 => Y1e h0 (nR _) _ _, hI fun q h1 h2 => ?_, hI hv', hI hu', hI hv'.lt, hI hu'.lt, hI (nT hb.size HG.size), ?_, ?_, ?_, ?_⟩
 ·exact (HG.block q (nL h2 hb.size) (fun h => by injection h with h; omega)).trans (hb.block q h2)
 ·exact (cO _ _ _ _ (by simp)).trans (cS _ _ _ k0)
 ·exact cS _ _ _ ((cO _ _ _ _ (by simp)).trans k1)
 ·rw [jM, jM]; exact f0
 ·rw [jM, jM]; exact f1
section
variable {α β : Type} {R1 : Rd α} {R2 : Rd β} {e1 e2 : TypeId} {n N : Nat} {W3 w4 : World} {S : Nat -> Prop} {v u v2 : Value} {xs : List α} {ys : List β}
theorem Y6s (hS : ∀ q, S q -> q < n) (hnN : n < N) (hu : OwnS R2 e2 W3 N S u ys) (hg : W3.grownBy w4 v.ownBlock) (hv4 : v2.ownBlock = v.ownBlock \/ v2.ownBlock = some W3.heap.size) (hne : ∀ g, v.ownBlock = some g -> u.ownBlock ≠ some g)
  (hlv : ∀ g, v.ownBlock = some g -> N <= g) (hNW : N <= W3.heap.size) :
  Below N W3 w4 /\ OwnS R2 e2 w4 N S u ys /\ (∀ g, v2.ownBlock = some g -> u.ownBlock ≠ some g) /\ ∀ g, v2.ownBlock = some g -> N <= g := by
 refine ⟨⟨hg.os, hg.tape, hg.output, hg.size, fun q hq => hg.block q (nL hq hNW) fun h => ?_⟩, hu.grown hg fun g h => ⟨hne g h, fun hq => ?_⟩, fun g h => ?_, fun g h => ?_⟩
 ·have := hlv q h.symm; omega
 ·have := hS g hq; have := hlv g h; omega
 ·rcases hv4 with h4 | h4
  ·exact hne g (h4 ▸ h)
  ·rw [h4] at h
   injection h with h
   subst h
   intro hq
   have := (hu.lt _ hq).2
   omega
 ·rcases hv4 with h4 | h4
  ·exact hlv g (h4 ▸ h)
  ·rw [h4] at h; injection h with h; omega
theorem Y0q (hS : ∀ q, S q -> q < n) (ho : OwnS R1 e1 w4 N S v xs) {m : Nat} (hm : n <= m) (hmN : m < N) (vs : List Value) : OwnS R1 e1 (w4.setCells m 0 vs) N S v xs := by
 refine ho.grown (Z0c vs 0) fun g hg => ?_
 injection hg with hg
 subst hg
 exact ⟨fun h => by have := (ho.lt _ h).1; omega, fun h => by have := hS _ h; omega⟩
theorem Z7o (hS : ∀ q, S q -> q < n) (hnN : n < N) (ho : OwnS R1 e1 w4 N S v xs) (p : Nat) (x : Value) : OwnS R1 e1 (w4.setCell ⟨n, p, none⟩ x) N S v xs := by
 have hg : w4.grownBy (w4.setCells n p [x]) (some n) := Z0c [x] p
 refine ho.grown hg fun g hg => ?_
 injection hg with hg
 subst hg
 exact ⟨fun h => by have := (ho.lt _ h).1; omega, fun h => by have := hS _ h; omega⟩
theorem Y6t (hS : ∀ q, S q -> q < n) (hnN : n < N) (hu : OwnS R2 e2 W3 N S u ys) (hg : W3.grownBy w4 v.ownBlock) (hne : ∀ g, v.ownBlock = some g -> u.ownBlock ≠ some g)
  (hlv : ∀ g, v.ownBlock = some g -> N <= g) (hNW : N <= W3.heap.size) : Below N W3 w4 /\ OwnS R2 e2 w4 N S u ys := by
 refine ⟨⟨hg.os, hg.tape, hg.output, hg.size, fun q hq => hg.block q (nL hq hNW) fun h => ?_⟩, hu.grown hg fun g h => ⟨hne g h, fun hq => ?_⟩⟩
 ·have := hlv q h.symm; omega
 ·have := hS g hq; have := hlv g h; omega
end
def X0g (l : List Dm) : List Dm := l.mergeSort fun x y => !jI y.name x.name
def X0h (l : List Tb) : List Tb := l.mergeSort fun x y => !jI y.name x.name
def Z8v (b : Bk) (d : Dm) : Bk := ⟨X0g (delD b.doms d.name ++ [d]), delT b.tabs d.name⟩
def Y0x (b : Bk) (t : Tb) : Bk := ⟨delD b.doms t.name, X0h (delT b.tabs t.name ++ [t])⟩
theorem Y4r {a b : List UInt8} (h1 : jI a b = false) (h2 : jI b a = false) : a = b := by
 rw [Go.Proofs.bytesLess_eq] at h1 h2
 simp only [decide_eq_false_iff_not, List.not_lt] at h1 h2
 exact List.le_antisymm h2 h1
theorem Z9l {α : Type} {f : α -> List UInt8} : ∀ {l : List α}, (l.map f).Nodup -> ∀ x ∈ l, ∀ y ∈ l, f x = f y -> x = y
 | [], _, x, hx, _, _, _ => by cases hx
 | a :: l, h, x, hx, y, hy, e => by
  rw [jE, List.nodup_cons] at h
  rcases jF.1 hx with hx' | hx'
  ·rcases jF.1 hy with hy' | hy'
   ·rw [hx', hy']
   ·exact absurd (by rw [<- hx', e]; exact jG hy') h.1
  ·rcases jF.1 hy with hy' | hy'
   ·exact absurd (by rw [<- hy', <- e]; exact jG hx') h.1
   ·exact Z9l h.2 x hx' y hy' e
theorem Y2b {α : Type} (f : α -> List UInt8) {ys xs : List α} (hp : ys.Perm xs) (hs : ys.Pairwise fun x y => jI (f y) (f x) = false) (hn : (xs.map f).Nodup) : ys = xs.mergeSort fun x y => !jI (f y) (f x) := by
 refine List.Perm.eq_of_pairwise (le := fun x y => (!jI (f y) (f x)) = true) ?_ ?_ ?_ (hp.trans (jH _ _).symm)
 ·intro a b ha hb h1 h2
  simp only [jB] at h1 h2
  exact Z9l hn a (hp.mem_iff.1 ha) b ((jH _ _).mem_iff.1 hb) (Y4r h2 h1)
 ·exact hs.imp fun h => by simpa using h
 ·refine List.pairwise_mergeSort ?_ ?_ _
  ·intro a b c h1 h2
   simp only [jB] at h1 h2 ⊢
   exact swo_names.ntrans _ _ _ h2 h1
  ·intro a b
   cases h : jI (f b) (f a) with
   | false => simp
   | true => have := swo_names.asymmA h; simp [this]
theorem Z6e {α : Type} {f : α -> List UInt8} {l : List α} (hn : (l.map f).Nodup) (x : α) : ((l.filter (fun d => !(f d == f x)) ++ [x]).map f).Nodup := by
 rw [List.map_append, List.nodup_append]
 refine ⟨(List.Sublist.map f List.filter_sublist).nodup hn, by simp, fun a ha b hb => ?_⟩
 obtain ⟨d, hd, rfl⟩ := List.mem_map.1 ha
 have h2 := (List.mem_filter.1 hd).2
 simp only [jE, List.map_nil, List.mem_singleton] at hb
 subst hb
 intro he
 rw [he] at h2
 simp at h2
theorem Y3m {S : Nat -> Prop} {cs : List Value} {b : Bk} (d : Dm) (w : World) (hl : rBk.rel w S cs b) (hSw : ∀ q, S q -> q < w.heap.size) (hdm : d.name.length <= 140737488355328 /\ InI d.lo /\ InI d.hi) (hn : (b.doms.map (·.name)).Nodup) (_hlen : b.doms.length < 1000000000000) :
  Calls Tryz.prog 46 #[.agg cs.toArray, .agg #[.string ⟨d.name.toArray⟩, .int .i64 d.lo, .int .i64 d.hi]] w fun e w' => ∃ v u, e = .returned (.agg #[v, u]) /\ OwnS rDm 63 w' w.heap.size S v (Z8v b d).doms /\ OwnS rTb 66 w' w.heap.size S u (Z8v b d).tabs /\ Below w.heap.size w w' := by
 obtain ⟨v0, u0, rfl, hd, ht⟩ := hl
 have hl : rBk.rel w S [v0, u0] b := ⟨v0, u0, rfl, hd, ht⟩
 obtain ⟨A, c, rfl, _⟩ := rSl.elems hd
 obtain ⟨B, d0, rfl, _⟩ := rSl.elems ht
 obtain ⟨X, e1, HB1, k0, k1, fk0, fk1, nm0, nm1, nm2, r0, r1, z0, z1, hsz⟩ : ∃ X, ((w.alloc (.cells #[.slice A b.doms.length c, .slice B b.tabs.length d0] 38)).alloc (.cells #[.string ⟨d.name.toArray⟩, .int .i64 d.lo, .int .i64 d.hi] 63)).alloc (.cells #[.slice none 0 0, .slice none 0 0] 38) = X /\ Hid (Below w.heap.size w X) /\
   X.cell? ⟨w.heap.size, 0, none⟩ = some (.slice A b.doms.length c) /\ X.cell? ⟨w.heap.size, 1, none⟩ = some (.slice B b.tabs.length d0) /\ X.frozen? ⟨w.heap.size, 0, none⟩ = false /\ X.frozen? ⟨w.heap.size, 1, none⟩ = false /\ X.cell? ⟨w.heap.size + 1, 0, none⟩ = some (.string ⟨d.name.toArray⟩) /\ X.cell? ⟨w.heap.size + 1, 1, none⟩ = some (.int .i64 d.lo) /\ X.cell? ⟨w.heap.size + 1, 2, none⟩ = some (.int .i64 d.hi) /\
   X.cell? ⟨w.heap.size + 2, 0, none⟩ = some (.slice none 0 0) /\ X.cell? ⟨w.heap.size + 2, 1, none⟩ = some (.slice none 0 0) /\ X.frozen? ⟨w.heap.size + 2, 0, none⟩ = false /\ X.frozen? ⟨w.heap.size + 2, 1, none⟩ = false /\ X.heap.size = w.heap.size + 3 := by
  have fz : ∀ (w : World) (cs : Array Value) (t : TypeId) (o : Nat), (w.alloc (.cells cs t)).frozen? ⟨w.heap.size, o, none⟩ = false := fun w cs t o => by simp
  have fl : ∀ (w : World) (ob : Obj) (p : Addr), p.block < w.heap.size -> (w.alloc ob).frozen? p = w.frozen? p := fun w ob p h => ((jA w.heap.size w).alloc (nR _) ob).frozen (p := p) h
  have q1 : (w.alloc (.cells #[.slice A b.doms.length c, .slice B b.tabs.length d0] 38)).heap.size = w.heap.size + 1 := by simp
  have q2 : ((w.alloc (.cells #[.slice A b.doms.length c, .slice B b.tabs.length d0] 38)).alloc (.cells #[.string ⟨d.name.toArray⟩, .int .i64 d.lo, .int .i64 d.hi] 63)).heap.size = w.heap.size + 2 := by simp
  refine ⟨_, rfl, hI ((bA.alloc (by simp) _).alloc (by simp <;> omega) _), ?_, ?_, ?_, ?_, ?_, ?_, ?_, ?_, ?_, ?_, ?_, by simp⟩
  ·exact (cL _ _ _ (by simp <;> omega)).trans ((cL _ _ _ (by simp)).trans (cN _ _ _ _))
  ·exact (cL _ _ _ (by simp <;> omega)).trans ((cL _ _ _ (by simp)).trans (cN _ _ _ _))
  ·exact (fl _ _ _ (by simp <;> omega)).trans ((fl _ _ _ (by simp)).trans (fz _ _ _ _))
  ·exact (fl _ _ _ (by simp <;> omega)).trans ((fl _ _ _ (by simp)).trans (fz _ _ _ _))
  ·rw [<- q1]; exact (cL _ _ _ (by simp)).trans (cN _ _ _ _)
  ·rw [<- q1]; exact (cL _ _ _ (by simp)).trans (cN _ _ _ _)
  ·rw [<- q1]; exact (cL _ _ _ (by simp)).trans (cN _ _ _ _)
  ·rw [<- q2]; exact cN _ _ _ _
  ·rw [<- q2]; exact cN _ _ _ _
  ·rw [<- q2]; exact fz _ _ _ _
  ·rw [<- q2]; exact fz _ _ _ _
 have HSZ := hI hsz
 have HSW : Hid (∀ q, S q -> q < X.heap.size) := hI fun q hq => by have := hSw q hq; omega
 have HSW0 := hI hSw
 have HWO := hI (Z5n d.name X (Rd.below hl HB1.out) HSW.out)
 have hq0 : w.heap.size < X.heap.size := by omega
 have hq1 : w.heap.size + 1 < X.heap.size := by omega
 have hq2 : w.heap.size + 2 < X.heap.size := by omega
 have HKEEP : Hid (∀ w' : World, Below X.heap.size X w' -> w'.cell? ⟨w.heap.size, 0, none⟩ = some (.slice A b.doms.length c) /\ w'.cell? ⟨w.heap.size, 1, none⟩ = some (.slice B b.tabs.length d0) /\ w'.frozen? ⟨w.heap.size, 0, none⟩ = false /\ w'.frozen? ⟨w.heap.size, 1, none⟩ = false) := hI fun w' hb =>
  ⟨(hb.ce 0 hq0).trans k0, (hb.ce 1 hq0).trans k1, (hb.fr 0 hq0).trans fk0, (hb.fr 1 hq0).trans fk1⟩
 have HBOX : Hid (∀ w' : World, (∀ q, w.heap.size < q -> q < X.heap.size -> w'.heap[q]? = X.heap[q]?) -> w'.cell? ⟨w.heap.size + 1, 0, none⟩ = some (.string ⟨d.name.toArray⟩) /\ w'.cell? ⟨w.heap.size + 1, 1, none⟩ = some (.int .i64 d.lo) /\ w'.cell? ⟨w.heap.size + 1, 2, none⟩ = some (.int .i64 d.hi) /\
   w'.cell? ⟨w.heap.size + 2, 0, none⟩ = some (.slice none 0 0) /\ w'.cell? ⟨w.heap.size + 2, 1, none⟩ = some (.slice none 0 0) /\ w'.frozen? ⟨w.heap.size + 2, 0, none⟩ = false /\ w'.frozen? ⟨w.heap.size + 2, 1, none⟩ = false) := hI fun w' hb => by
  have c1 : ∀ o, w'.cell? ⟨w.heap.size + 1, o, none⟩ = X.cell? ⟨w.heap.size + 1, o, none⟩ := fun o => jK (hb _ (by show _ < w.heap.size + 1; omega) hq1)
  have c2 : ∀ o, w'.cell? ⟨w.heap.size + 2, o, none⟩ = X.cell? ⟨w.heap.size + 2, o, none⟩ := fun o => jK (hb _ (by show _ < w.heap.size + 2; omega) hq2)
  have c3 : ∀ o, w'.frozen? ⟨w.heap.size + 2, o, none⟩ = X.frozen? ⟨w.heap.size + 2, o, none⟩ := fun o => by
   unfold jL
   rw [hb (w.heap.size + 2) (by omega) hq2]
  exact ⟨(c1 0).trans nm0, (c1 1).trans nm1, (c1 2).trans nm2, (c2 0).trans r0, (c2 1).trans r1, (c3 0).trans z0, (c3 1).trans z1⟩
 have HN := hI hn
 have HXS := hI (Nat.le_of_lt hq0)
 have HQ0 := hI hq0
 have HREL : Hid (∀ w' : World, Below w.heap.size w w' -> rDm.rel w' S [.string ⟨d.name.toArray⟩, .int .i64 d.lo, .int .i64 d.hi] d) := hI fun w' _ => ⟨rfl, hdm.1, hdm.2.1, hdm.2.2⟩
 have HBYT : Hid (((delD b.doms d.name).length + 1) * rDm.bytes <= 140737488355328) := hI (by have := jC (fun z : Dm => !(z.name == d.name)) b.doms; unfold delD; simp only [rDm]; omega)
 clear hn _hlen hl hd ht hSw hsz fk0 fk1 hq0 hq1 hq2 r0 r1 z0 z1
 go_enter Tryz.func46, Tryz.ntmps46
 go_wp2_with (first
  | (go_at_call 35; (with_reducible refine HWO.out.mono ?_); rintro e w1 ⟨v1, u1, rfl, hv1, hu1, hne1, hb1⟩; obtain ⟨A1, n1, c1, rfl⟩ := hv1.shape; obtain ⟨B1, m1, e1', rfl⟩ := hu1.shape; have HB2 := hI hb1; have HNE1 := hI hne1; obtain ⟨b0, b1, fb0, fb1⟩ := HKEEP.out _ hb1; obtain ⟨W2, e2, HB22, HBX2, HV2, HU2, HLV, HLU, HZ2, p0, p1, fp0, fp1⟩ := Y3l HB2.out HSZ.out hv1 hu1 HSW0.out b0 b1 fb0 fb1; obtain ⟨ng0, ng1, ng2, _, _, _, _⟩ := HBOX.out W2 HBX2.out; clear hv1 hu1 hne1 hb1 k0 k1 nm0 nm1 nm2; obtain ⟨W3, e3, HG3, HC3, q0, q1, fq0, fq1⟩ : ∃ W3, W2.alloc (.cells #[.string ⟨d.name.toArray⟩, .int .i64 d.lo, .int .i64 d.hi] 63) = W3 /\ Hid (Below W2.heap.size W2 W3) /\ Hid (∀ j u, ([.string ⟨d.name.toArray⟩, .int .i64 d.lo, .int .i64 d.hi] : List Value)[j]? = some u -> W3.cell? ((⟨W2.heap.size, 0, none⟩ : Addr).add j) = some u) /\ W3.cell? ⟨w.heap.size, 0, none⟩ = some (.slice A1 n1 c1) /\ W3.cell? ⟨w.heap.size, 1, none⟩ = some (.slice B1 m1 e1') /\ W3.frozen? ⟨w.heap.size, 0, none⟩ = false /\ W3.frozen? ⟨w.heap.size, 1, none⟩ = false := (by (have hbb : Below W2.heap.size W2 (W2.alloc (.cells #[.string ⟨d.name.toArray⟩, .int .i64 d.lo, .int .i64 d.hi] 63)) := (jA _ _).alloc (nR _) _; have hlt : w.heap.size < W2.heap.size := (jJ _ _ p0); exact ⟨_, rfl, hI hbb, hI (fun j u hu => Z8i W2 [.string ⟨d.name.toArray⟩, .int .i64 d.lo, .int .i64 d.hi] 63 j u hu), (hbb.ce 0 hlt).trans p0, (hbb.ce 1 hlt).trans p1, (hbb.fr 0 hlt).trans fp0, (hbb.fr 1 hlt).trans fp1⟩)); have HBW2 := hI (HB22.out w (HB1.out.trans (HB2.out.mono HB1.out.size))))
  | (at_builtin; refine Z3m (R := rDm) (S := S) (base := X.heap.size) (v := .slice A1 n1 c1) Y59 rfl (.tmp 10) (.tmp 12) rfl rfl (by exact HV2.out.below HG3.out) ⟨W2.heap.size, 0, none⟩ 1 [.string ⟨d.name.toArray⟩, .int .i64 d.lo, .int .i64 d.hi] rfl (by exact HREL.out W3 (HBW2.out.trans (HG3.out.mono HBW2.out.size))) (by exact fun q hq => by have := HSW.out q hq; have := HZ2.out; have := HG3.out.size; omega) HC3.out (by exact HBYT.out) (by exact nT HZ2.out HG3.out.size) ?_; intro v2 w4 ho4 hb4 hg4 hv4; obtain ⟨A4, n4, c4, rfl⟩ := ho4.shape; obtain ⟨hbb4, hu4, hne4, hlv4⟩ := Y6s HSW0.out HQ0.out (HU2.out.below HG3.out) hg4 hv4 HNE1.out (fun g hg => (HLV.out g hg).1) (nT HZ2.out HG3.out.size); have b0 := (hbb4.ce 0 HQ0.out).trans q0; have b1 := (hbb4.ce 1 HQ0.out).trans q1; have fb0 := (hbb4.fr 0 HQ0.out).trans fq0; have fb1 := (hbb4.fr 1 HQ0.out).trans fq1; have HNE4 := hI hne4; have HLV4 := hI hlv4; obtain ⟨W5, e5, HO5, HU5, HB5, HZ5, HBW5, p0, p1⟩ : ∃ W5, w4.setCell ⟨w.heap.size, 0, none⟩ (.slice A4 n4 c4) = W5 /\ Hid (OwnS rDm 63 W5 X.heap.size S (.slice A4 n4 c4) (delD b.doms d.name ++ [d])) /\ Hid (OwnS rTb 66 W5 X.heap.size S (.slice B1 m1 e1') (delT b.tabs d.name)) /\
    Hid (∀ q, w.heap.size < q -> q < X.heap.size -> W5.heap[q]? = W3.heap[q]?) /\ Hid (W3.heap.size <= W5.heap.size) /\ Hid (Below w.heap.size w W5) /\ W5.cell? ⟨w.heap.size, 0, none⟩ = some (.slice A4 n4 c4) /\ W5.cell? ⟨w.heap.size, 1, none⟩ = some (.slice B1 m1 e1') := (by (exact ⟨_, rfl, hI (Z7o HSW0.out HQ0.out ho4 0 _), hI (Z7o HSW0.out HQ0.out hu4 0 _), hI (fun q h1 h2 => ((Z0c [.slice A4 n4 c4] 0 : w4.grownBy (w4.setCells w.heap.size 0 [.slice A4 n4 c4]) (some w.heap.size)).block q (nL h2 (nT HZ2.out (nT HG3.out.size hbb4.size))) (fun h => Nat.ne_of_gt h1 (Option.some.inj h))).trans (hbb4.block q h2)), hI (nT hbb4.size (Z0c [.slice A4 n4 c4] 0 : w4.grownBy (w4.setCells w.heap.size 0 [.slice A4 n4 c4]) (some w.heap.size)).size), hI (((HBW2.out.trans (HG3.out.mono HBW2.out.size)).trans (hbb4.mono HXS.out)).setCell (p := ⟨w.heap.size, 0, none⟩) (nR _) _), cS _ _ _ b0, (cO _ _ _ _ (by simp)).trans b1⟩)); clear ho4 hb4 hg4 hv4 hu4 hne4 hlv4 hbb4 e3 q0 q1 fq0 fq1)
  | (go_at_call 83; (with_reducible refine (Y04 W5 HO5.out (by simp) (by have := HBYT.out; simp only [rDm] at this; simp only [lA, jD]; omega)).mono ?_); rintro e w6 ⟨rfl, ys, hp, hs, ho6, hg6⟩; obtain rfl := Y2b (fun z : Dm => z.name) hp hs (Z6e (f := fun z : Dm => z.name) HN.out d); obtain ⟨hbb6, hu6⟩ := Y6t HSW0.out HQ0.out HU5.out hg6 HNE4.out HLV4.out (nT HZ2.out (nT HG3.out.size HZ5.out)); have b0 := (hbb6.ce 0 HQ0.out).trans p0; have b1 := (hbb6.ce 1 HQ0.out).trans p1; have HO6 := hI ho6; have HU6 := hI hu6; have HX6 : Hid (∀ q, w.heap.size < q -> q < X.heap.size -> w6.heap[q]? = X.heap[q]?) := hI (fun q h1 h2 => (hbb6.block q h2).trans ((HB5.out q h1 h2).trans ((HG3.out.block q (nL h2 HZ2.out)).trans (HBX2.out q h1 h2)))); have HB6 : Hid (Below w.heap.size w w6) := hI (HBW5.out.trans (hbb6.mono HXS.out)); obtain ⟨_, _, _, r0, r1, z0, z1⟩ := HBOX.out w6 HX6.out; clear hp hs ho6 hg6 hbb6 hu6 p0 p1 e5 e2))
 have y0 : ((w6.setCell ⟨w.heap.size + 2, 0, none⟩ (.slice A4 n4 c4)).setCell ⟨w.heap.size + 2, 1, none⟩ (.slice B1 m1 e1')).cell? ⟨w.heap.size + 2, 0, none⟩ = some (.slice A4 n4 c4) := (cO _ _ _ _ (by simp)).trans (cS _ _ _ r0)
 have y1 : ((w6.setCell ⟨w.heap.size + 2, 0, none⟩ (.slice A4 n4 c4)).setCell ⟨w.heap.size + 2, 1, none⟩ (.slice B1 m1 e1')).cell? ⟨w.heap.size + 2, 1, none⟩ = some (.slice B1 m1 e1') := cS _ _ _ ((cO _ _ _ _ (by simp)).trans r1)
 have hsx := HSZ.out
 have hO := (Y0q HSW0.out HO6.out (m := w.heap.size + 2) (by omega) (by omega) [.slice A4 n4 c4, .slice B1 m1 e1']).lower HXS.out
 have hU := (Y0q HSW0.out HU6.out (m := w.heap.size + 2) (by omega) (by omega) [.slice A4 n4 c4, .slice B1 m1 e1']).lower HXS.out
 refine bodyPost_ret (by simp [results, Tryz.results46, go_sem, y0, y1]; rfl) rfl ?_
 exact ⟨_, _, rfl, hO, hU, (HB6.out.setCell (p := ⟨w.heap.size + 2, 0, none⟩) (show w.heap.size <= w.heap.size + 2 by omega) _).setCell (p := ⟨w.heap.size + 2, 1, none⟩) (show w.heap.size <= w.heap.size + 2 by omega) _⟩
theorem Z5y {S : Nat -> Prop} {cs : List Value} {b : Bk} (t : Tb) {TA TR : Option Addr} {tc td : Nat} (w : World) (hl : rBk.rel w S cs b) (hSw : ∀ q, S q -> q < w.heap.size) (htb : rTb.rel w S [.string ⟨t.name.toArray⟩, .int .i64 t.pol, .bool t.comp, .slice TA t.ins.length tc, .slice TR t.rules.length td] t) (hn : (b.tabs.map (·.name)).Nodup) (_hlen : b.tabs.length < 1000000000000) :
  Calls Tryz.prog 45 #[.agg cs.toArray, .agg #[.string ⟨t.name.toArray⟩, .int .i64 t.pol, .bool t.comp, .slice TA t.ins.length tc, .slice TR t.rules.length td]] w fun e w' => ∃ v u, e = .returned (.agg #[v, u]) /\ OwnS rDm 63 w' w.heap.size S v (Y0x b t).doms /\ OwnS rTb 66 w' w.heap.size S u (Y0x b t).tabs /\ Below w.heap.size w w' := by
 obtain ⟨v0, u0, rfl, hd, ht⟩ := hl
 have hl : rBk.rel w S [v0, u0] b := ⟨v0, u0, rfl, hd, ht⟩
 obtain ⟨A, c, rfl, _⟩ := rSl.elems hd
 obtain ⟨B, d0, rfl, _⟩ := rSl.elems ht
 obtain ⟨X, e1, HB1, k0, k1, fk0, fk1, nm0, nm1, nm2, nm3, nm4, r0, r1, z0, z1, hsz⟩ : ∃ X, ((w.alloc (.cells #[.slice A b.doms.length c, .slice B b.tabs.length d0] 38)).alloc (.cells #[.string ⟨t.name.toArray⟩, .int .i64 t.pol, .bool t.comp, .slice TA t.ins.length tc, .slice TR t.rules.length td] 66)).alloc (.cells #[.slice none 0 0, .slice none 0 0] 38) = X /\ Hid (Below w.heap.size w X) /\
   X.cell? ⟨w.heap.size, 0, none⟩ = some (.slice A b.doms.length c) /\ X.cell? ⟨w.heap.size, 1, none⟩ = some (.slice B b.tabs.length d0) /\ X.frozen? ⟨w.heap.size, 0, none⟩ = false /\ X.frozen? ⟨w.heap.size, 1, none⟩ = false /\ X.cell? ⟨w.heap.size + 1, 0, none⟩ = some (.string ⟨t.name.toArray⟩) /\ X.cell? ⟨w.heap.size + 1, 1, none⟩ = some (.int .i64 t.pol) /\ X.cell? ⟨w.heap.size + 1, 2, none⟩ = some (.bool t.comp) /\ X.cell? ⟨w.heap.size + 1, 3, none⟩ = some (.slice TA t.ins.length tc) /\ X.cell? ⟨w.heap.size + 1, 4, none⟩ = some (.slice TR t.rules.length td) /\
   X.cell? ⟨w.heap.size + 2, 0, none⟩ = some (.slice none 0 0) /\ X.cell? ⟨w.heap.size + 2, 1, none⟩ = some (.slice none 0 0) /\ X.frozen? ⟨w.heap.size + 2, 0, none⟩ = false /\ X.frozen? ⟨w.heap.size + 2, 1, none⟩ = false /\ X.heap.size = w.heap.size + 3 := by
  have fz : ∀ (w : World) (cs : Array Value) (t : TypeId) (o : Nat), (w.alloc (.cells cs t)).frozen? ⟨w.heap.size, o, none⟩ = false := fun w cs t o => by simp
  have fl : ∀ (w : World) (ob : Obj) (p : Addr), p.block < w.heap.size -> (w.alloc ob).frozen? p = w.frozen? p := fun w ob p h => ((jA w.heap.size w).alloc (nR _) ob).frozen (p := p) h
  have q1 : (w.alloc (.cells #[.slice A b.doms.length c, .slice B b.tabs.length d0] 38)).heap.size = w.heap.size + 1 := by simp
  have q2 : ((w.alloc (.cells #[.slice A b.doms.length c, .slice B b.tabs.length d0] 38)).alloc (.cells #[.string ⟨t.name.toArray⟩, .int .i64 t.pol, .bool t.comp, .slice TA t.ins.length tc, .slice TR t.rules.length td] 66)).heap.size = w.heap.size + 2 := by simp
  refine ⟨_, rfl, hI ((bA.alloc (by simp) _).alloc (by simp <;> omega) _), ?_, ?_, ?_, ?_, ?_, ?_, ?_, ?_, ?_, ?_, ?_, ?_, ?_, by simp⟩
  ·exact (cL _ _ _ (by simp <;> omega)).trans ((cL _ _ _ (by simp)).trans (cN _ _ _ _))
  ·exact (cL _ _ _ (by simp <;> omega)).trans ((cL _ _ _ (by simp)).trans (cN _ _ _ _))
  ·exact (fl _ _ _ (by simp <;> omega)).trans ((fl _ _ _ (by simp)).trans (fz _ _ _ _))
  ·exact (fl _ _ _ (by simp <;> omega)).trans ((fl _ _ _ (by simp)).trans (fz _ _ _ _))
  ·rw [<- q1]; exact (cL _ _ _ (by simp)).trans (cN _ _ _ _)
  ·rw [<- q1]; exact (cL _ _ _ (by simp)).trans (cN _ _ _ _)
  ·rw [<- q1]; exact (cL _ _ _ (by simp)).trans (cN _ _ _ _)
  ·rw [<- q1]; exact (cL _ _ _ (by simp)).trans (cN _ _ _ _)
  ·rw [<- q1]; exact (cL _ _ _ (by simp)).trans (cN _ _ _ _)
  ·rw [<- q2]; exact cN _ _ _ _
  ·rw [<- q2]; exact cN _ _ _ _
  ·rw [<- q2]; exact fz _ _ _ _
  ·rw [<- q2]; exact fz _ _ _ _
 have HSZ := hI hsz
 have HSW : Hid (∀ q, S q -> q < X.heap.size) := hI fun q hq => by have := hSw q hq; omega
 have HSW0 := hI hSw
 have HWO := hI (Z5n t.name X (Rd.below hl HB1.out) HSW.out)
 have hq0 : w.heap.size < X.heap.size := by omega
 have hq1 : w.heap.size + 1 < X.heap.size := by omega
 have hq2 : w.heap.size + 2 < X.heap.size := by omega
 have HKEEP : Hid (∀ w' : World, Below X.heap.size X w' -> w'.cell? ⟨w.heap.size, 0, none⟩ = some (.slice A b.doms.length c) /\ w'.cell? ⟨w.heap.size, 1, none⟩ = some (.slice B b.tabs.length d0) /\ w'.frozen? ⟨w.heap.size, 0, none⟩ = false /\ w'.frozen? ⟨w.heap.size, 1, none⟩ = false) := hI fun w' hb =>
  ⟨(hb.ce 0 hq0).trans k0, (hb.ce 1 hq0).trans k1, (hb.fr 0 hq0).trans fk0, (hb.fr 1 hq0).trans fk1⟩
 have HBOX : Hid (∀ w' : World, (∀ q, w.heap.size < q -> q < X.heap.size -> w'.heap[q]? = X.heap[q]?) -> w'.cell? ⟨w.heap.size + 1, 0, none⟩ = some (.string ⟨t.name.toArray⟩) /\ w'.cell? ⟨w.heap.size + 1, 1, none⟩ = some (.int .i64 t.pol) /\ w'.cell? ⟨w.heap.size + 1, 2, none⟩ = some (.bool t.comp) /\ w'.cell? ⟨w.heap.size + 1, 3, none⟩ = some (.slice TA t.ins.length tc) /\ w'.cell? ⟨w.heap.size + 1, 4, none⟩ = some (.slice TR t.rules.length td) /\
   w'.cell? ⟨w.heap.size + 2, 0, none⟩ = some (.slice none 0 0) /\ w'.cell? ⟨w.heap.size + 2, 1, none⟩ = some (.slice none 0 0) /\ w'.frozen? ⟨w.heap.size + 2, 0, none⟩ = false /\ w'.frozen? ⟨w.heap.size + 2, 1, none⟩ = false) := hI fun w' hb => by
  have c1 : ∀ o, w'.cell? ⟨w.heap.size + 1, o, none⟩ = X.cell? ⟨w.heap.size + 1, o, none⟩ := fun o => jK (hb _ (by show _ < w.heap.size + 1; omega) hq1)
  have c2 : ∀ o, w'.cell? ⟨w.heap.size + 2, o, none⟩ = X.cell? ⟨w.heap.size + 2, o, none⟩ := fun o => jK (hb _ (by show _ < w.heap.size + 2; omega) hq2)
  have c3 : ∀ o, w'.frozen? ⟨w.heap.size + 2, o, none⟩ = X.frozen? ⟨w.heap.size + 2, o, none⟩ := fun o => by
   unfold jL
   rw [hb (w.heap.size + 2) (by omega) hq2]
  exact ⟨(c1 0).trans nm0, (c1 1).trans nm1, (c1 2).trans nm2, (c1 3).trans nm3, (c1 4).trans nm4, (c2 0).trans r0, (c2 1).trans r1, (c3 0).trans z0, (c3 1).trans z1⟩
 have HN := hI hn
 have HXS := hI (Nat.le_of_lt hq0)
 have HQ0 := hI hq0
 have HREL : Hid (∀ w' : World, Below w.heap.size w w' -> rTb.rel w' S [.string ⟨t.name.toArray⟩, .int .i64 t.pol, .bool t.comp, .slice TA t.ins.length tc, .slice TR t.rules.length td] t) := hI fun w' hb => Rd.below htb hb
 have HBYT : Hid (((delT b.tabs t.name).length + 1) * rTb.bytes <= 140737488355328) := hI (by have := jC (fun z : Tb => !(z.name == t.name)) b.tabs; unfold delT; simp only [rTb]; omega)
 clear hn _hlen hl hd ht hSw hsz fk0 fk1 hq0 hq1 hq2 r0 r1 z0 z1
 go_enter Tryz.func45, Tryz.ntmps45
 go_wp2_with (first
  | (go_at_call 35; (with_reducible refine HWO.out.mono ?_); rintro e w1 ⟨v1, u1, rfl, hv1, hu1, hne1, hb1⟩; obtain ⟨A1, n1, c1, rfl⟩ := hv1.shape; obtain ⟨B1, m1, e1', rfl⟩ := hu1.shape; have HB2 := hI hb1; have HNE1 := hI hne1; obtain ⟨b0, b1, fb0, fb1⟩ := HKEEP.out _ hb1; obtain ⟨W2, e2, HB22, HBX2, HV2, HU2, HLV, HLU, HZ2, p0, p1, fp0, fp1⟩ := Y3l HB2.out HSZ.out hv1 hu1 HSW0.out b0 b1 fb0 fb1; obtain ⟨ng0, ng1, ng2, ng3, ng4, _, _, _, _⟩ := HBOX.out W2 HBX2.out; clear hv1 hu1 hne1 hb1 k0 k1 nm0 nm1 nm2 nm3 nm4; obtain ⟨W3, e3, HG3, HC3, q0, q1, fq0, fq1⟩ : ∃ W3, W2.alloc (.cells #[.string ⟨t.name.toArray⟩, .int .i64 t.pol, .bool t.comp, .slice TA t.ins.length tc, .slice TR t.rules.length td] 66) = W3 /\ Hid (Below W2.heap.size W2 W3) /\ Hid (∀ j u, ([.string ⟨t.name.toArray⟩, .int .i64 t.pol, .bool t.comp, .slice TA t.ins.length tc, .slice TR t.rules.length td] : List Value)[j]? = some u -> W3.cell? ((⟨W2.heap.size, 0, none⟩ : Addr).add j) = some u) /\ W3.cell? ⟨w.heap.size, 0, none⟩ = some (.slice A1 n1 c1) /\ W3.cell? ⟨w.heap.size, 1, none⟩ = some (.slice B1 m1 e1') /\ W3.frozen? ⟨w.heap.size, 0, none⟩ = false /\ W3.frozen? ⟨w.heap.size, 1, none⟩ = false := (by (have hbb : Below W2.heap.size W2 (W2.alloc (.cells #[.string ⟨t.name.toArray⟩, .int .i64 t.pol, .bool t.comp, .slice TA t.ins.length tc, .slice TR t.rules.length td] 66)) := (jA _ _).alloc (nR _) _; have hlt : w.heap.size < W2.heap.size := (jJ _ _ p0); exact ⟨_, rfl, hI hbb, hI (fun j u hu => Z8i W2 [.string ⟨t.name.toArray⟩, .int .i64 t.pol, .bool t.comp, .slice TA t.ins.length tc, .slice TR t.rules.length td] 66 j u hu), (hbb.ce 0 hlt).trans p0, (hbb.ce 1 hlt).trans p1, (hbb.fr 0 hlt).trans fp0, (hbb.fr 1 hlt).trans fp1⟩)); have HBW2 := hI (HB22.out w (HB1.out.trans (HB2.out.mono HB1.out.size))))
  | (at_builtin; refine Z3m (R := rTb) (S := S) (base := X.heap.size) (v := .slice B1 m1 e1') Y3s rfl (.tmp 10) (.tmp 12) rfl rfl (by exact HU2.out.below HG3.out) ⟨W2.heap.size, 0, none⟩ 1 [.string ⟨t.name.toArray⟩, .int .i64 t.pol, .bool t.comp, .slice TA t.ins.length tc, .slice TR t.rules.length td] rfl (by exact HREL.out W3 (HBW2.out.trans (HG3.out.mono HBW2.out.size))) (by exact fun q hq => by have := HSW.out q hq; have := HZ2.out; have := HG3.out.size; omega) HC3.out (by exact HBYT.out) (by exact nT HZ2.out HG3.out.size) ?_; intro v2 w4 ho4 hb4 hg4 hv4; obtain ⟨A4, n4, c4, rfl⟩ := ho4.shape; obtain ⟨hbb4, hu4, hne4, hlv4⟩ := Y6s HSW0.out HQ0.out (HV2.out.below HG3.out) hg4 hv4 (fun g h1 h2 => HNE1.out g h2 h1) (fun g hg => (HLU.out g hg).1) (nT HZ2.out HG3.out.size); have b0 := (hbb4.ce 0 HQ0.out).trans q0; have b1 := (hbb4.ce 1 HQ0.out).trans q1; have fb0 := (hbb4.fr 0 HQ0.out).trans fq0; have fb1 := (hbb4.fr 1 HQ0.out).trans fq1; have HNE4 := hI hne4; have HLV4 := hI hlv4; obtain ⟨W5, e5, HO5, HU5, HB5, HZ5, HBW5, p0, p1⟩ : ∃ W5, w4.setCell ⟨w.heap.size, 1, none⟩ (.slice A4 n4 c4) = W5 /\ Hid (OwnS rTb 66 W5 X.heap.size S (.slice A4 n4 c4) (delT b.tabs t.name ++ [t])) /\ Hid (OwnS rDm 63 W5 X.heap.size S (.slice A1 n1 c1) (delD b.doms t.name)) /\
    Hid (∀ q, w.heap.size < q -> q < X.heap.size -> W5.heap[q]? = W3.heap[q]?) /\ Hid (W3.heap.size <= W5.heap.size) /\ Hid (Below w.heap.size w W5) /\ W5.cell? ⟨w.heap.size, 0, none⟩ = some (.slice A1 n1 c1) /\ W5.cell? ⟨w.heap.size, 1, none⟩ = some (.slice A4 n4 c4) := (by (exact ⟨_, rfl, hI (Z7o HSW0.out HQ0.out ho4 1 _), hI (Z7o HSW0.out HQ0.out hu4 1 _), hI (fun q h1 h2 => ((Z0c [.slice A4 n4 c4] 1 : w4.grownBy (w4.setCells w.heap.size 1 [.slice A4 n4 c4]) (some w.heap.size)).block q (nL h2 (nT HZ2.out (nT HG3.out.size hbb4.size))) (fun h => Nat.ne_of_gt h1 (Option.some.inj h))).trans (hbb4.block q h2)), hI (nT hbb4.size (Z0c [.slice A4 n4 c4] 1 : w4.grownBy (w4.setCells w.heap.size 1 [.slice A4 n4 c4]) (some w.heap.size)).size), hI (((HBW2.out.trans (HG3.out.mono HBW2.out.size)).trans (hbb4.mono HXS.out)).setCell (p := ⟨w.heap.size, 1, none⟩) (nR _) _), (cO _ _ _ _ (by simp)).trans b0, cS _ _ _ b1⟩)); clear ho4 hb4 hg4 hv4 hu4 hne4 hlv4 hbb4 e3 q0 q1 fq0 fq1)
  | (go_at_call 80; (with_reducible refine (Y05 W5 HO5.out (by simp) (by have := HBYT.out; simp only [rTb] at this; simp only [lA, jD]; omega)).mono ?_); rintro e w6 ⟨rfl, ys, hp, hs, ho6, hg6⟩; obtain rfl := Y2b (fun z : Tb => z.name) hp hs (Z6e (f := fun z : Tb => z.name) HN.out t); obtain ⟨hbb6, hu6⟩ := Y6t HSW0.out HQ0.out HU5.out hg6 HNE4.out HLV4.out (nT HZ2.out (nT HG3.out.size HZ5.out)); have b0 := (hbb6.ce 0 HQ0.out).trans p0; have b1 := (hbb6.ce 1 HQ0.out).trans p1; have HO6 := hI ho6; have HU6 := hI hu6; have HX6 : Hid (∀ q, w.heap.size < q -> q < X.heap.size -> w6.heap[q]? = X.heap[q]?) := hI (fun q h1 h2 => (hbb6.block q h2).trans ((HB5.out q h1 h2).trans ((HG3.out.block q (nL h2 HZ2.out)).trans (HBX2.out q h1 h2)))); have HB6 : Hid (Below w.heap.size w w6) := hI (HBW5.out.trans (hbb6.mono HXS.out)); obtain ⟨_, _, _, _, _, r0, r1, z0, z1⟩ := HBOX.out w6 HX6.out; clear hp hs ho6 hg6 hbb6 hu6 p0 p1 e5 e2))
 have y0 : ((w6.setCell ⟨w.heap.size + 2, 0, none⟩ (.slice A1 n1 c1)).setCell ⟨w.heap.size + 2, 1, none⟩ (.slice A4 n4 c4)).cell? ⟨w.heap.size + 2, 0, none⟩ = some (.slice A1 n1 c1) := (cO _ _ _ _ (by simp)).trans (cS _ _ _ r0)
 have y1 : ((w6.setCell ⟨w.heap.size + 2, 0, none⟩ (.slice A1 n1 c1)).setCell ⟨w.heap.size + 2, 1, none⟩ (.slice A4 n4 c4)).cell? ⟨w.heap.size + 2, 1, none⟩ = some (.slice A4 n4 c4) := cS _ _ _ ((cO _ _ _ _ (by simp)).trans r1)
 have hsx := HSZ.out
 have hO := (Y0q HSW0.out HO6.out (m := w.heap.size + 2) (by omega) (by omega) [.slice A1 n1 c1, .slice A4 n4 c4]).lower HXS.out
 have hU := (Y0q HSW0.out HU6.out (m := w.heap.size + 2) (by omega) (by omega) [.slice A1 n1 c1, .slice A4 n4 c4]).lower HXS.out
 refine bodyPost_ret (by simp [results, Tryz.results45, go_sem, y0, y1]; rfl) rfl ?_
 exact ⟨_, _, rfl, hU, hO, (HB6.out.setCell (p := ⟨w.heap.size + 2, 0, none⟩) (show w.heap.size <= w.heap.size + 2 by omega) _).setCell (p := ⟨w.heap.size + 2, 1, none⟩) (show w.heap.size <= w.heap.size + 2 by omega) _⟩
end Go.Proofs.YtlopccnehgolnacGreatDoor
