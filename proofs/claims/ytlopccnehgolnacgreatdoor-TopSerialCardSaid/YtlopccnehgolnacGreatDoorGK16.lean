import Derived.Test.YtlopccnehgolnacGreatDoorSymOwn
import Derived.Test.YtlopccnehgolnacGreatDoorGK4
import Derived.Test.YtlopccnehgolnacGreatDoorShSt
import Derived.Test.YtlopccnehgolnacGreatDoorWo
import Derived.Sort.Walk0
import Derived.BigQuiet
import Derived.Deep.DeepMust
import Derived.Deep.DeepCutAuto
namespace Go.Proofs.YtlopccnehgolnacGreatDoor
open Go.RowKit Rb Go.Shelf Go.Sort
open Go.Lib renaming compareBytes -> jA
open List renaming pairwise_map -> jB
open Go.Op renaming bytesLess -> jC
set_option maxHeartbeats 1000000
theorem Y3d : ∀ a b : List UInt8, jA a b < 0 ↔ jC a b = true
 | [], [] => by simp [jA, jC]
 | [], _ :: _ => by simp [jA, jC]
 | _ :: _, [] => by simp [jA, jC]
 | a :: x, b :: y => by
  have ih := Y3d x y
  have e1 : jA (a :: x) (b :: y) = if a < b then -1 else if b < a then 1 else jA x y := rfl
  have e2 : jC (a :: x) (b :: y) = (decide (a < b) || a == b && jC x y) := rfl
  rw [e1, e2]
  by_cases h1 : a < b
  ·simp [h1]
  by_cases h2 : b < a
  ·have h3 : ¬ a = b := fun e => by subst e; exact h1 h2
   simp [h1, h2, h3]
  have h3 : a = b := by
   apply UInt8.toNat_inj.1
   rw [UInt8.lt_iff_toNat_lt] at h1 h2
   omega
  subst h3
  simp [h1, ih]
theorem Y51 (a b : List UInt8) : decide (jA a b < 0) = jC a b := by
 rw [L3t, decide_eq_true_iff]; exact Y3d a b
theorem swo_names : SWO (fun a b : List UInt8 => jC a b) where
 irrefl x := by rw [bytesLess_eq]; simp [List.lt_irrefl]
 trans x y z h1 h2 := by rw [bytesLess_eq] at *; simp only [decide_eq_true_eq] at *; exact List.lt_trans h1 h2
 ntrans x y z h1 h2 := by
  rw [bytesLess_eq] at *
  simp only [decide_eq_false_iff_not, List.not_lt] at *
  exact List.le_trans h2 h1
theorem Y71 (a b : List UInt8) (w : World) : Calls Tryz.prog 82 #[sq a, sq b] w fun e w' => e = .returned (.int .i64 (jA a b)) /\ w' = w :=
 Any.strings_Compare Tryz.stCmp _ _ w
structure RowDm where
 name : List UInt8
 a : Value
 b : Value
 ha : a.oneCell' = true
 hb : b.oneCell' = true
 dat : Dm
instance : Inhabited RowDm := ⟨⟨[], .bool false, .bool false, rfl, rfl, dm0⟩⟩
def Y43 (r : RowDm) : List Value := [sq r.name, r.a, r.b]
def cfDm (x y : RowDm) : Int := jA x.name y.name
theorem ltDm (x y : RowDm) : ltOf cfDm x y = jC x.name y.name := Y51 _ _
theorem X45 : SWO (ltOf cfDm) where
 irrefl x := by rw [ltDm]; exact swo_names.irrefl _
 trans x y z h1 h2 := by rw [ltDm] at *; exact swo_names.trans _ _ _ h1 h2
 ntrans x y z h1 h2 := by rw [ltDm] at *; exact swo_names.ntrans _ _ _ h1 h2
theorem X1q {w : World} {S : Nat -> Prop} {cs : List Value} {x : Dm} (h : rDm.rel w S cs x) : ∃ r : RowDm, Y43 r = cs /\ r.dat = x /\ r.name = x.name := by
 have h1 := rDm.one h
 obtain ⟨rfl, _⟩ := h
 exact ⟨⟨x.name, .int .i64 x.lo, .int .i64 x.hi, rfl, rfl, x⟩, rfl, rfl, rfl⟩
theorem X2o (x y : RowDm) (w : World) : Calls Tryz.prog 84 #[.agg (Y43 x).toArray, .agg (Y43 y).toArray] w fun e w' => e = .returned (.int .i64 (cfDm x y)) /\ ∃ q os', w' = grow (w.drewN q) os' := by
 obtain ⟨xn, xa, xb, xha, xhb, xz⟩ := x
 obtain ⟨yn, ya, yb, yha, yhb, yz⟩ := y
 show Calls Tryz.prog 84 #[.agg #[sq xn, xa, xb], .agg #[sq yn, ya, yb]] w fun e w' => e = .returned (.int .i64 (jA xn yn)) /\ ∃ q os', w' = grow (w.drewN q) os'
 obtain ⟨W1, e1, k0, k1, HG⟩ : ∃ W1, (w.alloc (.cells #[sq xn, xa, xb] 63)).alloc (.cells #[sq yn, ya, yb] 63) = W1 /\ W1.cell? (zn w.heap.size 0) = some (sq xn) /\ W1.cell? (zn (w.heap.size + 1) 0) = some (sq yn) /\ Hid (∃ q os', W1 = grow (w.drewN q) os') := by
  have q1 : (w.alloc (.cells #[sq xn, xa, xb] 63)).heap.size = w.heap.size + 1 := by simp
  refine ⟨_, rfl, (L0j _ _ _ (by simp)).trans (L0b _ _ _ _), ?_, L0 ⟨0, _, by rw [alloc_eq_grow, alloc_eq_grow, grow_grow]; rfl⟩⟩
  rw [<- q1]; exact L0b _ _ _ _
 go_enter Tryz.func84, Tryz.ntmps84
 go_wp2_with (go_at_call 82; (with_reducible refine (Y71 xn yn W1).mono ?_); rintro e w' ⟨rfl, rfl⟩)
 go_ret
 exact ⟨rfl, HG.o⟩
theorem Y2u {S : Nat -> Prop} {base : Nat} {v : Value} {xs : List Dm} (w : World) (hown : OwnS rDm 63 w base S v xs) (hne : 0 < xs.length) (hlen : xs.length < 1152921504606846976) :
  Calls Tryz.prog 83 #[v, .func (.func 84) #[] #[]] w fun e w' => e = .returned (.tuple #[]) /\ ∃ ys : List Dm, ys.Perm xs /\ ys.Pairwise (fun x y => jC y.name x.name = false) /\ OwnS rDm 63 w' base S v ys /\ w.grownBy w' v.ownBlock := by
 rcases hown.form with ⟨_, h0⟩ | ⟨g, cap, rfl, hgb, hgl⟩
 ·rw [h0] at hne; simp at hne
 obtain ⟨d, hname, hmap, hds, hH, hgl', _, hfin⟩ := hown.sorted (enc := Y43) (dat := RowDm.dat) (k := 3) (Pr := fun r => r.name = r.dat.name) rfl rfl (by decide) (fun _ => rfl) (fun cs x h => by obtain ⟨r, h1, h2, h3⟩ := X1q h; exact ⟨r, h1, h2, by rw [h3, h2]⟩)
 have eg : ∀ args w, (callFunc 84 args).run Tryz.prog w = .ok (.enter 84 args) w := enters_of Tryz.func84 (by kernel_rfl) rfl
 have R : RowK Y43 3 w g 0 d := ⟨fun _ => rfl, fun x u hu => by
  simp [Y43] at hu
  rcases hu with rfl | rfl | rfl
  ·rfl
  ·exact x.ha
  exact x.hb
, hH, hgl'⟩
 have hst := Y6j X4s Y43 cfDm 84 #[] X45 g 0 cap d w eg (fun _ _ _ _ x y => X2o x y _) R d w rfl (SWK.start hH) (by rw [hds]; exact hlen)
 rw [hds] at hst
 have HST := L0 hst
 clear hst
 go_enter Tryz.func83, Tryz.ntmps83
 go_wp2_with (go_at_call 111; (with_reducible refine HST.o.mono ?_); rintro e w1 ⟨rfl, hd1⟩; have HD1 := L0 hd1; clear hd1)
 go_end0
 obtain ⟨d', ⟨n, os, rfl⟩, hm⟩ := HD1.o
 obtain ⟨f1, f2, f3, f4⟩ := hfin n os d' (by rw [hds]; exact hm.1)
 refine ⟨rfl, d'.toList.map RowDm.dat, f2, ?_, f1, f4⟩
 rw [jB, L3l]
 intro i j hi hj hij
 have hi' : i < d'.size := by simpa using hi
 have hj' : j < d'.size := by simpa using hj
 have hd' : d'.size = xs.length := hm.1.1.trans hds
 have := hm.2 i j (L0o _) hij (by omega)
 rw [ltDm, getElem!_pos d' i hi', getElem!_pos d' j hj'] at this
 rw [<- hname _ (f3.mem_iff.1 (L2c hi)), <- hname _ (f3.mem_iff.1 (L2c hj))]
 simpa using this
structure RowTb where
 name : List UInt8
 a : Value
 b : Value
 c : Value
 d : Value
 ha : a.oneCell' = true
 hb : b.oneCell' = true
 hc : c.oneCell' = true
 hd : d.oneCell' = true
 dat : Tb
instance : Inhabited RowTb := ⟨⟨[], .bool false, .bool false, .bool false, .bool false, rfl, rfl, rfl, rfl, tb0⟩⟩
def Y44 (r : RowTb) : List Value := [sq r.name, r.a, r.b, r.c, r.d]
def cfTb (x y : RowTb) : Int := jA x.name y.name
theorem ltTb (x y : RowTb) : ltOf cfTb x y = jC x.name y.name := Y51 _ _
theorem X46 : SWO (ltOf cfTb) where
 irrefl x := by rw [ltTb]; exact swo_names.irrefl _
 trans x y z h1 h2 := by rw [ltTb] at *; exact swo_names.trans _ _ _ h1 h2
 ntrans x y z h1 h2 := by rw [ltTb] at *; exact swo_names.ntrans _ _ _ h1 h2
theorem X1r {w : World} {S : Nat -> Prop} {cs : List Value} {x : Tb} (h : rTb.rel w S cs x) : ∃ r : RowTb, Y44 r = cs /\ r.dat = x /\ r.name = x.name := by
 have h1 := rTb.one h
 obtain ⟨v, u, rfl, _, _, h3, h4⟩ := h
 exact ⟨⟨x.name, .int .i64 x.pol, .bool x.comp, v, u, rfl, rfl, h1 v (by simp), h1 u (by simp), x⟩, rfl, rfl, rfl⟩
theorem X2p (x y : RowTb) (w : World) : Calls Tryz.prog 81 #[.agg (Y44 x).toArray, .agg (Y44 y).toArray] w fun e w' => e = .returned (.int .i64 (cfTb x y)) /\ ∃ q os', w' = grow (w.drewN q) os' := by
 obtain ⟨xn, xa, xb, xc, xd, xha, xhb, xhc, xhd, xz⟩ := x
 obtain ⟨yn, ya, yb, yc, yd, yha, yhb, yhc, yhd, yz⟩ := y
 show Calls Tryz.prog 81 #[.agg #[sq xn, xa, xb, xc, xd], .agg #[sq yn, ya, yb, yc, yd]] w fun e w' => e = .returned (.int .i64 (jA xn yn)) /\ ∃ q os', w' = grow (w.drewN q) os'
 obtain ⟨W1, e1, k0, k1, HG⟩ : ∃ W1, (w.alloc (.cells #[sq xn, xa, xb, xc, xd] 66)).alloc (.cells #[sq yn, ya, yb, yc, yd] 66) = W1 /\ W1.cell? (zn w.heap.size 0) = some (sq xn) /\ W1.cell? (zn (w.heap.size + 1) 0) = some (sq yn) /\ Hid (∃ q os', W1 = grow (w.drewN q) os') := by
  have q1 : (w.alloc (.cells #[sq xn, xa, xb, xc, xd] 66)).heap.size = w.heap.size + 1 := by simp
  refine ⟨_, rfl, (L0j _ _ _ (by simp)).trans (L0b _ _ _ _), ?_, L0 ⟨0, _, by rw [alloc_eq_grow, alloc_eq_grow, grow_grow]; rfl⟩⟩
  rw [<- q1]; exact L0b _ _ _ _
 go_enter Tryz.func81, Tryz.ntmps81
 go_wp2_with (go_at_call 82; (with_reducible refine (Y71 xn yn W1).mono ?_); rintro e w' ⟨rfl, rfl⟩)
 go_ret
 exact ⟨rfl, HG.o⟩
theorem Y2v {S : Nat -> Prop} {base : Nat} {v : Value} {xs : List Tb} (w : World) (hown : OwnS rTb 66 w base S v xs) (hne : 0 < xs.length) (hlen : xs.length < 1152921504606846976) :
  Calls Tryz.prog 80 #[v, .func (.func 81) #[] #[]] w fun e w' => e = .returned (.tuple #[]) /\ ∃ ys : List Tb, ys.Perm xs /\ ys.Pairwise (fun x y => jC y.name x.name = false) /\ OwnS rTb 66 w' base S v ys /\ w.grownBy w' v.ownBlock := by
 rcases hown.form with ⟨_, h0⟩ | ⟨g, cap, rfl, hgb, hgl⟩
 ·rw [h0] at hne; simp at hne
 obtain ⟨d, hname, hmap, hds, hH, hgl', _, hfin⟩ := hown.sorted (enc := Y44) (dat := RowTb.dat) (k := 5) (Pr := fun r => r.name = r.dat.name) rfl rfl (by decide) (fun _ => rfl) (fun cs x h => by obtain ⟨r, h1, h2, h3⟩ := X1r h; exact ⟨r, h1, h2, by rw [h3, h2]⟩)
 have eg : ∀ args w, (callFunc 81 args).run Tryz.prog w = .ok (.enter 81 args) w := enters_of Tryz.func81 (by kernel_rfl) rfl
 have R : RowK Y44 5 w g 0 d := ⟨fun _ => rfl, fun x u hu => by
  simp [Y44] at hu
  rcases hu with rfl | rfl | rfl | rfl | rfl
  ·rfl
  ·exact x.ha
  ·exact x.hb
  ·exact x.hc
  exact x.hd
, hH, hgl'⟩
 have hst := Y6j X4t Y44 cfTb 81 #[] X46 g 0 cap d w eg (fun _ _ _ _ x y => X2p x y _) R d w rfl (SWK.start hH) (by rw [hds]; exact hlen)
 rw [hds] at hst
 have HST := L0 hst
 clear hst
 go_enter Tryz.func80, Tryz.ntmps80
 go_wp2_with (go_at_call 109; (with_reducible refine HST.o.mono ?_); rintro e w1 ⟨rfl, hd1⟩; have HD1 := L0 hd1; clear hd1)
 go_end0
 obtain ⟨d', ⟨n, os, rfl⟩, hm⟩ := HD1.o
 obtain ⟨f1, f2, f3, f4⟩ := hfin n os d' (by rw [hds]; exact hm.1)
 refine ⟨rfl, d'.toList.map RowTb.dat, f2, ?_, f1, f4⟩
 rw [jB, L3l]
 intro i j hi hj hij
 have hi' : i < d'.size := by simpa using hi
 have hj' : j < d'.size := by simpa using hj
 have hd' : d'.size = xs.length := hm.1.1.trans hds
 have := hm.2 i j (L0o _) hij (by omega)
 rw [ltTb, getElem!_pos d' i hi', getElem!_pos d' j hj'] at this
 rw [<- hname _ (f3.mem_iff.1 (L2c hi)), <- hname _ (f3.mem_iff.1 (L2c hj))]
 simpa using this
end Go.Proofs.YtlopccnehgolnacGreatDoor
namespace Go.Proofs.YtlopccnehgolnacGreatDoor
open Go.RowKit Rb
open Bool renaming not_eq_true' -> jA
open List renaming filter_sublist -> jB, mem_map_of_mem -> jC
open Go.Op renaming bytesLess -> jD
open Rd renaming below -> jE
open Go.World renaming frozen? -> jF
set_option maxRecDepth 100000
set_option maxHeartbeats 6400000
section
variable {α : Type} {R : Rd α} {e : TypeId} {w w' : World} {base : Nat} {S : Nat -> Prop} {v : Value} {xs : List α} {x : α}
theorem Z5x {P : Program} {t ty : TypeId} (hT : ElemOf P R t e) (hown : OwnS R e w base S v xs) (ad : Addr) (c : Nat) (news : List Value) (hrel : R.rel w S news x) (hSb : ∀ b, S b -> b < w.heap.size)
  (hnews : ∀ j u, news[j]? = some u -> w.cell? (ad.add j) = some u) (hbytes : (xs.length + 1) * R.bytes <= 140737488355328) (hbase : base <= w.heap.size) :
  ∃ v' w', (Builtin.append_ #[t, t] ty #[v, .slice (some ad) 1 c]).run P w = .ok v' w' /\ OwnS R e w' base S v' (xs ++ [x]) /\ w.grownBy w' v.ownBlock /\
   (v'.ownBlock = v.ownBlock \/ v'.ownBlock = some w.heap.size) := by
 obtain ⟨i, z, hi, hz, hs1, hs2, hs3⟩ := hT.hi
 obtain ⟨cells, h1, h2, h3, h4⟩ := hown
 have h63 : xs.length + 1 <= maxLen := by
  have := L3p (xs.length + 1) hT.hb
  unfold maxLen; omega
 obtain ⟨v', w', hrun, k1, k2, _, k4⟩ := run_append_own_at (P := P) w base t ty e i z R.k R.bytes hT.ht hi hz hs1 hs2 hs3 hT.hk v xs.length cells h1 ad 1 c news (by rw [Nat.one_mul]; exact R.len hrel) hnews (R.one hrel) h63 hbytes hbase
 have hK : Keeps S w w' := .grown k2 fun g hg => h2 g hg
 refine ⟨v', w', hrun, ⟨cells ++ news, by rw [L0i]; exact k1, ?_, fun _ => by rw [L0i]; exact hbytes, ?_⟩, k2, k4⟩
 ·intro g hg hS
  rcases k4 with k4 | k4
  ·exact h2 g (k4 ▸ hg) hS
  rw [k4] at hg; injection hg with hg; have := hSb g hS; omega
 intro j y hy
 obtain ⟨d1, d2⟩ := Z1m (k := R.k) h1.1 (R.len hrel) j
 rcases L1r j xs.length with hj | hj
 ·rw [d1 hj]
  rw [L1l hj] at hy
  exact R.keep (h4 j y hy) hK
 have hj' : j = xs.length := by
  have : j < (xs ++ [x]).length := (L0n.1 hy).1
  simp at this; omega
 subst hj'
 rw [d2]
 obtain rfl : x = y := by simpa using hy
 exact R.keep hrel hK
theorem Z38 {P : Program} {ops : Array Oper} {rest : List Oper} {o : Oper} {a : Act} {Q : Exit -> Act -> World -> Prop} {t : TypeId} (hT : ElemOf P R t e) (hgd : o.guard = none) (s y : Operand)
  (ho : o.op = .call { callee := .builtin .append, args := #[s, y], argTypes := #[t, t] })
  (hs : a.eval s = v) (hown : OwnS R e w base S v xs) (ad : Addr) (c : Nat) (news : List Value) (hx : a.eval y = .slice (some ad) 1 c) (hrel : R.rel w S news x) (hSb : ∀ b, S b -> b < w.heap.size)
  (hnews : ∀ j u, news[j]? = some u -> w.cell? (ad.add j) = some u) (hbytes : (xs.length + 1) * R.bytes <= 140737488355328) (hbase : base <= w.heap.size)
  (h : ∀ v' w', OwnS R e w' base S v' (xs ++ [x]) -> Below base w w' -> w.grownBy w' v.ownBlock -> (v'.ownBlock = v.ownBlock \/ v'.ownBlock = some w.heap.size) -> wpList P ops Q rest (a.put o.dst v') w') :
  wpList P ops Q (o :: rest) a w := by
 obtain ⟨v', w', hr, h2, h3, h4⟩ := Z5x (P := P) (t := t) (ty := o.type) hT hown ad c news hrel hSb hnews hbytes hbase
 have hlt := hown.lt
 refine wpList_plain hgd fun K hK => ?_
 unfold Oper.wp execOp
 simp only [ho, resolve, invoke, builtin, Sem.run_bind, Sem.run_pure, Result.andThen_ok, L4e, L2q, L4h, hs, hx, hr]
 exact hK _ _ (h v' w' h2 ((L0m base w).grown h3 hbase fun k hk => (hlt k hk).1) h3 h4)
theorem OwnS.grown (h : OwnS R e w base S v xs) {r : Option Nat} (hg : w.grownBy w' r) (hr : ∀ g, r = some g -> v.ownBlock ≠ some g /\ ¬ S g) : OwnS R e w' base S v xs := by
 refine h.kept hg ?_ fun g hg => (hr g hg).2
 rcases hv : v.ownBlock with _ | q
 ·exact .inl rfl
 rcases r with _ | g
 ·exact .inr (by simp)
 refine .inr fun he => ?_
 have := (hr g rfl).1
 rw [hv] at this
 exact this he
theorem Y25 {B n : Nat} {w0 w : World} (hb : Below B w0 w) (hn : B <= n) (a b : Value) : Below B w0 ((w.setCell (zn n 0) a).setCell (zn n 1) b) := (hb.setCell (p := (zn n 0)) hn a).setCell (p := (zn n 1)) hn b
end
theorem Y5x {w X w1 : World} {S : Nat -> Prop} {b1 : List Dm} {b2 : List Tb} {A1 B1 : Option Addr} {n1 m1 c1 e1 : Nat} {x0 x1 : Value} (hb : Bw X w1) (hsz : X.heap.size = w.heap.size + 3)
  (hv : OwnS rDm 63 w1 X.heap.size S (.slice A1 n1 c1) b1) (hu : OwnS rTb 66 w1 X.heap.size S (.slice B1 m1 e1) b2) (hS : ∀ q, S q -> q < w.heap.size)
  (k0 : w1.cell? (zn w.heap.size 0) = some x0) (k1 : w1.cell? (zn w.heap.size 1) = some x1) (f0 : w1.frozen? (zn w.heap.size 0) = false) (f1 : w1.frozen? (zn w.heap.size 1) = false) :
  ∃ W2, (w1.setCell (zn w.heap.size 0) (.slice A1 n1 c1)).setCell (zn w.heap.size 1) (.slice B1 m1 e1) = W2 /\ Hid (∀ w0, Below w.heap.size w0 w1 -> Below w.heap.size w0 W2) /\ Hid (∀ q, w.heap.size < q -> q < X.heap.size -> W2.heap[q]? = X.heap[q]?) /\
   Hid (OwnS rDm 63 W2 X.heap.size S (.slice A1 n1 c1) b1) /\ Hid (OwnS rTb 66 W2 X.heap.size S (.slice B1 m1 e1) b2) /\
   Hid (∀ g, (Value.slice A1 n1 c1).ownBlock = some g -> X.heap.size <= g /\ g < W2.heap.size) /\ Hid (∀ g, (Value.slice B1 m1 e1).ownBlock = some g -> X.heap.size <= g /\ g < W2.heap.size) /\ Hid (X.heap.size <= W2.heap.size) /\
   W2.cell? (zn w.heap.size 0) = some (.slice A1 n1 c1) /\ W2.cell? (zn w.heap.size 1) = some (.slice B1 m1 e1) /\ W2.frozen? (zn w.heap.size 0) = false /\ W2.frozen? (zn w.heap.size 1) = false := by
 have HG : w1.grownBy ((w1.setCell (zn w.heap.size 0) (.slice A1 n1 c1)).setCell (zn w.heap.size 1) (.slice B1 m1 e1)) (some w.heap.size) := Z0b [.slice A1 n1 c1, .slice B1 m1 e1] 0
 have hv' := hv.grown HG fun g hg => by
  injection hg with hg
  subst hg
  exact ⟨fun h => by have := (hv.lt _ h).1; omega, fun h => by have := hS _ h; omega⟩
 have hu' := hu.grown HG fun g hg => by
  injection hg with hg
  subst hg
  exact ⟨fun h => by have := (hu.lt _ h).1; omega, fun h => by have := hS _ h; omega⟩
 refine ⟨_, rfl, L0 fun w0 h0 => Y25 h0 (L0g _) _ _, L0 fun q h1 h2 => ?_, L0 hv', L0 hu', L0 hv'.lt, L0 hu'.lt, L0 (L0h hb.size HG.size), ?_, ?_, ?_, ?_⟩
 ·exact (HG.block q (L0c h2 hb.size) (fun h => by injection h with h; omega)).trans (hb.block q h2)
 ·exact (cso).trans (L0e _ _ _ k0)
 ·exact L0e _ _ _ ((cso).trans k1)
 ·rw [L0k, L0k]; exact f0
 rw [L0k, L0k]; exact f1
section
variable {α β : Type} {R1 : Rd α} {R2 : Rd β} {e1 e2 : TypeId} {n N : Nat} {W3 w4 : World} {S : Nat -> Prop} {v u v2 : Value} {xs : List α} {ys : List β}
theorem Y9h (hS : ∀ q, S q -> q < n) (hnN : n < N) (hu : OwnS R2 e2 W3 N S u ys) (hg : W3.grownBy w4 v.ownBlock) (hv4 : v2.ownBlock = v.ownBlock \/ v2.ownBlock = some W3.heap.size) (hne : ∀ g, v.ownBlock = some g -> u.ownBlock ≠ some g)
  (hlv : ∀ g, v.ownBlock = some g -> N <= g) (hNW : N <= W3.heap.size) :
  Below N W3 w4 /\ OwnS R2 e2 w4 N S u ys /\ (∀ g, v2.ownBlock = some g -> u.ownBlock ≠ some g) /\ ∀ g, v2.ownBlock = some g -> N <= g := by
 refine ⟨⟨hg.os, hg.tape, hg.output, hg.size, fun q hq => hg.block q (L0c hq hNW) fun h => ?_⟩, hu.grown hg fun g h => ⟨hne g h, fun hq => ?_⟩, fun g h => ?_, fun g h => ?_⟩
 ·have := hlv q h.symm; omega
 ·have := hS g hq; have := hlv g h; omega
 ·rcases hv4 with h4 | h4
  ·exact hne g (h4 ▸ h)
  rw [h4] at h
  injection h with h
  subst h
  intro hq
  have := (hu.lt _ hq).2
  omega
 rcases hv4 with h4 | h4
 ·exact hlv g (h4 ▸ h)
 rw [h4] at h; injection h with h; omega
theorem Y2e (hS : ∀ q, S q -> q < n) (ho : OwnS R1 e1 w4 N S v xs) {m : Nat} (hm : n <= m) (hmN : m < N) (vs : List Value) : OwnS R1 e1 (w4.setCells m 0 vs) N S v xs := by
 refine ho.grown (Z0b vs 0) fun g hg => ?_
 injection hg with hg
 subst hg
 exact ⟨fun h => by have := (ho.lt _ h).1; omega, fun h => by have := hS _ h; omega⟩
theorem Z8z (hS : ∀ q, S q -> q < n) (hnN : n < N) (ho : OwnS R1 e1 w4 N S v xs) (p : Nat) (x : Value) : OwnS R1 e1 (w4.setCell (zn n p) x) N S v xs := by
 have hg : w4.grownBy (w4.setCells n p [x]) (some n) := Z0b [x] p
 refine ho.grown hg fun g hg => ?_
 injection hg with hg
 subst hg
 exact ⟨fun h => by have := (ho.lt _ h).1; omega, fun h => by have := hS _ h; omega⟩
theorem Y9i (hS : ∀ q, S q -> q < n) (hnN : n < N) (hu : OwnS R2 e2 W3 N S u ys) (hg : W3.grownBy w4 v.ownBlock) (hne : ∀ g, v.ownBlock = some g -> u.ownBlock ≠ some g)
  (hlv : ∀ g, v.ownBlock = some g -> N <= g) (hNW : N <= W3.heap.size) : Below N W3 w4 /\ OwnS R2 e2 w4 N S u ys := by
 refine ⟨⟨hg.os, hg.tape, hg.output, hg.size, fun q hq => hg.block q (L0c hq hNW) fun h => ?_⟩, hu.grown hg fun g h => ⟨hne g h, fun hq => ?_⟩⟩
 ·have := hlv q h.symm; omega
 have := hS g hq; have := hlv g h; omega
end
def Y9v (l : List Dm) : List Dm := l.mergeSort fun x y => !jD y.name x.name
def Y9w (l : List Tb) : List Tb := l.mergeSort fun x y => !jD y.name x.name
def Z3y (b : Bk) (d : Dm) : Bk := ⟨Y9v (delD b.doms d.name ++ [d]), delT b.tabs d.name⟩
def Z47 (b : Bk) (t : Tb) : Bk := ⟨delD b.doms t.name, Y9w (delT b.tabs t.name ++ [t])⟩
theorem Y7c {a b : List UInt8} (h1 : jD a b = false) (h2 : jD b a = false) : a = b := by
 rw [Go.Proofs.bytesLess_eq] at h1 h2
 simp only [decide_eq_false_iff_not, List.not_lt] at h1 h2
 exact List.le_antisymm h2 h1
theorem Y06 {α : Type} {f : α -> List UInt8} : ∀ {l : List α}, (l.map f).Nodup -> ∀ x ∈ l, ∀ y ∈ l, f x = f y -> x = y
 | [], _, x, hx, _, _, _ => by cases hx
 | a :: l, h, x, hx, y, hy, e => by
  rw [L2q, List.nodup_cons] at h
  rcases L2o.1 hx with hx' | hx'
  ·rcases L2o.1 hy with hy' | hy'
   ·rw [hx', hy']
   exact absurd (by rw [<- hx', e]; exact jC hy') h.1
  rcases L2o.1 hy with hy' | hy'
  ·exact absurd (by rw [<- hy', <- e]; exact jC hx') h.1
  exact Y06 h.2 x hx' y hy' e
theorem Z7k {α : Type} (f : α -> List UInt8) {ys xs : List α} (hp : ys.Perm xs) (hs : ys.Pairwise fun x y => jD (f y) (f x) = false) (hn : (xs.map f).Nodup) : ys = xs.mergeSort fun x y => !jD (f y) (f x) := by
 refine List.Perm.eq_of_pairwise (le := fun x y => (!jD (f y) (f x)) = true) ?_ ?_ ?_ (hp.trans (L2j _ _).symm)
 ·intro a b ha hb h1 h2
  simp only [jA] at h1 h2
  exact Y06 hn a (hp.mem_iff.1 ha) b ((L2j _ _).mem_iff.1 hb) (Y7c h2 h1)
 ·exact hs.imp fun h => by simpa using h
 refine List.pairwise_mergeSort ?_ ?_ _
 ·intro a b c h1 h2
  simp only [jA] at h1 h2 ⊢
  exact swo_names.ntrans _ _ _ h2 h1
 intro a b
 cases h : jD (f b) (f a) with
 | false => simp
 | true => have := swo_names.asymmA h; simp [this]
theorem Z4n {α : Type} {f : α -> List UInt8} {l : List α} (hn : (l.map f).Nodup) (x : α) : ((l.filter (fun d => !(f d == f x)) ++ [x]).map f).Nodup := by
 rw [L1z, List.nodup_append]
 refine ⟨(List.Sublist.map f jB).nodup hn, by simp, fun a ha b hb => ?_⟩
 obtain ⟨d, hd, rfl⟩ := L1n.1 ha
 have h2 := (L3u.1 hd).2
 simp only [L2q, L4h, L3c] at hb
 subst hb
 intro he
 rw [he] at h2
 simp at h2
theorem Y1t {S : Nat -> Prop} {cs : List Value} {b : Bk} (d : Dm) (w : World) (hl : rBk.rel w S cs b) (hSw : ∀ q, S q -> q < w.heap.size) (hdm : d.name.length <= 140737488355328 /\ InI d.lo /\ InI d.hi) (hn : (b.doms.map (·.name)).Nodup) (_hlen : b.doms.length < 1000000000000) :
  Calls Tryz.prog 46 #[.agg cs.toArray, .agg #[sq d.name, .int .i64 d.lo, .int .i64 d.hi]] w fun e w' => ∃ v u, e = .returned (.agg #[v, u]) /\ OwnS rDm 63 w' w.heap.size S v (Z3y b d).doms /\ OwnS rTb 66 w' w.heap.size S u (Z3y b d).tabs /\ Bw w w' := by
 obtain ⟨v0, u0, rfl, hd, ht⟩ := hl
 have hl : rBk.rel w S [v0, u0] b := ⟨v0, u0, rfl, hd, ht⟩
 obtain ⟨A, c, rfl, _⟩ := rSl.elems hd
 obtain ⟨B, d0, rfl, _⟩ := rSl.elems ht
 obtain ⟨X, e1, HB1, k0, k1, fk0, fk1, nm0, nm1, nm2, r0, r1, z0, z1, hsz⟩ : ∃ X, ((w.alloc (.cells #[.slice A b.doms.length c, .slice B b.tabs.length d0] 38)).alloc (.cells #[sq d.name, .int .i64 d.lo, .int .i64 d.hi] 63)).alloc (.cells #[nl, nl] 38) = X /\ Hid (Bw w X) /\
   X.cell? (zn w.heap.size 0) = some (.slice A b.doms.length c) /\ X.cell? (zn w.heap.size 1) = some (.slice B b.tabs.length d0) /\ X.frozen? (zn w.heap.size 0) = false /\ X.frozen? (zn w.heap.size 1) = false /\ X.cell? (zn (w.heap.size + 1) 0) = some (sq d.name) /\ X.cell? (zn (w.heap.size + 1) 1) = some (.int .i64 d.lo) /\ X.cell? (zn (w.heap.size + 1) 2) = some (.int .i64 d.hi) /\
   X.cell? (zn (w.heap.size + 2) 0) = some (nl) /\ X.cell? (zn (w.heap.size + 2) 1) = some (nl) /\ X.frozen? (zn (w.heap.size + 2) 0) = false /\ X.frozen? (zn (w.heap.size + 2) 1) = false /\ X.heap.size = w.heap.size + 3 := by
  have fz : ∀ (w : World) (cs : Array Value) (t : TypeId) (o : Nat), (w.alloc (.cells cs t)).frozen? (zn w.heap.size o) = false := fun w cs t o => by simp
  have fl : ∀ (w : World) (ob : Obj) (p : Addr), p.block < w.heap.size -> (w.alloc ob).frozen? p = w.frozen? p := fun w ob p h => ((L0m w.heap.size w).alloc (L0g _) ob).frozen (p := p) h
  have q1 : (w.alloc (.cells #[.slice A b.doms.length c, .slice B b.tabs.length d0] 38)).heap.size = w.heap.size + 1 := by simp
  have q2 : ((w.alloc (.cells #[.slice A b.doms.length c, .slice B b.tabs.length d0] 38)).alloc (.cells #[sq d.name, .int .i64 d.lo, .int .i64 d.hi] 63)).heap.size = w.heap.size + 2 := by simp
  refine ⟨_, rfl, L0 ((bA.alloc (by simp) _).alloc (by simp <;> omega) _), ?_, ?_, ?_, ?_, ?_, ?_, ?_, ?_, ?_, ?_, ?_, by simp⟩
  ·exact (L0j _ _ _ (by simp <;> omega)).trans ((L0j _ _ _ (by simp)).trans (L0b _ _ _ _))
  ·exact (L0j _ _ _ (by simp <;> omega)).trans ((L0j _ _ _ (by simp)).trans (L0b _ _ _ _))
  ·exact (fl _ _ _ (by simp <;> omega)).trans ((fl _ _ _ (by simp)).trans (fz _ _ _ _))
  ·exact (fl _ _ _ (by simp <;> omega)).trans ((fl _ _ _ (by simp)).trans (fz _ _ _ _))
  ·rw [<- q1]; exact (L0j _ _ _ (by simp)).trans (L0b _ _ _ _)
  ·rw [<- q1]; exact (L0j _ _ _ (by simp)).trans (L0b _ _ _ _)
  ·rw [<- q1]; exact (L0j _ _ _ (by simp)).trans (L0b _ _ _ _)
  ·rw [<- q2]; exact L0b _ _ _ _
  ·rw [<- q2]; exact L0b _ _ _ _
  ·rw [<- q2]; exact fz _ _ _ _
  rw [<- q2]; exact fz _ _ _ _
 have HSZ := L0 hsz
 have HSW : Hid (∀ q, S q -> q < X.heap.size) := L0 fun q hq => by have := hSw q hq; omega
 have HSW0 := L0 hSw
 have HWO := L0 (Z4v d.name X (jE hl HB1.o) HSW.o)
 have hq0 : w.heap.size < X.heap.size := by omega
 have hq1 : w.heap.size + 1 < X.heap.size := by omega
 have hq2 : w.heap.size + 2 < X.heap.size := by omega
 have HKEEP : Hid (∀ w' : World, Bw X w' -> w'.cell? (zn w.heap.size 0) = some (.slice A b.doms.length c) /\ w'.cell? (zn w.heap.size 1) = some (.slice B b.tabs.length d0) /\ w'.frozen? (zn w.heap.size 0) = false /\ w'.frozen? (zn w.heap.size 1) = false) := L0 fun w' hb =>
  ⟨(hb.ce 0 hq0).trans k0, (hb.ce 1 hq0).trans k1, (hb.fr 0 hq0).trans fk0, (hb.fr 1 hq0).trans fk1⟩
 have HBOX : Hid (∀ w' : World, (∀ q, w.heap.size < q -> q < X.heap.size -> w'.heap[q]? = X.heap[q]?) -> w'.cell? (zn (w.heap.size + 1) 0) = some (sq d.name) /\ w'.cell? (zn (w.heap.size + 1) 1) = some (.int .i64 d.lo) /\ w'.cell? (zn (w.heap.size + 1) 2) = some (.int .i64 d.hi) /\
   w'.cell? (zn (w.heap.size + 2) 0) = some (nl) /\ w'.cell? (zn (w.heap.size + 2) 1) = some (nl) /\ w'.frozen? (zn (w.heap.size + 2) 0) = false /\ w'.frozen? (zn (w.heap.size + 2) 1) = false) := L0 fun w' hb => by
  have c1 : ∀ o, w'.cell? (zn (w.heap.size + 1) o) = X.cell? (zn (w.heap.size + 1) o) := fun o => L1d (hb _ (by show _ < w.heap.size + 1; omega) hq1)
  have c2 : ∀ o, w'.cell? (zn (w.heap.size + 2) o) = X.cell? (zn (w.heap.size + 2) o) := fun o => L1d (hb _ (by show _ < w.heap.size + 2; omega) hq2)
  have c3 : ∀ o, w'.frozen? (zn (w.heap.size + 2) o) = X.frozen? (zn (w.heap.size + 2) o) := fun o => by
   unfold jF
   rw [hb (w.heap.size + 2) (by omega) hq2]
  exact ⟨(c1 0).trans nm0, (c1 1).trans nm1, (c1 2).trans nm2, (c2 0).trans r0, (c2 1).trans r1, (c3 0).trans z0, (c3 1).trans z1⟩
 have HN := L0 hn
 have HXS := L0 (L2b hq0)
 have HQ0 := L0 hq0
 have HREL : Hid (∀ w' : World, Bw w w' -> rDm.rel w' S [sq d.name, .int .i64 d.lo, .int .i64 d.hi] d) := L0 fun w' _ => ⟨rfl, hdm.1, hdm.2.1, hdm.2.2⟩
 have HBYT : Hid (((delD b.doms d.name).length + 1) * rDm.bytes <= 140737488355328) := L0 (by have := L2e (fun z : Dm => !(z.name == d.name)) b.doms; unfold delD; simp only [rDm]; omega)
 clear hn _hlen hl hd ht hSw hsz fk0 fk1 hq0 hq1 hq2 r0 r1 z0 z1
 go_enter Tryz.func46, Tryz.ntmps46
 go_wp2_with (first
  | (go_at_call 35; (with_reducible refine HWO.o.mono ?_); rintro e w1 ⟨v1, u1, rfl, hv1, hu1, hne1, hb1⟩; obtain ⟨A1, n1, c1, rfl⟩ := hv1.shape; obtain ⟨B1, m1, e1', rfl⟩ := hu1.shape; have HB2 := L0 hb1; have HNE1 := L0 hne1; obtain ⟨b0, b1, fb0, fb1⟩ := HKEEP.o _ hb1; obtain ⟨W2, e2, HB22, HBX2, HV2, HU2, HLV, HLU, HZ2, p0, p1, fp0, fp1⟩ := Y5x HB2.o HSZ.o hv1 hu1 HSW0.o b0 b1 fb0 fb1; obtain ⟨ng0, ng1, ng2, _, _, _, _⟩ := HBOX.o W2 HBX2.o; clear hv1 hu1 hne1 hb1 k0 k1 nm0 nm1 nm2; obtain ⟨W3, e3, HG3, HC3, q0, q1, fq0, fq1⟩ : ∃ W3, W2.alloc (.cells #[sq d.name, .int .i64 d.lo, .int .i64 d.hi] 63) = W3 /\ Hid (Bw W2 W3) /\ Hid (∀ j u, ([sq d.name, .int .i64 d.lo, .int .i64 d.hi] : List Value)[j]? = some u -> W3.cell? (((zn W2.heap.size 0) : Addr).add j) = some u) /\ W3.cell? (zn w.heap.size 0) = some (.slice A1 n1 c1) /\ W3.cell? (zn w.heap.size 1) = some (.slice B1 m1 e1') /\ W3.frozen? (zn w.heap.size 0) = false /\ W3.frozen? (zn w.heap.size 1) = false := (by (have hbb : Bw W2 (W2.alloc (.cells #[sq d.name, .int .i64 d.lo, .int .i64 d.hi] 63)) := (L0m _ _).alloc (L0g _) _; have hlt : w.heap.size < W2.heap.size := (L0d _ _ p0); exact ⟨_, rfl, L0 hbb, L0 (fun j u hu => Z6q W2 [sq d.name, .int .i64 d.lo, .int .i64 d.hi] 63 j u hu), (hbb.ce 0 hlt).trans p0, (hbb.ce 1 hlt).trans p1, (hbb.fr 0 hlt).trans fp0, (hbb.fr 1 hlt).trans fp1⟩)); have HBW2 := L0 (HB22.o w (HB1.o.trans (HB2.o.mono HB1.o.size))))
  | (at_builtin; refine Z38 (R := rDm) (S := S) (base := X.heap.size) (v := .slice A1 n1 c1) Y8u rfl (.tmp 10) (.tmp 12) rfl rfl (by exact HV2.o.below HG3.o) (zn W2.heap.size 0) 1 [sq d.name, .int .i64 d.lo, .int .i64 d.hi] rfl (by exact HREL.o W3 (HBW2.o.trans (HG3.o.mono HBW2.o.size))) (by exact fun q hq => by have := HSW.o q hq; have := HZ2.o; have := HG3.o.size; omega) HC3.o (by exact HBYT.o) (by exact L0h HZ2.o HG3.o.size) ?_; intro v2 w4 ho4 hb4 hg4 hv4; obtain ⟨A4, n4, c4, rfl⟩ := ho4.shape; obtain ⟨hbb4, hu4, hne4, hlv4⟩ := Y9h HSW0.o HQ0.o (HU2.o.below HG3.o) hg4 hv4 HNE1.o (fun g hg => (HLV.o g hg).1) (L0h HZ2.o HG3.o.size); have b0 := (hbb4.ce 0 HQ0.o).trans q0; have b1 := (hbb4.ce 1 HQ0.o).trans q1; have fb0 := (hbb4.fr 0 HQ0.o).trans fq0; have fb1 := (hbb4.fr 1 HQ0.o).trans fq1; have HNE4 := L0 hne4; have HLV4 := L0 hlv4; obtain ⟨W5, e5, HO5, HU5, HB5, HZ5, HBW5, p0, p1⟩ : ∃ W5, w4.setCell (zn w.heap.size 0) (.slice A4 n4 c4) = W5 /\ Hid (OwnS rDm 63 W5 X.heap.size S (.slice A4 n4 c4) (delD b.doms d.name ++ [d])) /\ Hid (OwnS rTb 66 W5 X.heap.size S (.slice B1 m1 e1') (delT b.tabs d.name)) /\
    Hid (∀ q, w.heap.size < q -> q < X.heap.size -> W5.heap[q]? = W3.heap[q]?) /\ Hid (W3.heap.size <= W5.heap.size) /\ Hid (Bw w W5) /\ W5.cell? (zn w.heap.size 0) = some (.slice A4 n4 c4) /\ W5.cell? (zn w.heap.size 1) = some (.slice B1 m1 e1') := (by (exact ⟨_, rfl, L0 (Z8z HSW0.o HQ0.o ho4 0 _), L0 (Z8z HSW0.o HQ0.o hu4 0 _), L0 (fun q h1 h2 => ((Z0b [.slice A4 n4 c4] 0 : w4.grownBy (w4.setCells w.heap.size 0 [.slice A4 n4 c4]) (some w.heap.size)).block q (L0c h2 (L0h HZ2.o (L0h HG3.o.size hbb4.size))) (fun h => L0w h1 (L0s h))).trans (hbb4.block q h2)), L0 (L0h hbb4.size (Z0b [.slice A4 n4 c4] 0 : w4.grownBy (w4.setCells w.heap.size 0 [.slice A4 n4 c4]) (some w.heap.size)).size), L0 (((HBW2.o.trans (HG3.o.mono HBW2.o.size)).trans (hbb4.mono HXS.o)).setCell (p := (zn w.heap.size 0)) (L0g _) _), L0e _ _ _ b0, (cso).trans b1⟩)); clear ho4 hb4 hg4 hv4 hu4 hne4 hlv4 hbb4 e3 q0 q1 fq0 fq1)
  | (go_at_call 83; (with_reducible refine (Y2u W5 HO5.o (by simp) (by have := HBYT.o; simp only [rDm] at this; simp only [L0i, L0p]; omega)).mono ?_); rintro e w6 ⟨rfl, ys, hp, hs, ho6, hg6⟩; obtain rfl := Z7k (fun z : Dm => z.name) hp hs (Z4n (f := fun z : Dm => z.name) HN.o d); obtain ⟨hbb6, hu6⟩ := Y9i HSW0.o HQ0.o HU5.o hg6 HNE4.o HLV4.o (L0h HZ2.o (L0h HG3.o.size HZ5.o)); have b0 := (hbb6.ce 0 HQ0.o).trans p0; have b1 := (hbb6.ce 1 HQ0.o).trans p1; have HO6 := L0 ho6; have HU6 := L0 hu6; have HX6 : Hid (∀ q, w.heap.size < q -> q < X.heap.size -> w6.heap[q]? = X.heap[q]?) := L0 (fun q h1 h2 => (hbb6.block q h2).trans ((HB5.o q h1 h2).trans ((HG3.o.block q (L0c h2 HZ2.o)).trans (HBX2.o q h1 h2)))); have HB6 : Hid (Bw w w6) := L0 (HBW5.o.trans (hbb6.mono HXS.o)); obtain ⟨_, _, _, r0, r1, z0, z1⟩ := HBOX.o w6 HX6.o; clear hp hs ho6 hg6 hbb6 hu6 p0 p1 e5 e2))
 have y0 : ((w6.setCell (zn (w.heap.size + 2) 0) (.slice A4 n4 c4)).setCell (zn (w.heap.size + 2) 1) (.slice B1 m1 e1')).cell? (zn (w.heap.size + 2) 0) = some (.slice A4 n4 c4) := (cso).trans (L0e _ _ _ r0)
 have y1 : ((w6.setCell (zn (w.heap.size + 2) 0) (.slice A4 n4 c4)).setCell (zn (w.heap.size + 2) 1) (.slice B1 m1 e1')).cell? (zn (w.heap.size + 2) 1) = some (.slice B1 m1 e1') := L0e _ _ _ ((cso).trans r1)
 have hsx := HSZ.o
 have hO := (Y2e HSW0.o HO6.o (m := w.heap.size + 2) (by omega) (by omega) [.slice A4 n4 c4, .slice B1 m1 e1']).lower HXS.o
 have hU := (Y2e HSW0.o HU6.o (m := w.heap.size + 2) (by omega) (by omega) [.slice A4 n4 c4, .slice B1 m1 e1']).lower HXS.o
 refine bodyPost_ret (by simp [results, Tryz.results46, go_sem, y0, y1]; rfl) rfl ?_
 exact ⟨_, _, rfl, hO, hU, (HB6.o.setCell (p := (zn (w.heap.size + 2) 0)) (show w.heap.size <= w.heap.size + 2 by omega) _).setCell (p := (zn (w.heap.size + 2) 1)) (show w.heap.size <= w.heap.size + 2 by omega) _⟩
theorem Z4u {S : Nat -> Prop} {cs : List Value} {b : Bk} (t : Tb) {TA TR : Option Addr} {tc td : Nat} (w : World) (hl : rBk.rel w S cs b) (hSw : ∀ q, S q -> q < w.heap.size) (htb : rTb.rel w S [sq t.name, .int .i64 t.pol, .bool t.comp, .slice TA t.ins.length tc, .slice TR t.rules.length td] t) (hn : (b.tabs.map (·.name)).Nodup) (_hlen : b.tabs.length < 1000000000000) :
  Calls Tryz.prog 45 #[.agg cs.toArray, .agg #[sq t.name, .int .i64 t.pol, .bool t.comp, .slice TA t.ins.length tc, .slice TR t.rules.length td]] w fun e w' => ∃ v u, e = .returned (.agg #[v, u]) /\ OwnS rDm 63 w' w.heap.size S v (Z47 b t).doms /\ OwnS rTb 66 w' w.heap.size S u (Z47 b t).tabs /\ Bw w w' := by
 obtain ⟨v0, u0, rfl, hd, ht⟩ := hl
 have hl : rBk.rel w S [v0, u0] b := ⟨v0, u0, rfl, hd, ht⟩
 obtain ⟨A, c, rfl, _⟩ := rSl.elems hd
 obtain ⟨B, d0, rfl, _⟩ := rSl.elems ht
 obtain ⟨X, e1, HB1, k0, k1, fk0, fk1, nm0, nm1, nm2, nm3, nm4, r0, r1, z0, z1, hsz⟩ : ∃ X, ((w.alloc (.cells #[.slice A b.doms.length c, .slice B b.tabs.length d0] 38)).alloc (.cells #[sq t.name, .int .i64 t.pol, .bool t.comp, .slice TA t.ins.length tc, .slice TR t.rules.length td] 66)).alloc (.cells #[nl, nl] 38) = X /\ Hid (Bw w X) /\
   X.cell? (zn w.heap.size 0) = some (.slice A b.doms.length c) /\ X.cell? (zn w.heap.size 1) = some (.slice B b.tabs.length d0) /\ X.frozen? (zn w.heap.size 0) = false /\ X.frozen? (zn w.heap.size 1) = false /\ X.cell? (zn (w.heap.size + 1) 0) = some (sq t.name) /\ X.cell? (zn (w.heap.size + 1) 1) = some (.int .i64 t.pol) /\ X.cell? (zn (w.heap.size + 1) 2) = some (.bool t.comp) /\ X.cell? (zn (w.heap.size + 1) 3) = some (.slice TA t.ins.length tc) /\ X.cell? (zn (w.heap.size + 1) 4) = some (.slice TR t.rules.length td) /\
   X.cell? (zn (w.heap.size + 2) 0) = some (nl) /\ X.cell? (zn (w.heap.size + 2) 1) = some (nl) /\ X.frozen? (zn (w.heap.size + 2) 0) = false /\ X.frozen? (zn (w.heap.size + 2) 1) = false /\ X.heap.size = w.heap.size + 3 := by
  have fz : ∀ (w : World) (cs : Array Value) (t : TypeId) (o : Nat), (w.alloc (.cells cs t)).frozen? (zn w.heap.size o) = false := fun w cs t o => by simp
  have fl : ∀ (w : World) (ob : Obj) (p : Addr), p.block < w.heap.size -> (w.alloc ob).frozen? p = w.frozen? p := fun w ob p h => ((L0m w.heap.size w).alloc (L0g _) ob).frozen (p := p) h
  have q1 : (w.alloc (.cells #[.slice A b.doms.length c, .slice B b.tabs.length d0] 38)).heap.size = w.heap.size + 1 := by simp
  have q2 : ((w.alloc (.cells #[.slice A b.doms.length c, .slice B b.tabs.length d0] 38)).alloc (.cells #[sq t.name, .int .i64 t.pol, .bool t.comp, .slice TA t.ins.length tc, .slice TR t.rules.length td] 66)).heap.size = w.heap.size + 2 := by simp
  refine ⟨_, rfl, L0 ((bA.alloc (by simp) _).alloc (by simp <;> omega) _), ?_, ?_, ?_, ?_, ?_, ?_, ?_, ?_, ?_, ?_, ?_, ?_, ?_, by simp⟩
  ·exact (L0j _ _ _ (by simp <;> omega)).trans ((L0j _ _ _ (by simp)).trans (L0b _ _ _ _))
  ·exact (L0j _ _ _ (by simp <;> omega)).trans ((L0j _ _ _ (by simp)).trans (L0b _ _ _ _))
  ·exact (fl _ _ _ (by simp <;> omega)).trans ((fl _ _ _ (by simp)).trans (fz _ _ _ _))
  ·exact (fl _ _ _ (by simp <;> omega)).trans ((fl _ _ _ (by simp)).trans (fz _ _ _ _))
  ·rw [<- q1]; exact (L0j _ _ _ (by simp)).trans (L0b _ _ _ _)
  ·rw [<- q1]; exact (L0j _ _ _ (by simp)).trans (L0b _ _ _ _)
  ·rw [<- q1]; exact (L0j _ _ _ (by simp)).trans (L0b _ _ _ _)
  ·rw [<- q1]; exact (L0j _ _ _ (by simp)).trans (L0b _ _ _ _)
  ·rw [<- q1]; exact (L0j _ _ _ (by simp)).trans (L0b _ _ _ _)
  ·rw [<- q2]; exact L0b _ _ _ _
  ·rw [<- q2]; exact L0b _ _ _ _
  ·rw [<- q2]; exact fz _ _ _ _
  rw [<- q2]; exact fz _ _ _ _
 have HSZ := L0 hsz
 have HSW : Hid (∀ q, S q -> q < X.heap.size) := L0 fun q hq => by have := hSw q hq; omega
 have HSW0 := L0 hSw
 have HWO := L0 (Z4v t.name X (jE hl HB1.o) HSW.o)
 have hq0 : w.heap.size < X.heap.size := by omega
 have hq1 : w.heap.size + 1 < X.heap.size := by omega
 have hq2 : w.heap.size + 2 < X.heap.size := by omega
 have HKEEP : Hid (∀ w' : World, Bw X w' -> w'.cell? (zn w.heap.size 0) = some (.slice A b.doms.length c) /\ w'.cell? (zn w.heap.size 1) = some (.slice B b.tabs.length d0) /\ w'.frozen? (zn w.heap.size 0) = false /\ w'.frozen? (zn w.heap.size 1) = false) := L0 fun w' hb =>
  ⟨(hb.ce 0 hq0).trans k0, (hb.ce 1 hq0).trans k1, (hb.fr 0 hq0).trans fk0, (hb.fr 1 hq0).trans fk1⟩
 have HBOX : Hid (∀ w' : World, (∀ q, w.heap.size < q -> q < X.heap.size -> w'.heap[q]? = X.heap[q]?) -> w'.cell? (zn (w.heap.size + 1) 0) = some (sq t.name) /\ w'.cell? (zn (w.heap.size + 1) 1) = some (.int .i64 t.pol) /\ w'.cell? (zn (w.heap.size + 1) 2) = some (.bool t.comp) /\ w'.cell? (zn (w.heap.size + 1) 3) = some (.slice TA t.ins.length tc) /\ w'.cell? (zn (w.heap.size + 1) 4) = some (.slice TR t.rules.length td) /\
   w'.cell? (zn (w.heap.size + 2) 0) = some (nl) /\ w'.cell? (zn (w.heap.size + 2) 1) = some (nl) /\ w'.frozen? (zn (w.heap.size + 2) 0) = false /\ w'.frozen? (zn (w.heap.size + 2) 1) = false) := L0 fun w' hb => by
  have c1 : ∀ o, w'.cell? (zn (w.heap.size + 1) o) = X.cell? (zn (w.heap.size + 1) o) := fun o => L1d (hb _ (by show _ < w.heap.size + 1; omega) hq1)
  have c2 : ∀ o, w'.cell? (zn (w.heap.size + 2) o) = X.cell? (zn (w.heap.size + 2) o) := fun o => L1d (hb _ (by show _ < w.heap.size + 2; omega) hq2)
  have c3 : ∀ o, w'.frozen? (zn (w.heap.size + 2) o) = X.frozen? (zn (w.heap.size + 2) o) := fun o => by
   unfold jF
   rw [hb (w.heap.size + 2) (by omega) hq2]
  exact ⟨(c1 0).trans nm0, (c1 1).trans nm1, (c1 2).trans nm2, (c1 3).trans nm3, (c1 4).trans nm4, (c2 0).trans r0, (c2 1).trans r1, (c3 0).trans z0, (c3 1).trans z1⟩
 have HN := L0 hn
 have HXS := L0 (L2b hq0)
 have HQ0 := L0 hq0
 have HREL : Hid (∀ w' : World, Bw w w' -> rTb.rel w' S [sq t.name, .int .i64 t.pol, .bool t.comp, .slice TA t.ins.length tc, .slice TR t.rules.length td] t) := L0 fun w' hb => jE htb hb
 have HBYT : Hid (((delT b.tabs t.name).length + 1) * rTb.bytes <= 140737488355328) := L0 (by have := L2e (fun z : Tb => !(z.name == t.name)) b.tabs; unfold delT; simp only [rTb]; omega)
 clear hn _hlen hl hd ht hSw hsz fk0 fk1 hq0 hq1 hq2 r0 r1 z0 z1
 go_enter Tryz.func45, Tryz.ntmps45
 go_wp2_with (first
  | (go_at_call 35; (with_reducible refine HWO.o.mono ?_); rintro e w1 ⟨v1, u1, rfl, hv1, hu1, hne1, hb1⟩; obtain ⟨A1, n1, c1, rfl⟩ := hv1.shape; obtain ⟨B1, m1, e1', rfl⟩ := hu1.shape; have HB2 := L0 hb1; have HNE1 := L0 hne1; obtain ⟨b0, b1, fb0, fb1⟩ := HKEEP.o _ hb1; obtain ⟨W2, e2, HB22, HBX2, HV2, HU2, HLV, HLU, HZ2, p0, p1, fp0, fp1⟩ := Y5x HB2.o HSZ.o hv1 hu1 HSW0.o b0 b1 fb0 fb1; obtain ⟨ng0, ng1, ng2, ng3, ng4, _, _, _, _⟩ := HBOX.o W2 HBX2.o; clear hv1 hu1 hne1 hb1 k0 k1 nm0 nm1 nm2 nm3 nm4; obtain ⟨W3, e3, HG3, HC3, q0, q1, fq0, fq1⟩ : ∃ W3, W2.alloc (.cells #[sq t.name, .int .i64 t.pol, .bool t.comp, .slice TA t.ins.length tc, .slice TR t.rules.length td] 66) = W3 /\ Hid (Bw W2 W3) /\ Hid (∀ j u, ([sq t.name, .int .i64 t.pol, .bool t.comp, .slice TA t.ins.length tc, .slice TR t.rules.length td] : List Value)[j]? = some u -> W3.cell? (((zn W2.heap.size 0) : Addr).add j) = some u) /\ W3.cell? (zn w.heap.size 0) = some (.slice A1 n1 c1) /\ W3.cell? (zn w.heap.size 1) = some (.slice B1 m1 e1') /\ W3.frozen? (zn w.heap.size 0) = false /\ W3.frozen? (zn w.heap.size 1) = false := (by (have hbb : Bw W2 (W2.alloc (.cells #[sq t.name, .int .i64 t.pol, .bool t.comp, .slice TA t.ins.length tc, .slice TR t.rules.length td] 66)) := (L0m _ _).alloc (L0g _) _; have hlt : w.heap.size < W2.heap.size := (L0d _ _ p0); exact ⟨_, rfl, L0 hbb, L0 (fun j u hu => Z6q W2 [sq t.name, .int .i64 t.pol, .bool t.comp, .slice TA t.ins.length tc, .slice TR t.rules.length td] 66 j u hu), (hbb.ce 0 hlt).trans p0, (hbb.ce 1 hlt).trans p1, (hbb.fr 0 hlt).trans fp0, (hbb.fr 1 hlt).trans fp1⟩)); have HBW2 := L0 (HB22.o w (HB1.o.trans (HB2.o.mono HB1.o.size))))
  | (at_builtin; refine Z38 (R := rTb) (S := S) (base := X.heap.size) (v := .slice B1 m1 e1') Y55 rfl (.tmp 10) (.tmp 12) rfl rfl (by exact HU2.o.below HG3.o) (zn W2.heap.size 0) 1 [sq t.name, .int .i64 t.pol, .bool t.comp, .slice TA t.ins.length tc, .slice TR t.rules.length td] rfl (by exact HREL.o W3 (HBW2.o.trans (HG3.o.mono HBW2.o.size))) (by exact fun q hq => by have := HSW.o q hq; have := HZ2.o; have := HG3.o.size; omega) HC3.o (by exact HBYT.o) (by exact L0h HZ2.o HG3.o.size) ?_; intro v2 w4 ho4 hb4 hg4 hv4; obtain ⟨A4, n4, c4, rfl⟩ := ho4.shape; obtain ⟨hbb4, hu4, hne4, hlv4⟩ := Y9h HSW0.o HQ0.o (HV2.o.below HG3.o) hg4 hv4 (fun g h1 h2 => HNE1.o g h2 h1) (fun g hg => (HLU.o g hg).1) (L0h HZ2.o HG3.o.size); have b0 := (hbb4.ce 0 HQ0.o).trans q0; have b1 := (hbb4.ce 1 HQ0.o).trans q1; have fb0 := (hbb4.fr 0 HQ0.o).trans fq0; have fb1 := (hbb4.fr 1 HQ0.o).trans fq1; have HNE4 := L0 hne4; have HLV4 := L0 hlv4; obtain ⟨W5, e5, HO5, HU5, HB5, HZ5, HBW5, p0, p1⟩ : ∃ W5, w4.setCell (zn w.heap.size 1) (.slice A4 n4 c4) = W5 /\ Hid (OwnS rTb 66 W5 X.heap.size S (.slice A4 n4 c4) (delT b.tabs t.name ++ [t])) /\ Hid (OwnS rDm 63 W5 X.heap.size S (.slice A1 n1 c1) (delD b.doms t.name)) /\
    Hid (∀ q, w.heap.size < q -> q < X.heap.size -> W5.heap[q]? = W3.heap[q]?) /\ Hid (W3.heap.size <= W5.heap.size) /\ Hid (Bw w W5) /\ W5.cell? (zn w.heap.size 0) = some (.slice A1 n1 c1) /\ W5.cell? (zn w.heap.size 1) = some (.slice A4 n4 c4) := (by (exact ⟨_, rfl, L0 (Z8z HSW0.o HQ0.o ho4 1 _), L0 (Z8z HSW0.o HQ0.o hu4 1 _), L0 (fun q h1 h2 => ((Z0b [.slice A4 n4 c4] 1 : w4.grownBy (w4.setCells w.heap.size 1 [.slice A4 n4 c4]) (some w.heap.size)).block q (L0c h2 (L0h HZ2.o (L0h HG3.o.size hbb4.size))) (fun h => L0w h1 (L0s h))).trans (hbb4.block q h2)), L0 (L0h hbb4.size (Z0b [.slice A4 n4 c4] 1 : w4.grownBy (w4.setCells w.heap.size 1 [.slice A4 n4 c4]) (some w.heap.size)).size), L0 (((HBW2.o.trans (HG3.o.mono HBW2.o.size)).trans (hbb4.mono HXS.o)).setCell (p := (zn w.heap.size 1)) (L0g _) _), (cso).trans b0, L0e _ _ _ b1⟩)); clear ho4 hb4 hg4 hv4 hu4 hne4 hlv4 hbb4 e3 q0 q1 fq0 fq1)
  | (go_at_call 80; (with_reducible refine (Y2v W5 HO5.o (by simp) (by have := HBYT.o; simp only [rTb] at this; simp only [L0i, L0p]; omega)).mono ?_); rintro e w6 ⟨rfl, ys, hp, hs, ho6, hg6⟩; obtain rfl := Z7k (fun z : Tb => z.name) hp hs (Z4n (f := fun z : Tb => z.name) HN.o t); obtain ⟨hbb6, hu6⟩ := Y9i HSW0.o HQ0.o HU5.o hg6 HNE4.o HLV4.o (L0h HZ2.o (L0h HG3.o.size HZ5.o)); have b0 := (hbb6.ce 0 HQ0.o).trans p0; have b1 := (hbb6.ce 1 HQ0.o).trans p1; have HO6 := L0 ho6; have HU6 := L0 hu6; have HX6 : Hid (∀ q, w.heap.size < q -> q < X.heap.size -> w6.heap[q]? = X.heap[q]?) := L0 (fun q h1 h2 => (hbb6.block q h2).trans ((HB5.o q h1 h2).trans ((HG3.o.block q (L0c h2 HZ2.o)).trans (HBX2.o q h1 h2)))); have HB6 : Hid (Bw w w6) := L0 (HBW5.o.trans (hbb6.mono HXS.o)); obtain ⟨_, _, _, _, _, r0, r1, z0, z1⟩ := HBOX.o w6 HX6.o; clear hp hs ho6 hg6 hbb6 hu6 p0 p1 e5 e2))
 have y0 : ((w6.setCell (zn (w.heap.size + 2) 0) (.slice A1 n1 c1)).setCell (zn (w.heap.size + 2) 1) (.slice A4 n4 c4)).cell? (zn (w.heap.size + 2) 0) = some (.slice A1 n1 c1) := (cso).trans (L0e _ _ _ r0)
 have y1 : ((w6.setCell (zn (w.heap.size + 2) 0) (.slice A1 n1 c1)).setCell (zn (w.heap.size + 2) 1) (.slice A4 n4 c4)).cell? (zn (w.heap.size + 2) 1) = some (.slice A4 n4 c4) := L0e _ _ _ ((cso).trans r1)
 have hsx := HSZ.o
 have hO := (Y2e HSW0.o HO6.o (m := w.heap.size + 2) (by omega) (by omega) [.slice A1 n1 c1, .slice A4 n4 c4]).lower HXS.o
 have hU := (Y2e HSW0.o HU6.o (m := w.heap.size + 2) (by omega) (by omega) [.slice A1 n1 c1, .slice A4 n4 c4]).lower HXS.o
 refine bodyPost_ret (by simp [results, Tryz.results45, go_sem, y0, y1]; rfl) rfl ?_
 exact ⟨_, _, rfl, hU, hO, (HB6.o.setCell (p := (zn (w.heap.size + 2) 0)) (show w.heap.size <= w.heap.size + 2 by omega) _).setCell (p := (zn (w.heap.size + 2) 1)) (show w.heap.size <= w.heap.size + 2 by omega) _⟩
theorem Y9u {α : Type} {R : Rd α} {w : World} {S : Nat -> Prop} {v : Value} {l : List α} (h : (rSl R).rel w S [v] l) (hb : 8 <= R.bytes) : l.length <= 17592186044416 := by
 obtain ⟨_, _, _, _, _, h3, _⟩ := h
 have := Nat.mul_le_mul_left l.length hb
 omega
structure Ses where
 opn : Bool
 strict : Bool
 frm : Int
 mine : Bk
 gone : List Txt
 read : List Txt
def rSes : Rd Ses where
 k := 7
 bytes := 112
 rel w S cs x := ∃ v u g r, cs = [.bool x.opn, .bool x.strict, .int .i64 x.frm, v, u, g, r] /\ InI x.frm /\ (rSl rDm).rel w S [v] x.mine.doms /\ (rSl rTb).rel w S [u] x.mine.tabs /\ (rSl rStr).rel w S [g] x.gone /\ (rSl rStr).rel w S [r] x.read
 len h := by obtain ⟨v, u, g, r, rfl, _⟩ := h; rfl
 keep h hk := by obtain ⟨v, u, g, r, e, h0, h1, h2, h3, h4⟩ := h; exact ⟨v, u, g, r, e, h0, (rSl rDm).keep h1 hk, (rSl rTb).keep h2 hk, (rSl rStr).keep h3 hk, (rSl rStr).keep h4 hk⟩
 mono h hk := by obtain ⟨v, u, g, r, e, h0, h1, h2, h3, h4⟩ := h; exact ⟨v, u, g, r, e, h0, (rSl rDm).mono h1 hk, (rSl rTb).mono h2 hk, (rSl rStr).mono h3 hk, (rSl rStr).mono h4 hk⟩
 one h x hx := by
  obtain ⟨v, u, g, r, rfl, h0, h1, h2, h3, h4⟩ := h
  simp at hx
  rcases hx with rfl | rfl | rfl | rfl | rfl | rfl | rfl
  ·rfl
  ·rfl
  ·rfl
  ·exact (rSl rDm).one h1 _ (by simp)
  ·exact (rSl rTb).one h2 _ (by simp)
  ·exact (rSl rStr).one h3 _ (by simp)
  exact (rSl rStr).one h4 _ (by simp)
def Z1o (b : Bk) (x : Ses) : Bk := x.mine.tabs.foldl Z47 (x.mine.doms.foldl Z3y (x.gone.foldl Z0r b))
structure Neat (b : Bk) (nd nt : Nat) : Prop where
 hd : (b.doms.map (·.name)).Nodup
 ht : (b.tabs.map (·.name)).Nodup
 ld : b.doms.length <= nd
 lt : b.tabs.length <= nt
theorem Z31 {α : Type} {f : α -> List UInt8} {l : List α} (h : (l.map f).Nodup) (p : α -> Bool) : ((l.filter p).map f).Nodup := (List.Sublist.map f jB).nodup h
theorem Neat.without {b : Bk} {nd nt : Nat} (h : Neat b nd nt) (s : Txt) : Neat (Z0r b s) nd nt :=
 ⟨Z31 h.hd _, Z31 h.ht _, L0h (L2e _ _) h.ld, L0h (L2e _ _) h.lt⟩
theorem Z2d {b : Bk} {nd nt : Nat} (h : Neat b nd nt) (d : Dm) : Neat (Z3y b d) (nd + 1) nt := by
 refine ⟨?_, Z31 h.ht _, ?_, L0h (L2e _ _) h.lt⟩
 ·exact ((L2j _ _).map _).nodup_iff.2 (Z4n (f := fun z : Dm => z.name) h.hd d)
 show (Y9v _).length <= _
 unfold Y9v
 rw [(L2j _ _).length_eq, L0i]
 have := L2e (fun z : Dm => !(z.name == d.name)) b.doms
 have := h.ld
 unfold delD
 simp only [L0p]
 omega
theorem Z2z {b : Bk} {nd nt : Nat} (h : Neat b nd nt) (d : Tb) : Neat (Z47 b d) nd (nt + 1) := by
 refine ⟨Z31 h.hd _, ?_, L0h (L2e _ _) h.ld, ?_⟩
 ·exact ((L2j _ _).map _).nodup_iff.2 (Z4n (f := fun z : Tb => z.name) h.ht d)
 show (Y9w _).length <= _
 unfold Y9w
 rw [(L2j _ _).length_eq, L0i]
 have := L2e (fun z : Tb => !(z.name == d.name)) b.tabs
 have := h.lt
 unfold delT
 simp only [L0p]
 omega
theorem Neat.view1 {nd nt : Nat} : ∀ (l : List Txt) {b : Bk}, Neat b nd nt -> Neat (l.foldl Z0r b) nd nt
 | [], _, h => h
 | s :: l, _, h => Neat.view1 l (h.without s)
theorem Neat.view2 {nt : Nat} : ∀ (l : List Dm) {nd : Nat} {b : Bk}, Neat b nd nt -> Neat (l.foldl Z3y b) (nd + l.length) nt
 | [], _, _, h => h
 | d :: l, nd, b, h => by
  have := Neat.view2 l (Z2d h d)
  rw [L0r, show nd + (l.length + 1) = nd + 1 + l.length by omega]
  exact this
theorem Neat.mono {b : Bk} {nd nt nd' nt' : Nat} (h : Neat b nd nt) (h1 : nd <= nd') (h2 : nt <= nt') : Neat b nd' nt' := ⟨h.hd, h.ht, L0h h.ld h1, L0h h.lt h2⟩
structure ViewI (X : World) (n : Nat) (S : Nat -> Prop) (wr : World) (vc uc : Value) (bk : Bk) : Prop where
 c0 : wr.cell? (zn n 0) = some vc
 c1 : wr.cell? (zn n 1) = some uc
 f0 : wr.frozen? (zn n 0) = false
 f1 : wr.frozen? (zn n 1) = false
 hg : X.grownBy wr (some n)
 rel : rBk.rel wr (fun b => (S b \/ X.heap.size <= b) /\ b < wr.heap.size) [vc, uc] bk
theorem ViewI.below {X wr w' : World} {n : Nat} {S : Nat -> Prop} {vc uc : Value} {bk : Bk} (h : ViewI X n S wr vc uc bk) (hb : Bw wr w') : ViewI X n S w' vc uc bk := by
 have hn : n < wr.heap.size := L0d _ _ h.c0
 exact ⟨(hb.ce 0 hn).trans h.c0, (hb.ce 1 hn).trans h.c1, (hb.fr 0 hn).trans h.f0, (hb.fr 1 hn).trans h.f1,
  Z0f h.hg (Z0i hb), rBk.mono (jE h.rel hb) fun b h1 h2 => ⟨h1.1, h2⟩⟩
theorem ViewI.step {X wr w1 : World} {n : Nat} {S : Nat -> Prop} {vc uc : Value} {bk bk' : Bk} (h : ViewI X n S wr vc uc bk) (hnX : n < X.heap.size) (hnS : ¬ S n) {v u : Value}
  (hv : OwnS rDm 63 w1 wr.heap.size (fun b => (S b \/ X.heap.size <= b) /\ b < wr.heap.size) v bk'.doms) (hu : OwnS rTb 66 w1 wr.heap.size (fun b => (S b \/ X.heap.size <= b) /\ b < wr.heap.size) u bk'.tabs) (hb : Bw wr w1) :
  ViewI X n S ((w1.setCell (zn n 0) v).setCell (zn n 1) u) v u bk' := by
 have hn : n < wr.heap.size := L0d _ _ h.c0
 have hXw : X.heap.size <= wr.heap.size := h.hg.size
 have k0 := (hb.ce 0 hn).trans h.c0
 have k1 := (hb.ce 1 hn).trans h.c1
 have HG : w1.grownBy ((w1.setCell (zn n 0) v).setCell (zn n 1) u) (some n) := Z0b [v, u] 0
 have hK : Keeps (fun b => (S b \/ X.heap.size <= b) /\ b < w1.heap.size) w1 ((w1.setCell (zn n 0) v).setCell (zn n 1) u) := .grown HG fun g hg => by
  injection hg with hg
  subst hg
  rintro ⟨h1 | h1, _⟩
  ·exact hnS h1
  omega
 have sub : ∀ b, Up (fun b => (S b \/ X.heap.size <= b) /\ b < wr.heap.size) wr.heap.size b -> b < w1.heap.size -> (S b \/ X.heap.size <= b) /\ b < w1.heap.size := fun b h1 h2 => by
  rcases h1 with h1 | h1
  ·exact ⟨h1.1, h2⟩
  exact ⟨.inr (by omega), h2⟩
 refine ⟨(cso).trans (L0e _ _ _ k0), L0e _ _ _ ((cso).trans k1), ?_, ?_, Z0f h.hg (Z0f (Z0i hb) HG), v, u, rfl, ?_, ?_⟩
 ·rw [L0k, L0k]; exact (hb.fr 0 hn).trans h.f0
 ·rw [L0k, L0k]; exact (hb.fr 1 hn).trans h.f1
 ·exact (rSl rDm).mono ((rSl rDm).keep ((rSl rDm).mono (hv.self.rel (by decide)) sub) hK) fun b h1 _ => ⟨h1.1, by have := HG.size; have := h1.2; omega⟩
 exact (rSl rTb).mono ((rSl rTb).keep ((rSl rTb).mono (hu.self.rel (by decide)) sub) hK) fun b h1 _ => ⟨h1.1, by have := HG.size; have := h1.2; omega⟩
theorem Y2w {S : Nat -> Prop} {cs : List Value} {b : Bk} (s : Txt) (w : World) (hl : rBk.rel w S cs b) (hSw : ∀ q, S q -> q < w.heap.size) :
  Calls Tryz.prog 35 #[.agg cs.toArray, sq s] w fun e w' => ∃ v u, e = .returned (.agg #[v, u]) /\ OwnS rDm 63 w' w.heap.size S v (Z0r b s).doms /\ OwnS rTb 66 w' w.heap.size S u (Z0r b s).tabs /\ Bw w w' :=
 (Z4v s w hl hSw).mono fun _ _ ⟨v, u, h1, h2, h3, _, h5⟩ => ⟨v, u, h1, h2, h3, h5⟩
theorem Elems.at_grown {α : Type} {R : Rd α} {X wr : World} {S : Nat -> Prop} {A : Option Addr} {l : List α} {n : Nat} (h : Elems R X S A l) (hS : ∀ q, S q -> q < X.heap.size) (hg : X.grownBy wr (some n)) (hn : ¬ S n) : Elems R wr S A l :=
 h.keep fun b hb _ => hg.block b (hS b hb) fun he => by injection he with he; exact hn (he ▸ hb)
theorem Z8v {S : Nat -> Prop} {cs xs : List Value} {b : Bk} {x : Ses} (w : World) (hl : rBk.rel w S cs b) (hx : rSes.rel w S xs x) (hSw : ∀ q, S q -> q < w.heap.size) {nd nt : Nat} (hneat : Neat b nd nt) (hnd : nd + x.mine.doms.length < 1000000000000) (hnt : nt + x.mine.tabs.length < 1000000000000) :
  Calls Tryz.prog 23 #[.agg cs.toArray, .agg xs.toArray] w fun e w' => ∃ v u, e = .returned (.agg #[v, u]) /\ rBk.rel w' (Up S w.heap.size) [v, u] (Z1o b x) /\ Bw w w' := by
 obtain ⟨v0, u0, rfl, hd, ht⟩ := hl
 have hl : rBk.rel w S [v0, u0] b := ⟨v0, u0, rfl, hd, ht⟩
 obtain ⟨A, c, rfl, _⟩ := rSl.elems hd
 obtain ⟨B, d0, rfl, _⟩ := rSl.elems ht
 obtain ⟨xv, xu, xg, xr, rfl, _, hxd, hxt, hxg, hxr⟩ := hx
 have hgl := Y9u hxg (by decide)
 obtain ⟨DA, dc, rfl, _, _, _, hDE⟩ := rSl.elems hxd
 obtain ⟨TA0, tc0, rfl, _, _, _, hTE⟩ := rSl.elems hxt
 obtain ⟨GA, gc, rfl, _, _, _, hGE⟩ := rSl.elems hxg
 obtain ⟨RA, rc, rfl, _⟩ := rSl.elems hxr
 obtain ⟨X, e1, HB1, HV0, sc3, sc4, sc5, r0, r1, z0, z1, hsz⟩ : ∃ X, ((w.alloc (.cells #[.slice A b.doms.length c, .slice B b.tabs.length d0] 38)).alloc (.cells #[.bool x.opn, .bool x.strict, .int .i64 x.frm, .slice DA x.mine.doms.length dc, .slice TA0 x.mine.tabs.length tc0, .slice GA x.gone.length gc, .slice RA x.read.length rc] 41)).alloc (.cells #[nl, nl] 38) = X /\ Hid (Bw w X) /\
   Hid (ViewI X w.heap.size S X (.slice A b.doms.length c) (.slice B b.tabs.length d0) b) /\ X.cell? (zn (w.heap.size + 1) 3) = some (.slice DA x.mine.doms.length dc) /\ X.cell? (zn (w.heap.size + 1) 4) = some (.slice TA0 x.mine.tabs.length tc0) /\ X.cell? (zn (w.heap.size + 1) 5) = some (.slice GA x.gone.length gc) /\
   X.cell? (zn (w.heap.size + 2) 0) = some (nl) /\ X.cell? (zn (w.heap.size + 2) 1) = some (nl) /\ X.frozen? (zn (w.heap.size + 2) 0) = false /\ X.frozen? (zn (w.heap.size + 2) 1) = false /\ X.heap.size = w.heap.size + 3 := by
  have fz : ∀ (w : World) (cs : Array Value) (t : TypeId) (o : Nat), (w.alloc (.cells cs t)).frozen? (zn w.heap.size o) = false := fun w cs t o => by simp
  have fl : ∀ (w : World) (ob : Obj) (p : Addr), p.block < w.heap.size -> (w.alloc ob).frozen? p = w.frozen? p := fun w ob p h => ((L0m w.heap.size w).alloc (L0g _) ob).frozen (p := p) h
  have q1 : (w.alloc (.cells #[.slice A b.doms.length c, .slice B b.tabs.length d0] 38)).heap.size = w.heap.size + 1 := by simp
  have q2 : ((w.alloc (.cells #[.slice A b.doms.length c, .slice B b.tabs.length d0] 38)).alloc (.cells #[.bool x.opn, .bool x.strict, .int .i64 x.frm, .slice DA x.mine.doms.length dc, .slice TA0 x.mine.tabs.length tc0, .slice GA x.gone.length gc, .slice RA x.read.length rc] 41)).heap.size = w.heap.size + 2 := by simp
  have hB := (((L0m w.heap.size w).alloc (L0g _) (.cells #[.slice A b.doms.length c, .slice B b.tabs.length d0] 38)).alloc (by simp) (.cells #[.bool x.opn, .bool x.strict, .int .i64 x.frm, .slice DA x.mine.doms.length dc, .slice TA0 x.mine.tabs.length tc0, .slice GA x.gone.length gc, .slice RA x.read.length rc] 41)).alloc (by simp <;> omega) (.cells #[nl, nl] 38)
  refine ⟨_, rfl, L0 hB, L0 ⟨?_, ?_, ?_, ?_, ⟨rfl, rfl, rfl, L0g _, fun _ _ _ => rfl⟩, rBk.mono (jE hl hB) fun q h1 h2 => ⟨.inl h1, h2⟩⟩, ?_, ?_, ?_, ?_, ?_, ?_, ?_, by simp⟩
  ·exact (L0j _ _ _ (by simp <;> omega)).trans ((L0j _ _ _ (by simp)).trans (L0b _ _ _ _))
  ·exact (L0j _ _ _ (by simp <;> omega)).trans ((L0j _ _ _ (by simp)).trans (L0b _ _ _ _))
  ·exact (fl _ _ _ (by simp <;> omega)).trans ((fl _ _ _ (by simp)).trans (fz _ _ _ _))
  ·exact (fl _ _ _ (by simp <;> omega)).trans ((fl _ _ _ (by simp)).trans (fz _ _ _ _))
  ·rw [<- q1]; exact (L0j _ _ _ (by simp)).trans (L0b _ _ _ _)
  ·rw [<- q1]; exact (L0j _ _ _ (by simp)).trans (L0b _ _ _ _)
  ·rw [<- q1]; exact (L0j _ _ _ (by simp)).trans (L0b _ _ _ _)
  ·rw [<- q2]; exact L0b _ _ _ _
  ·rw [<- q2]; exact L0b _ _ _ _
  ·rw [<- q2]; exact fz _ _ _ _
  rw [<- q2]; exact fz _ _ _ _
 have hnX : w.heap.size < X.heap.size := by omega
 have hnS : ¬ S w.heap.size := fun h => by have := hSw _ h; omega
 have hSX : ∀ q, S q -> q < X.heap.size := fun q h => by have := hSw q h; omega
 have HSW0 := L0 hSw
 have HNX := L0 hnX
 have HNS := L0 hnS
 have HSX := L0 hSX
 have HDE := L0 (hDE.keep (.of_below HB1.o))
 have HTE := L0 (hTE.keep (.of_below HB1.o))
 have HGE := L0 (hGE.keep (.of_below HB1.o))
 have HOLD : Hid (∀ wr : World, X.grownBy wr (some w.heap.size) -> wr.cell? (zn (w.heap.size + 1) 3) = some (.slice DA x.mine.doms.length dc) /\ wr.cell? (zn (w.heap.size + 1) 4) = some (.slice TA0 x.mine.tabs.length tc0) /\
   wr.cell? (zn (w.heap.size + 2) 0) = some (nl) /\ wr.cell? (zn (w.heap.size + 2) 1) = some (nl) /\ wr.frozen? (zn (w.heap.size + 2) 0) = false /\ wr.frozen? (zn (w.heap.size + 2) 1) = false) := L0 fun wr hg => by
  have hb1 : wr.heap[w.heap.size + 1]? = X.heap[w.heap.size + 1]? := hg.block _ (by omega) (by simp)
  have hb2 : wr.heap[w.heap.size + 2]? = X.heap[w.heap.size + 2]? := hg.block _ (by omega) (by simp)
  refine ⟨(L1d hb1).trans sc3, (L1d hb1).trans sc4, (L1d hb2).trans r0, (L1d hb2).trans r1, ?_, ?_⟩
  ·unfold jF at z0 ⊢; rw [hb2]; exact z0
  unfold jF at z1 ⊢; rw [hb2]; exact z1
 have HNEAT := L0 hneat
 have HSZ := L0 hsz
 have hDl := Y9u hxd (by decide)
 have hTl := Y9u hxt (by decide)
 clear hl hd ht hxd hxt hxg hxr hDE hTE hGE hnX hnS hSX hSw sc3 sc4 r0 r1 z0 z1 hsz hneat
 go_enter Tryz.func23, Tryz.ntmps23
 go_wp2
 clear e1
 go_loopw [14] (fun si wr => ∃ (k : Nat) (vc uc : Value) (bk : Bk), si = .int .i64 k /\ k <= x.gone.length /\ Hid (ViewI X w.heap.size S wr vc uc bk) /\ Hid (bk = (x.gone.take k).foldl Z0r b)) (fun si _ => x.gone.length - (intOf si).toNat)
 exact ⟨0, _, _, b, by go_num, L0o _, HV0, L0 (by simp)⟩
 obtain ⟨k, vc, uc, bk, rfl, hk, HV, HK⟩ := hrel
 have a0 := HV.o.c0
 have a1 := HV.o.c1
 by_cases hlt : k < x.gone.length
 ·have hkz : (k : Int) < x.gone.length := by omega
  obtain ⟨q, off, s, rfl, _, hq, hs, hsl, h1⟩ := (HGE.o.at_grown HSX.o HV.o.hg HNS.o).str hlt
  have HS := L0 hs
  clear hs
  go_wp2_with (go_at_call 35; (with_reducible refine (Y2w s wr HV.o.rel (fun q h => h.2)).mono ?_); rintro e w1 HCON; obtain ⟨v1, u1, rfl, hv1, hu1, hb1⟩ := HCON; obtain ⟨A1, n1, c1, rfl⟩ := hv1.shape; obtain ⟨B1, m1, d1, rfl⟩ := hu1.shape; have HN := L0 (L0d _ _ HV.o.c0); have b0 := (hb1.ce 0 HN.o).trans HV.o.c0; have b1 := (hb1.ce 1 HN.o).trans HV.o.c1; have fb0 := (hb1.fr 0 HN.o).trans HV.o.f0; have fb1 := (hb1.fr 1 HN.o).trans HV.o.f1; obtain ⟨W2, e2, HV2⟩ : ∃ W2, (w1.setCell (zn w.heap.size 0) (.slice A1 n1 c1)).setCell (zn w.heap.size 1) (.slice B1 m1 d1) = W2 /\ Hid (ViewI X w.heap.size S W2 (.slice A1 n1 c1) (.slice B1 m1 d1) (Z0r bk s)) := ⟨_, rfl, L0 (HV.o.step HNX.o HNS.o hv1 hu1 hb1)⟩; clear hv1 hu1 hb1)
  go_roundw
  exact ⟨k + 1, _, _, _, by go_num, hlt, HV2, L0 (by rw [L1k, HS.o, L1e, <- HK.o]; rfl)⟩
  simp [intOf]; omega
 have HB0 : Hid (bk = x.gone.foldl Z0r b) := L0 (by have := HK.o; rwa [L0l (by omega)] at this)
 have HNE0 : Hid (Neat bk nd nt) := L0 (by rw [HB0.o]; exact Neat.view1 _ HNEAT.o)
 obtain ⟨sc3, sc4, _, _, _, _⟩ := HOLD.o wr HV.o.hg
 go_wp2
 clear sc3 sc4 sc5 a0 a1
 go_loopw [26] (fun si wr => ∃ (k : Nat) (vc uc : Value) (bk : Bk), si = .int .i64 k /\ k <= x.mine.doms.length /\ Hid (ViewI X w.heap.size S wr vc uc bk) /\ Hid (bk = (x.mine.doms.take k).foldl Z3y (x.gone.foldl Z0r b)) /\ Hid (Neat bk (nd + k) nt)) (fun si _ => x.mine.doms.length - (intOf si).toNat)
 exact ⟨0, _, _, bk, by go_num, L0o _, HV, L0 (by rw [HB0.o]; simp), HNE0⟩
 clear HV HK HB0 HNE0 hk hlt
 obtain ⟨k2, vc2, uc2, bk2, rfl, hk2, HV, HK, HNE⟩ := hrel
 have a0 := HV.o.c0
 have a1 := HV.o.c1
 by_cases hlt2 : k2 < x.mine.doms.length
 ·have hkz : (k2 : Int) < x.mine.doms.length := by omega
  obtain ⟨q, off, d, rfl, hq, hd0, hdr, g0, g1, g2⟩ := (HDE.o.at_grown HSX.o HV.o.hg HNS.o).dm hlt2
  have HS := L0 hd0
  have HDR := L0 hdr
  obtain ⟨W3, e3, HV3, j0, j1, j2, a30, a31⟩ : ∃ W3, wr.alloc (.cells #[sq d.name, .int .i64 d.lo, .int .i64 d.hi] 63) = W3 /\ Hid (ViewI X w.heap.size S W3 vc2 uc2 bk2) /\ W3.cell? (zn wr.heap.size 0) = some (sq d.name) /\ W3.cell? (zn wr.heap.size 1) = some (.int .i64 d.lo) /\ W3.cell? (zn wr.heap.size 2) = some (.int .i64 d.hi) /\ W3.cell? (zn w.heap.size 0) = some vc2 /\ W3.cell? (zn w.heap.size 1) = some uc2 := by
   have hv := HV.o.below ((L0m _ _).alloc (L0g _) (.cells #[sq d.name, .int .i64 d.lo, .int .i64 d.hi] 63))
   exact ⟨_, rfl, L0 hv, L0b _ _ _ _, L0b _ _ _ _, L0b _ _ _ _, hv.c0, hv.c1⟩
  have HLE : Hid (bk2.doms.length < 1000000000000) := L0 (by have := HNE.o.ld; omega)
  clear hd0 hdr
  go_wp2_with (go_at_call 46; (with_reducible refine (Y1t d W3 HV3.o.rel (fun q h => h.2) HDR.o HNE.o.hd HLE.o).mono ?_); rintro e w1 HCON; obtain ⟨v1, u1, rfl, hv1, hu1, hb1⟩ := HCON; obtain ⟨A1, n1, c1, rfl⟩ := hv1.shape; obtain ⟨B1, m1, d1, rfl⟩ := hu1.shape; have HN := L0 (L0d _ _ HV3.o.c0); have b0 := (hb1.ce 0 HN.o).trans HV3.o.c0; have b1 := (hb1.ce 1 HN.o).trans HV3.o.c1; have fb0 := (hb1.fr 0 HN.o).trans HV3.o.f0; have fb1 := (hb1.fr 1 HN.o).trans HV3.o.f1; obtain ⟨W2, e2, HV2⟩ : ∃ W2, (w1.setCell (zn w.heap.size 0) (.slice A1 n1 c1)).setCell (zn w.heap.size 1) (.slice B1 m1 d1) = W2 /\ Hid (ViewI X w.heap.size S W2 (.slice A1 n1 c1) (.slice B1 m1 d1) (Z3y bk2 d)) := ⟨_, rfl, L0 (HV3.o.step HNX.o HNS.o hv1 hu1 hb1)⟩; clear hv1 hu1 hb1)
  go_roundw
  exact ⟨k2 + 1, _, _, _, by go_num, hlt2, HV2, L0 (by rw [L1k, HS.o, L1e, <- HK.o]; rfl), L0 (Z2d HNE.o d)⟩
  simp [intOf]; omega
 have HB0 : Hid (bk2 = x.mine.doms.foldl Z3y (x.gone.foldl Z0r b)) := L0 (by have := HK.o; rwa [L0l (by omega)] at this)
 have HNE0 : Hid (Neat bk2 (nd + x.mine.doms.length) nt) := L0 (HNE.o.mono (by omega) (L0g _))
 obtain ⟨sc3, sc4, _, _, _, _⟩ := HOLD.o wr HV.o.hg
 go_wp2
 clear sc3 sc4 a0 a1
 go_loopw [38] (fun si wr => ∃ (k : Nat) (vc uc : Value) (bk : Bk), si = .int .i64 k /\ k <= x.mine.tabs.length /\ Hid (ViewI X w.heap.size S wr vc uc bk) /\ Hid (bk = (x.mine.tabs.take k).foldl Z47 (x.mine.doms.foldl Z3y (x.gone.foldl Z0r b))) /\ Hid (Neat bk (nd + x.mine.doms.length) (nt + k))) (fun si _ => x.mine.tabs.length - (intOf si).toNat)
 exact ⟨0, _, _, bk2, by go_num, L0o _, HV, L0 (by rw [HB0.o]; simp), HNE0⟩
 clear HV HK HB0 HNE0 hk2 hlt2 HNE
 obtain ⟨k3, vc3, uc3, bk3, rfl, hk3, HV, HK, HNE⟩ := hrel
 have a0 := HV.o.c0
 have a1 := HV.o.c1
 by_cases hlt3 : k3 < x.mine.tabs.length
 ·have hkz : (k3 : Int) < x.mine.tabs.length := by omega
  obtain ⟨q, off, t, TA, tc, TR, td, rfl, hq, ht0, htr, g0, g1, g2, g3, g4⟩ := (HTE.o.at_grown HSX.o HV.o.hg HNS.o).tb hlt3
  have HS := L0 ht0
  obtain ⟨W3, e3, HV3, HTR, j0, j1, j2, j3, j4, a30, a31⟩ : ∃ W3, wr.alloc (.cells #[sq t.name, .int .i64 t.pol, .bool t.comp, .slice TA t.ins.length tc, .slice TR t.rules.length td] 66) = W3 /\ Hid (ViewI X w.heap.size S W3 vc3 uc3 bk3) /\ Hid (rTb.rel W3 (fun q => (S q \/ X.heap.size <= q) /\ q < W3.heap.size) [sq t.name, .int .i64 t.pol, .bool t.comp, .slice TA t.ins.length tc, .slice TR t.rules.length td] t) /\ W3.cell? (zn wr.heap.size 0) = some (sq t.name) /\ W3.cell? (zn wr.heap.size 1) = some (.int .i64 t.pol) /\ W3.cell? (zn wr.heap.size 2) = some (.bool t.comp) /\ W3.cell? (zn wr.heap.size 3) = some (.slice TA t.ins.length tc) /\ W3.cell? (zn wr.heap.size 4) = some (.slice TR t.rules.length td) /\ W3.cell? (zn w.heap.size 0) = some vc3 /\ W3.cell? (zn w.heap.size 1) = some uc3 := by
   have hbb := (L0m wr.heap.size wr).alloc (L0g _) (.cells #[sq t.name, .int .i64 t.pol, .bool t.comp, .slice TA t.ins.length tc, .slice TR t.rules.length td] 66)
   have hv := HV.o.below hbb
   exact ⟨_, rfl, L0 hv, L0 (rTb.mono (jE htr hbb) fun b h1 h2 => ⟨.inl h1, h2⟩), L0b _ _ _ _, L0b _ _ _ _, L0b _ _ _ _, L0b _ _ _ _, L0b _ _ _ _, hv.c0, hv.c1⟩
  have HLE : Hid (bk3.tabs.length < 1000000000000) := L0 (by have := HNE.o.lt; omega)
  clear ht0 htr
  go_wp2_with (go_at_call 45; (with_reducible refine (Z4u t W3 HV3.o.rel (fun q h => h.2) HTR.o HNE.o.ht HLE.o).mono ?_); rintro e w1 HCON; obtain ⟨v1, u1, rfl, hv1, hu1, hb1⟩ := HCON; obtain ⟨A1, n1, c1, rfl⟩ := hv1.shape; obtain ⟨B1, m1, d1, rfl⟩ := hu1.shape; have HN := L0 (L0d _ _ HV3.o.c0); have b0 := (hb1.ce 0 HN.o).trans HV3.o.c0; have b1 := (hb1.ce 1 HN.o).trans HV3.o.c1; have fb0 := (hb1.fr 0 HN.o).trans HV3.o.f0; have fb1 := (hb1.fr 1 HN.o).trans HV3.o.f1; obtain ⟨W2, e2, HV2⟩ : ∃ W2, (w1.setCell (zn w.heap.size 0) (.slice A1 n1 c1)).setCell (zn w.heap.size 1) (.slice B1 m1 d1) = W2 /\ Hid (ViewI X w.heap.size S W2 (.slice A1 n1 c1) (.slice B1 m1 d1) (Z47 bk3 t)) := ⟨_, rfl, L0 (HV3.o.step HNX.o HNS.o hv1 hu1 hb1)⟩; clear hv1 hu1 hb1)
  go_roundw
  exact ⟨k3 + 1, _, _, _, by go_num, hlt3, HV2, L0 (by rw [L1k, HS.o, L1e, <- HK.o]; rfl), L0 (Z2z HNE.o t)⟩
  simp [intOf]; omega
 have HB0 : Hid (bk3 = Z1o b x) := L0 (by have := HK.o; rwa [L0l (by omega)] at this)
 obtain ⟨_, _, r0, r1, z0, z1⟩ := HOLD.o wr HV.o.hg
 have hrl := HV.o.rel
 obtain ⟨v9, u9, e9, hd9, ht9⟩ := id hrl
 simp only [L1f, and_true] at e9
 obtain ⟨rfl, rfl⟩ := e9
 obtain ⟨A9, c9, rfl, _⟩ := rSl.elems hd9
 obtain ⟨B9, d9, rfl, _⟩ := rSl.elems ht9
 have HRL := L0 hrl
 clear hrl hd9 ht9
 go_wp2
 have y0 : ((wr.setCell (zn (w.heap.size + 2) 0) (.slice A9 bk3.doms.length c9)).setCell (zn (w.heap.size + 2) 1) (.slice B9 bk3.tabs.length d9)).cell? (zn (w.heap.size + 2) 0) = some (.slice A9 bk3.doms.length c9) := (cso).trans (L0e _ _ _ r0)
 have y1 : ((wr.setCell (zn (w.heap.size + 2) 0) (.slice A9 bk3.doms.length c9)).setCell (zn (w.heap.size + 2) 1) (.slice B9 bk3.tabs.length d9)).cell? (zn (w.heap.size + 2) 1) = some (.slice B9 bk3.tabs.length d9) := L0e _ _ _ ((cso).trans r1)
 have hsx := HSZ.o
 have HG : wr.grownBy ((wr.setCell (zn (w.heap.size + 2) 0) (.slice A9 bk3.doms.length c9)).setCell (zn (w.heap.size + 2) 1) (.slice B9 bk3.tabs.length d9)) (some (w.heap.size + 2)) := Z0b [.slice A9 bk3.doms.length c9, .slice B9 bk3.tabs.length d9] 0
 refine bodyPost_ret (by simp [results, Tryz.results23, go_sem, y0, y1]; rfl) rfl ?_
 refine ⟨_, _, rfl, ?_, ?_⟩
 ·rw [<- HB0.o]
  exact rBk.mono (rBk.keep HRL.o (.grown HG fun g hg => by
   injection hg with hg
   subst hg
   rintro ⟨h1 | h1, _⟩
   ·have := HSW0.o _ h1; omega
   omega)) fun q h1 _ => h1.1.imp id fun h => by omega
 have hbw := (L0m w.heap.size X).grown HV.o.hg (L2b HNX.o) fun g hg => by (injection hg with hg; exact Nat.le_of_eq hg)
 exact ((HB1.o.trans hbw).setCell (p := (zn (w.heap.size + 2) 0)) (show w.heap.size <= w.heap.size + 2 by omega) _).setCell (p := (zn (w.heap.size + 2) 1)) (show w.heap.size <= w.heap.size + 2 by omega) _
