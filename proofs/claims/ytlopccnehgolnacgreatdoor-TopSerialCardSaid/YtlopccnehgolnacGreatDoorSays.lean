import Derived.Test.YtlopccnehgolnacGreatDoorGK11
import Derived.Test.YtlopccnehgolnacGreatDoorMap
namespace Go.Proofs.YtlopccnehgolnacGreatDoor
open Go.RowKit Rb
set_option maxRecDepth 100000
set_option maxHeartbeats 800000
structure An where
 name : Txt
 found : Bool
 n : Int
def an0 : An := ⟨[], false, 0⟩
def ansV (a : An) : Value := .agg #[sq a.name, .bool a.found, .int .i64 a.n]
def atM (m : Txt -> Option An) (s : Txt) : An := (m s).getD an0
def gotM (m : Txt -> Option An) : List Txt -> Option (List Int)
 | [] => some []
 | s :: l => if (atM m s).found then (gotM m l).map ((atM m s).n :: ·) else none
def Y2l (m : Txt -> Option An) (t : Tb) : An := match gotM m t.ins with | none => an0 | some ns => ⟨[], (Z19 t ns).2.1, (Z19 t ns).1⟩
theorem X3e {m : Txt -> Option An} {l : List Txt} {k : Nat} {s : Txt} (h : l[k]? = some s) : gotM m (l.drop k) = if (atM m s).found then (gotM m (l.drop (k + 1))).map ((atM m s).n :: ·) else none := by
 rw [Z0p h]; rfl
def MapA (w : World) (b n : Nat) (m : Txt -> Option An) : Prop := SMap Tryz.prog 9 w b n (fun s => (m s).map ansV) /\ ∀ s, InI (atM m s).n
theorem MapA.getD {m : Txt -> Option An} (s : Txt) : ((m s).map ansV).getD (ansV an0) = ansV (atM m s) := by
 unfold atM
 cases m s <;> rfl
theorem MapA.below {w w' : World} {b n : Nat} {m : Txt -> Option An} (h : MapA w b n m) (hb : Bw w w') : MapA w' b n m := ⟨h.1.below hb, h.2⟩
theorem MapA.alloc {w : World} {b n : Nat} {m : Txt -> Option An} (h : MapA w b n m) (o : Obj) : MapA (w.alloc o) b n m := ⟨h.1.alloc o, h.2⟩
theorem X30 (w : World) : (zeroValue 99).run Tryz.prog w = .ok (ansV an0) w := by kernel_rfl
theorem Y56 (v0 v1 v2 : Value) (w : World) : (Instr.field 99 (.agg #[v0, v1, v2]) 0).run Tryz.prog w = .ok v0 w /\ (Instr.field 99 (.agg #[v0, v1, v2]) 1).run Tryz.prog w = .ok v1 w /\ (Instr.field 99 (.agg #[v0, v1, v2]) 2).run Tryz.prog w = .ok v2 w :=
 ⟨by kernel_rfl, by kernel_rfl, by kernel_rfl⟩
theorem Y96 {w : World} {q : Nat} {u0 u1 u2 : Value} (v0 v1 v2 : Value) (h0 : w.cell? (zn q 0) = some u0) (h1 : w.cell? (zn q 1) = some u1) (h2 : w.cell? (zn q 2) = some u2) :
  ∃ W, ((w.setCell (zn q 0) v0).setCell (zn q 1) v1).setCell (zn q 2) v2 = W /\ (∀ B, B <= q -> ∀ w0, Below B w0 w -> Below B w0 W) /\
   W.cell? (zn q 0) = some v0 /\ W.cell? (zn q 1) = some v1 /\ W.cell? (zn q 2) = some v2 := by
 have o : ∀ (w : World) (i j : Nat) (v : Value), i ≠ j -> (w.setCell (zn q i) v).cell? (zn q j) = w.cell? (zn q j) := fun w i j v h => L0a _ _ _ _ (by simp <;> omega)
 refine ⟨_, rfl, fun B hB w0 hb => ((hb.setCell hB _).setCell hB _).setCell hB _, ?_, ?_, ?_⟩
 ·rw [o _ 2 0 _ (by decide), o _ 1 0 _ (by decide)]
  exact L0e _ _ _ h0
 ·rw [o _ 2 1 _ (by decide)]
  exact L0e _ _ _ ((o _ 0 1 _ (by decide)).trans h1)
 exact L0e _ _ _ ((o _ 1 2 _ (by decide)).trans ((o _ 0 2 _ (by decide)).trans h2))
theorem X4a {S T : Nat -> Prop} {cs : List Value} {t : Tb} {u : Value} {ns : List Int} {r : Int} {o : Bool} {e : Int} (w : World) (hl : rTb.rel w S cs t) (hn : (rSl rInt).rel w T [u] ns) (h : Z19 t ns = (r, o, e)) :
  Calls Tryz.prog 113 #[.agg cs.toArray, u] w fun x w' => x = .returned (.tuple #[.int .i64 r, .bool o, .int .i64 e]) /\ Bw w w' := by
 have := X0o w hl hn
 rwa [h] at this
theorem X1v {S : Nat -> Prop} {cs : List Value} {t : Tb} {mb mn : Nat} {m : Txt -> Option An} (w : World) (hl : rTb.rel w S cs t) (hm : MapA w mb mn m) :
  Calls Tryz.prog 86 #[.agg cs.toArray, .map (some mb)] w fun e w' => e = .returned (ansV (Y2l m t)) /\ Bw w w' := by
 have hl' := hl
 obtain ⟨v, u, rfl, hnm, hp, hi, hr⟩ := hl
 obtain ⟨A, c, rfl, _, _, hbt, hF⟩ := rSl.elems hi
 obtain ⟨B, d, rfl, _⟩ := rSl.elems hr
 have hlt5 : t.ins.length <= 8796093022208 := by simp only [rStr] at hbt; omega
 obtain ⟨W1, e1, hb1, k0, k1, k2, k3, k4, f0, f1, f2, z0, z1, z2, hs1, HM1, HT1⟩ : ∃ W1, (w.alloc (.cells #[sq t.name, .int .i64 t.pol, .bool t.comp, .slice A t.ins.length c, .slice B t.rules.length d] 66)).alloc (.cells #[.string ⟨#[]⟩, .bool false, .int .i64 0] 99) = W1 /\ Hid (Bw w W1) /\
   W1.cell? (zn w.heap.size 0) = some (sq t.name) /\ W1.cell? (zn w.heap.size 1) = some (.int .i64 t.pol) /\ W1.cell? (zn w.heap.size 2) = some (.bool t.comp) /\ W1.cell? (zn w.heap.size 3) = some (.slice A t.ins.length c) /\ W1.cell? (zn w.heap.size 4) = some (.slice B t.rules.length d) /\
   W1.cell? (zn (w.heap.size + 1) 0) = some (.string ⟨#[]⟩) /\ W1.cell? (zn (w.heap.size + 1) 1) = some (.bool false) /\ W1.cell? (zn (w.heap.size + 1) 2) = some (.int .i64 0) /\
   W1.frozen? (zn (w.heap.size + 1) 0) = false /\ W1.frozen? (zn (w.heap.size + 1) 1) = false /\ W1.frozen? (zn (w.heap.size + 1) 2) = false /\ w.heap.size + 1 < W1.heap.size /\ Hid (MapA W1 mb mn m) /\ Hid (rTb.rel W1 S [sq t.name, .int .i64 t.pol, .bool t.comp, .slice A t.ins.length c, .slice B t.rules.length d] t) := by
  have e : (w.alloc (.cells #[sq t.name, .int .i64 t.pol, .bool t.comp, .slice A t.ins.length c, .slice B t.rules.length d] 66)).heap.size = w.heap.size + 1 := by simp
  refine ⟨_, rfl, L0 (bA.alloc (by simp) _), (L0j _ _ _ (by simp)).trans (L0b _ _ _ _), (L0j _ _ _ (by simp)).trans (L0b _ _ _ _), (L0j _ _ _ (by simp)).trans (L0b _ _ _ _), (L0j _ _ _ (by simp)).trans (L0b _ _ _ _), (L0j _ _ _ (by simp)).trans (L0b _ _ _ _), ?_, ?_, ?_, ?_, ?_, ?_, by simp, L0 ((hm.alloc _).alloc _), L0 (Rd.alloc (Rd.alloc hl' _) _)⟩ <;> rw [<- e] <;> first | exact L0b _ _ _ _ | simp
 clear hl' hi hr hbt hm
 go_enter Tryz.func86, Tryz.ntmps86
 go_wp2
 clear e1
 try unfold Bw at *
 generalize hq4 : w.heap.size + 1 = q4 at *
 have hq5 : w.heap.size <= q4 := by omega
 have HS0 := L0 (show w.heap.size < W1.heap.size by omega)
 clear hq4
 go_loopw [5, 14] (fun o i wr => ∃ (k : Nat) (out : List Int), k <= t.ins.length /\ i = .int .i64 k /\ Own rInt 3 wr W1.heap.size (fun _ => False) o out /\ Hid (out.length = k) /\ Hid (gotM m t.ins = (gotM m (t.ins.drop k)).map (out ++ ·)) /\ Hid (Bw W1 wr)) (fun _ i _ => t.ins.length - (intOf i).toNat)
 exact ⟨0, [], L0o _, rfl, Own.nil _ _ _ _ _, L0 rfl, L0 (by cases h : gotM m t.ins <;> simp [h]), L0 (L0m _ _)⟩
 obtain ⟨k, out, hk, rfl, hown, HOL, HG, HB⟩ := hrel
 have hbw := hb1.out.trans (HB.o.mono hb1.out.size)
 have HMr := L0 (HM1.o.below HB.o)
 have y0 : wr.frozen? (zn q4 0) = false := (HB.o.fr 0 hs1).trans z0
 have y1 : wr.frozen? (zn q4 1) = false := (HB.o.fr 1 hs1).trans z1
 have y2 : wr.frozen? (zn q4 2) = false := (HB.o.fr 2 hs1).trans z2
 have p0 := (HB.o.ce 0 hs1).trans f0
 have p1 := (HB.o.ce 1 hs1).trans f1
 have p2 := (HB.o.ce 2 hs1).trans f2
 by_cases hlt : k < t.ins.length
 ·obtain ⟨bB, off, x, rfl, _, hbB, hx, hxl, g0⟩ := hF.str hlt
  rw [<- hbw.ce _ hbB] at g0
  have hik : (k : Int) < t.ins.length := by omega
  have HAT := L0 (X3e (m := m) hx)
  have HNI := L0 (HMr.o.2 x)
  obtain ⟨⟨nm, fd, nn⟩, ha⟩ : ∃ a, atM m x = a := ⟨_, rfl⟩
  have HV : Hid (((m x).map ansV).getD (ansV an0) = .agg #[sq nm, .bool fd, .int .i64 nn]) := L0 (by rw [MapA.getD, ha]; rfl)
  have HA := L0 ha
  clear hx ha hF
  cases fd
  ·have HF : Hid (gotM m t.ins = none) := L0 (by rw [HG.o, HAT.o, HA.o]; rfl)
   obtain ⟨W4, e4, hB4, n0, n1, n2⟩ := Y96 (.string ⟨#[]⟩) (.bool false) (.int .i64 0) p0 p1 p2
   have HB4 := L0 (hB4 _ hq5 _ hbw)
   clear hB4
   go_wp2_with (first | (refine Z39 rfl (.tmp 20) 99 1 rfl rfl (Y56 _ _ _ _).2.1 ?_) | (refine Z39 rfl (.tmp 27) 99 2 rfl rfl (Y56 _ _ _ _).2.2 ?_) | (at_lookup; refine Z20 rfl _ _ 150 rfl Tryz.underlying150 Tryz.underlying9 (X30 _) rfl HMr.o.1 rfl hxl HV.o ?_))
   refine bodyPost_ret (by simp [results, Tryz.results86, go_sem, n0, n1, n2]; rfl) rfl ?_
   exact ⟨by unfold Y2l; rw [HF.o]; rfl, HB4.o⟩
  have HG' : Hid (gotM m t.ins = (gotM m (t.ins.drop (k + 1))).map ((out ++ [nn]) ++ ·)) := L0 (by
   rw [HG.o, HAT.o, HA.o]
   cases gotM m (t.ins.drop (k + 1)) <;> simp)
  have HBY : Hid ((out.length + 1) * rInt.bytes <= 140737488355328) := L0 (by have := HOL.o; show (_ + 1) * 8 <= _; omega)
  have HNN : Hid (InI nn) := L0 (by have := HNI.o; rw [HA.o] at this; exact this)
  have HOW := L0 hown
  clear hown
  go_wp2_with (first | (refine Z39 rfl (.tmp 20) 99 1 rfl rfl (Y56 _ _ _ _).2.1 ?_) | (refine Z39 rfl (.tmp 27) 99 2 rfl rfl (Y56 _ _ _ _).2.2 ?_) | (at_lookup; refine Z20 rfl _ _ 150 rfl Tryz.underlying150 Tryz.underlying9 (X30 _) rfl HMr.o.1 rfl hxl HV.o ?_) | (at_builtin; refine Z0a (R := rInt) (x := nn) el_I rfl (.tmp 24) (.tmp 29) rfl rfl HOW.o [.int .i64 nn] rfl rfl (fun _ => False) ⟨rfl, HNN.o⟩ (fun _ h => h.elim) HBY.o HB.o.size ?_; intro v9 w9 hown9 hb9 _ _))
  go_roundw
  exact ⟨k + 1, out ++ [nn], by omega, by go_num, hown9, L0 (by have := HOL.o; rw [L0i]; simp only [L0r, L0v]; omega), HG', L0 (HB.o.trans hb9)⟩
  simp [intOf]; omega
 have HF : Hid (gotM m t.ins = some out) := L0 (by rw [HG.o, L0u (by omega)]; simp [gotM])
 obtain ⟨A9, l9, rfl⟩ := hown.value
 obtain ⟨⟨r, o, e⟩, hsy⟩ : ∃ x, Z19 t out = x := ⟨_, rfl⟩
 have HSY := L0 hsy
 have HTr := L0 (Rd.below HT1.o HB.o)
 have HOR := L0 (hown.rel (by decide))
 have c0 := (HB.o.ce 0 HS0.o).trans k0
 have c1 := (HB.o.ce 1 HS0.o).trans k1
 have c2 := (HB.o.ce 2 HS0.o).trans k2
 have c3 := (HB.o.ce 3 HS0.o).trans k3
 have c4 := (HB.o.ce 4 HS0.o).trans k4
 have HQ : Hid (q4 < wr.heap.size) := L0 (L0c hs1 HB.o.size)
 clear hF hsy hown
 go_wp2_with (go_at_call 113; (with_reducible refine (X4a wr HTr.o HOR.o HSY.o).mono ?_); rintro x8 w8 ⟨rfl, hb8⟩; have HB8 := L0 (hbw.trans (hb8.mono hbw.size)); have x0 : w8.frozen? (zn q4 0) = false := (hb8.fr 0 HQ.o).trans y0; have x1 : w8.frozen? (zn q4 1) = false := (hb8.fr 1 HQ.o).trans y1; have x2 : w8.frozen? (zn q4 2) = false := (hb8.fr 2 HQ.o).trans y2; have r0 := (hb8.ce 0 HQ.o).trans p0; have r1 := (hb8.ce 1 HQ.o).trans p1; have r2 := (hb8.ce 2 HQ.o).trans p2; obtain ⟨W4, e4, hB4, n0, n1, n2⟩ := Y96 (.string ⟨#[]⟩) (.bool o) (.int .i64 r) r0 r1 r2; have HB4 := L0 (hB4 _ hq5 _ HB8.o); clear hB4 hb8)
 refine bodyPost_ret (by simp [results, Tryz.results86, go_sem, n0, n1, n2]; rfl) rfl ?_
 exact ⟨by unfold Y2l; rw [HF.o]; dsimp only; rw [HSY.o]; rfl, HB4.o⟩
