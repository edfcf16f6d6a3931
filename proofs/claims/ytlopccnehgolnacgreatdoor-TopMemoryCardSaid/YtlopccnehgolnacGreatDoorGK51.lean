import Derived.Test.YtlopccnehgolnacGreatDoorGK16
import Derived.Test.YtlopccnehgolnacGreatDoorGK49
import Derived.Great.BuildSlice
import Derived.Deep.RegionHeld3
import Derived.Deep.DeepMust
import Derived.Deep.DeepCutAuto
import Derived.BigQuiet
namespace Go.Proofs.YtlopccnehgolnacGreatDoor
open Go.RowKit Rb
open Rd renaming below -> jA
set_option maxRecDepth 100000
set_option maxHeartbeats 25600000
theorem Z7h {P : Program} {ops : Array Oper} {rest : List Oper} {o : Oper} {a : Act} {w : World} {Q : Exit -> Act -> World -> Prop} {t e : TypeId} {b : Nat} {z : Value} (hu : P.underlying t = some (.slice e)) (hi : (P.info? e).map (fun i => (i.zero, i.size, i.bytes)) = some (some z, 2, b)) (hg : o.guard = none) (p1 p2 : Operand) (ho : o.op = .buildSlice t 2 #[(0, p1), (1, p2)]) (x1 y1 x2 y2 : Value) (hv1 : a.eval p1 = .agg #[x1, y1]) (hv2 : a.eval p2 = .agg #[x2, y2]) (w2 : World) (hw : w.alloc (.cells #[x1, y1, x2, y2] e) = w2)
  (h : wpList P ops Q rest (a.put o.dst (.slice (some ⟨w.heap.size, 0, none⟩) 2 2)) w2) : wpList P ops Q (o :: rest) a w := by
 obtain ⟨i, hi, hz, hsi, _⟩ : ∃ i, P.info? e = some i /\ i.zero = some z /\ i.size = 2 /\ i.bytes = b := by
  obtain ⟨i, hi, hzz⟩ := Option.map_eq_some_iff.1 hi
  simp only [Prod.mk.injEq] at hzz
  exact ⟨i, hi, hzz.1, hzz.2.1, hzz.2.2⟩
 subst hw
 refine wpList_buildSlice hg t e 2 #[(0, p1), (1, p2)] ho #[x1, y1, x2, y2] i z hu hi hz (by rw [hsi]; omega) (by rw [hsi]; omega) ?_ h
 obtain ⟨r, h1, h2, h3⟩ := Great.fill_dense (s := 2) (by omega) [.agg #[x1, y1], .agg #[x2, y2]] 0 ((Array.range (2 * 2)).map (z.cells[· % z.cells.size]!)) (by simp [Value.cells]) (by simp)
 rw [hsi]
 have e1 : ((#[(0, p1), (1, p2)].map fun (i, x) => (i, a.eval x)).toList) = ((([Value.agg #[x1, y1], Value.agg #[x2, y2]] : List Value).zipIdx 0).map fun x => (x.2, x.1)) := by simp [hv1, hv2]
 rw [e1, h1]
 congr 1
 apply Array.ext_getElem?
 intro k
 rw [h3 k]
 match k with
 | 0 => simp [Value.cells]
 | 1 => simp [Value.cells]
 | 2 => simp [Value.cells]
 | 3 => simp [Value.cells]
 | k + 4 =>
  rw [if_neg (by simp), L2q (by simp), L2q (by simp)]
theorem X0i : (Tryz.prog.info? 38).map (fun i => (i.zero, i.size, i.bytes)) = some (some (.agg #[.slice none 0 0, .slice none 0 0]), 2, 48) := by kernel_rfl
theorem Y6f (v0 v1 v2 v3 v4 v5 v6 : Value) (w : World) : (Instr.field 41 (.agg #[v0, v1, v2, v3, v4, v5, v6]) 3).run Tryz.prog w = .ok (.agg #[v3, v4]) w := by kernel_rfl
theorem X1y (w : World) (v0 v1 : Value) : ∃ W0 W1, w.alloc (.cells #[.slice none 0 0, .slice none 0 0] 38) = W0 /\ (W0.setCell ⟨w.heap.size, 0, none⟩ v0).setCell ⟨w.heap.size, 1, none⟩ v1 = W1 /\
  W0.cell? ⟨w.heap.size, 0, none⟩ = some (.slice none 0 0) /\ W0.cell? ⟨w.heap.size, 1, none⟩ = some (.slice none 0 0) /\ W0.frozen? ⟨w.heap.size, 0, none⟩ = false /\ W0.frozen? ⟨w.heap.size, 1, none⟩ = false /\
  W1.cell? ⟨w.heap.size, 0, none⟩ = some v0 /\ W1.cell? ⟨w.heap.size, 1, none⟩ = some v1 /\ Hid (Below w.heap.size w W1) := by
 have c0 : (w.alloc (.cells #[.slice none 0 0, .slice none 0 0] 38)).cell? ⟨w.heap.size, 0, none⟩ = some (.slice none 0 0) := L0b _ _ _ _
 have c1 : (w.alloc (.cells #[.slice none 0 0, .slice none 0 0] 38)).cell? ⟨w.heap.size, 1, none⟩ = some (.slice none 0 0) := L0b _ _ _ _
 refine ⟨_, _, rfl, rfl, c0, c1, by simp, by simp, ?_, ?_, L0 ?_⟩
 ·exact (L0a _ _ _ _ (by simp)).trans (L0d _ _ _ c0)
 ·exact L0d _ _ _ ((L0a _ _ _ _ (by simp)).trans c1)
 ·exact (bA.setCell (p := ⟨w.heap.size, 0, none⟩) (L0g _) _).setCell (p := ⟨w.heap.size, 1, none⟩) (L0g _) _
theorem X10 (w : World) (v0 v1 v2 v3 v4 : Value) : ∃ W0 W1, w.alloc (.cells #[.string ⟨#[]⟩, .int .i64 0, .bool false, .slice none 0 0, .slice none 0 0] 66) = W0 /\ ((((W0.setCell ⟨w.heap.size, 0, none⟩ v0).setCell ⟨w.heap.size, 1, none⟩ v1).setCell ⟨w.heap.size, 2, none⟩ v2).setCell ⟨w.heap.size, 3, none⟩ v3).setCell ⟨w.heap.size, 4, none⟩ v4 = W1 /\
  (W0.cell? ⟨w.heap.size, 0, none⟩ = some (.string ⟨#[]⟩) /\ W0.cell? ⟨w.heap.size, 1, none⟩ = some (.int .i64 0) /\ W0.cell? ⟨w.heap.size, 2, none⟩ = some (.bool false) /\ W0.cell? ⟨w.heap.size, 3, none⟩ = some (.slice none 0 0) /\ W0.cell? ⟨w.heap.size, 4, none⟩ = some (.slice none 0 0)) /\
  (W0.frozen? ⟨w.heap.size, 0, none⟩ = false /\ W0.frozen? ⟨w.heap.size, 1, none⟩ = false /\ W0.frozen? ⟨w.heap.size, 2, none⟩ = false /\ W0.frozen? ⟨w.heap.size, 3, none⟩ = false /\ W0.frozen? ⟨w.heap.size, 4, none⟩ = false) /\
  W1.cell? ⟨w.heap.size, 3, none⟩ = some v3 /\ W1.cell? ⟨w.heap.size, 4, none⟩ = some v4 /\ Hid (Below w.heap.size w W1) := by
 have k : ∀ j, (w.alloc (.cells #[.string ⟨#[]⟩, .int .i64 0, .bool false, .slice none 0 0, .slice none 0 0] 66)).cell? ⟨w.heap.size, j, none⟩ = #[.string ⟨#[]⟩, .int .i64 0, .bool false, .slice none 0 0, .slice none 0 0][j]? := fun j => L0b _ _ _ _
 refine ⟨_, _, rfl, rfl, ⟨k 0, k 1, k 2, k 3, k 4⟩, ⟨by simp, by simp, by simp, by simp, by simp⟩, ?_, ?_, L0 ?_⟩
 ·exact (L0a _ _ _ _ (by simp)).trans (L0d _ _ _ ((L0a _ _ _ _ (by simp)).trans ((L0a _ _ _ _ (by simp)).trans ((L0a _ _ _ _ (by simp)).trans (k 3)))))
 ·exact L0d _ _ _ ((L0a _ _ _ _ (by simp)).trans ((L0a _ _ _ _ (by simp)).trans ((L0a _ _ _ _ (by simp)).trans ((L0a _ _ _ _ (by simp)).trans (k 4)))))
 ·exact (((bA.setCell (p := ⟨w.heap.size, 0, none⟩) (L0g _) _).setCell (p := ⟨w.heap.size, 1, none⟩) (L0g _) _).setCell (p := ⟨w.heap.size, 2, none⟩) (L0g _) _ |>.setCell (p := ⟨w.heap.size, 3, none⟩) (L0g _) _).setCell (p := ⟨w.heap.size, 4, none⟩) (L0g _) _
theorem X11 (w : World) : ∃ W0, w.alloc (.cells #[.bool false, .bool false, .int .i64 0, .slice none 0 0, .slice none 0 0, .slice none 0 0, .slice none 0 0] 41) = W0 /\ (W0.cell? ⟨w.heap.size, 0, none⟩ = some (.bool false) /\ W0.cell? ⟨w.heap.size, 1, none⟩ = some (.bool false) /\ W0.cell? ⟨w.heap.size, 2, none⟩ = some (.int .i64 0) /\ W0.cell? ⟨w.heap.size, 3, none⟩ = some (.slice none 0 0) /\ W0.cell? ⟨w.heap.size, 4, none⟩ = some (.slice none 0 0) /\ W0.cell? ⟨w.heap.size, 5, none⟩ = some (.slice none 0 0) /\ W0.cell? ⟨w.heap.size, 6, none⟩ = some (.slice none 0 0)) /\
  (∀ j, W0.frozen? ⟨w.heap.size, j, none⟩ = false) /\ Hid (Below w.heap.size w W0) := by
 have k : ∀ j, (w.alloc (.cells #[.bool false, .bool false, .int .i64 0, .slice none 0 0, .slice none 0 0, .slice none 0 0, .slice none 0 0] 41)).cell? ⟨w.heap.size, j, none⟩ = #[.bool false, .bool false, .int .i64 0, .slice none 0 0, .slice none 0 0, .slice none 0 0, .slice none 0 0][j]? := fun j => L0b _ _ _ _
 exact ⟨_, rfl, ⟨k 0, k 1, k 2, k 3, k 4, k 5, k 6⟩, fun j => by simp, L0 bA⟩
section
variable {N : Nat} {w w' : World} {q o : Nat}
theorem Spl.sl {A : Option Addr} {n c : Nat} (h : Spl N w w') (hc : w.cell? ⟨q, o, none⟩ = some (.slice A n c)) : w'.cell? ⟨q, o, none⟩ = some (.slice A n c) := by
 obtain ⟨u, h1, rfl⟩ := h.kd _ _ _ hc
 exact h1
end
theorem Y6k {n : Nat} {v W W' : World} {G : Option Addr} {l : List Txt} (h : Elems rStr v (Ft n v) G l) (hb : Below v.heap.size v W) (hg : W.grownBy W' (some v.heap.size)) : Elems rStr W' (Ft n W') G l := by
 have hk : Keeps (fun q => q < v.heap.size) v W' := Keeps.trans (.of_below hb) (.grown hg fun g hg h => by injection hg with hg; omega)
 exact (h.keep (w' := W') fun b _ hl => hk b hl hl).mono fun q hq _ => ⟨hq.1, hq.2.keep hk hq.2.lt⟩
theorem Z98 {C T : Nat -> Prop} {sb : Nat} {st : Sto} (w : World) (h : StoAt w sb C T st) :
  Calls Tryz.prog 12 #[.pointer (some ⟨sb, 0, none⟩)] w fun e w' => ∃ u, e = .returned u /\ Own (rTh rBk) 38 w' w.heap.size (fun _ => False) u st.states /\ Below w.heap.size w w' := by
 obtain ⟨v, h0, h1, _⟩ := h.row
 exact Y1b (S := fun q => q < w.heap.size) w h0 ((rSl rBk).mono (h1.self.rel (by decide)) fun q _ hl => hl) fun q hq => hq
theorem Z3p {C T : Nat -> Prop} {sb k : Nat} {st : Sto} {n : Int} (w : World) (hk : k < 4) (hn : (k : Int) = n) (h : StoAt w sb C T st) :
  Calls Tryz.prog 14 #[.pointer (some ⟨sb, 0, none⟩), .int .i64 n] w fun e w' => ∃ D dc B bc G gc Q qc, e = .returned (.agg #[.bool (st.ses k).opn, .bool (st.ses k).strict, .int .i64 (st.ses k).frm, .slice D (st.ses k).mine.doms.length dc, .slice B (st.ses k).mine.tabs.length bc, .slice G (st.ses k).gone.length gc, .slice Q (st.ses k).read.length qc]) /\
   (rTh rBk).rel w' (fun q => w.heap.size <= q) [.slice D (st.ses k).mine.doms.length dc, .slice B (st.ses k).mine.tabs.length bc] (st.ses k).mine /\ Elems rStr w' (Ft w.heap.size w') G (st.ses k).gone /\ Elems rStr w' (Ft w.heap.size w') Q (st.ses k).read /\ (st.ses k).gone.length <= 8796093022208 /\ (st.ses k).read.length <= 8796093022208 /\ Below w.heap.size w w' := by
 subst hn
 obtain ⟨xs, hr, hc⟩ := h.ses k hk
 refine (Z9c w hk hr hc h.tw).mono ?_
 rintro e w' ⟨ys, rfl, hr, hb⟩
 obtain ⟨D, dc, B, bc, G, gc, Q, qc, rfl, _, h1, h2, h3⟩ := Z8s (S := Ft w.heap.size w') hr
 obtain ⟨_, _, e2, _, _, hb2, hE2⟩ := rSl.elems h2
 obtain ⟨_, _, e3, _, _, hb3, hE3⟩ := rSl.elems h3
 injection e2 with e2 _ _
 injection e3 with e3 _ _
 subst e2 e3
 exact ⟨D, dc, B, bc, G, gc, Q, qc, rfl, h1, hE2, hE3, by simp only [rStr] at hb2; omega, by simp only [rStr] at hb3; omega, hb⟩
section
variable {α : Type} {R : Rd α} {e : TypeId} {w : World} {S T : Nat -> Prop} {v : Value} {xs : List α} {base : Nat}
theorem Own.grow (h : Own (rTh R) e w base (fun _ => False) v xs) : OwnS (rTh R) e w base (fun q => base <= q /\ q < w.heap.size /\ v.ownBlock ≠ some q) v xs := by
 obtain ⟨S, ⟨cells, h1, h2, h3, h4⟩, h5⟩ := h
 exact ⟨cells, h1, fun g hg h => h.2.2 hg, h3, fun i x hx => (rTh R).mono (h4 i x hx) fun q hq hl => ⟨(h5 q hq).resolve_left id, hl, fun hg => h2 q hg hq⟩⟩
theorem OwnS.relTT (h : OwnS (rTh R) e w base S v xs) (hk : 0 < R.k) (hT : ∀ g, base <= g -> T g) (hS : ∀ q, S q -> T q) : (rTh (rSl R)).rel w T [v] xs := by
 obtain ⟨cells, h1, h2, h3, h4⟩ := h
 exact OwnS.relT (R := R) (S := fun q => S q /\ ThB w q) ⟨cells, h1, fun g hg h => h2 g hg h.1, h3, h4⟩ hk hT fun q hq _ => ⟨hS q hq.1, hq.2⟩
end
theorem Y7m {w : World} {T : Nat -> Prop} {D1 B1 D2 B2 : Option Addr} {n1 c1 m1 d1 n2 c2 m2 d2 : Nat} {b1 b2 : Bk} (h1 : (rTh rBk).rel w T [.slice D1 n1 c1, .slice B1 m1 d1] b1) (h2 : (rTh rBk).rel w T [.slice D2 n2 c2, .slice B2 m2 d2] b2) {S : Nat -> Prop} (hS : ∀ q, T q -> q < w.heap.size -> S q) (hn : S w.heap.size) :
  Elems (rTh rBk) (w.alloc (.cells #[.slice D1 n1 c1, .slice B1 m1 d1, .slice D2 n2 c2, .slice B2 m2 d2] 38)) S (some ⟨w.heap.size, 0, none⟩) [b1, b2] := by
 have hb : Below w.heap.size w (w.alloc (.cells #[.slice D1 n1 c1, .slice B1 m1 d1, .slice D2 n2 c2, .slice B2 m2 d2] 38)) := (L0m _ _).alloc (L0g _) _
 have k : ∀ j, (w.alloc (.cells #[.slice D1 n1 c1, .slice B1 m1 d1, .slice D2 n2 c2, .slice B2 m2 d2] 38)).cell? ⟨w.heap.size, j, none⟩ = #[.slice D1 n1 c1, .slice B1 m1 d1, .slice D2 n2 c2, .slice B2 m2 d2][j]? := fun j => L0b _ _ _ _
 intro i x hx
 match i, hx with
 | 0, hx =>
  obtain rfl := L0r hx
  refine ⟨w.heap.size, 0, _, rfl, hn, by simp, jA ((rTh rBk).mono h1 hS) hb, fun j u hu => ?_⟩
  match j, hu with
  | 0, hu => obtain rfl := L0r hu; exact k 0
  | 1, hu => obtain rfl := L0r hu; exact k 1
  | j + 2, hu => simp at hu
 | 1, hx =>
  obtain rfl := L0r hx
  refine ⟨w.heap.size, 0, _, rfl, hn, by simp, jA ((rTh rBk).mono h2 hS) hb, fun j u hu => ?_⟩
  match j, hu with
  | 0, hu => obtain rfl := L0r hu; exact k 2
  | 1, hu => obtain rfl := L0r hu; exact k 3
  | j + 2, hu => simp at hu
 | i + 2, hx => simp at hx
theorem OwnS.monoS {α : Type} {R : Rd α} {e : TypeId} {w : World} {S S' : Nat -> Prop} {v : Value} {xs : List α} {base : Nat} (h : OwnS R e w base S v xs) (hS : ∀ q, S q -> q < w.heap.size -> S' q) (hn : ∀ g, v.ownBlock = some g -> ¬ S' g) : OwnS R e w base S' v xs := by
 obtain ⟨cells, h1, _, h3, h4⟩ := h
 exact ⟨cells, h1, hn, h3, fun i x hx => R.mono (h4 i x hx) hS⟩
def MemS (w6 W9 : World) (A : Option Addr) (n c : Nat) : Nat -> Prop := fun q => w6.heap.size <= q /\ q < W9.heap.size /\ (Value.slice A n c).ownBlock ≠ some q
section
variable {w6 w7 w8 w9 W9 : World} {A : Option Addr} {c : Nat} {xs : List Bk}
theorem X0k (h : Own (rTh rBk) 38 w7 w6.heap.size (fun _ => False) (.slice A xs.length c) xs) (h8 : Below w7.heap.size w7 w8) (h9 : Below w8.heap.size w8 w9) (hW : Below w9.heap.size w9 W9) : OwnS (rTh rBk) 38 W9 w6.heap.size (MemS w6 W9 A xs.length c) (.slice A xs.length c) xs := by
 have z1 := h8.size
 have z2 := h9.size
 have z3 := hW.size
 exact (((h.grow.below h8).below h9).below hW).monoS (fun q hq _ => ⟨hq.1, by have := hq.2.1; omega, hq.2.2⟩) fun g hg hS => hS.2.2 hg
theorem Y6w {D1 B1 D2 B2 : Option Addr} {c1 d1 c2 d2 : Nat} {b1 b2 : Bk} (h : Own (rTh rBk) 38 w7 w6.heap.size (fun _ => False) (.slice A xs.length c) xs) (h7 : Below w6.heap.size w6 w7) (r8 : (rTh rBk).rel w8 (fun q => w7.heap.size <= q) [.slice D1 b1.doms.length c1, .slice B1 b1.tabs.length d1] b1) (h8 : Below w7.heap.size w7 w8)
  (r9 : (rTh rBk).rel w9 (fun q => w8.heap.size <= q) [.slice D2 b2.doms.length c2, .slice B2 b2.tabs.length d2] b2) (h9 : Below w8.heap.size w8 w9) (hW : W9 = w9.alloc (.cells #[.slice D1 b1.doms.length c1, .slice B1 b1.tabs.length d1, .slice D2 b2.doms.length c2, .slice B2 b2.tabs.length d2] 38)) :
  Elems (rTh rBk) W9 (MemS w6 W9 A xs.length c) (some ⟨w9.heap.size, 0, none⟩) [b1, b2] := by
 have z0 := h7.size
 have z1 := h8.size
 have z2 := h9.size
 have z3 : W9.heap.size = w9.heap.size + 1 := by rw [hW]; simp
 have hl := h.lt
 have key : ∀ q, w7.heap.size <= q -> q < W9.heap.size -> MemS w6 W9 A xs.length c q := fun q h1 h2 => ⟨by omega, h2, fun e => by have := (hl q e).2; omega⟩
 have h3 := Y7m (jA r8 h9) ((rTh rBk).mono r9 (S' := fun q => w7.heap.size <= q) fun q hq _ => by omega) (S := MemS w6 W9 A xs.length c) (fun q h1 h2 => key q h1 (by omega)) (key _ (by omega) (by omega))
 rw [<- hW] at h3
 exact h3
theorem Y6v (h : xs.length <= 40) : (xs.length + 2) * (rTh rBk).bytes <= 140737488355328 := by
 show (xs.length + 2) * 48 <= _
 omega
theorem Y8o {X0 : World} {v : Value} {L : List Bk} {S : Nat -> Prop} (h : OwnS (rTh rBk) 38 X0 w6.heap.size S v L) (hS : ∀ q, S q -> w6.heap.size <= q) : (rTh (rSl rBk)).rel X0 (fun q => w6.heap.size <= q) [v] L := h.relTT (by decide) (fun _ hg => hg) hS
end
theorem Y6u (w : World) (X : Nat) (a0 a1 a2 a3 a4 r0 r1 r2 r3 r4 x : Value) (hx : w.cell? ⟨X, 0, none⟩ = some x) : ∃ W, (w.alloc (.cells #[a0, a1, a2, a3, a4] 24)).alloc (.cells #[r0, r1, r2, r3, r4] 30) = W /\ Hid (Below w.heap.size w W) /\ Hid (W.heap.size = w.heap.size + 2) /\ W.cell? ⟨X, 0, none⟩ = some x /\ W.cell? ⟨w.heap.size, 0, none⟩ = some a0 /\ W.cell? ⟨w.heap.size, 1, none⟩ = some a1 /\ W.cell? ⟨w.heap.size, 2, none⟩ = some a2 /\ W.cell? ⟨w.heap.size, 3, none⟩ = some a3 /\ W.cell? ⟨w.heap.size, 4, none⟩ = some a4 /\ W.cell? ⟨w.heap.size + 1, 0, none⟩ = some r0 /\ W.cell? ⟨w.heap.size + 1, 1, none⟩ = some r1 /\ W.cell? ⟨w.heap.size + 1, 2, none⟩ = some r2 /\ W.cell? ⟨w.heap.size + 1, 3, none⟩ = some r3 /\ W.cell? ⟨w.heap.size + 1, 4, none⟩ = some r4 := by
 obtain ⟨w1, e1⟩ : ∃ w1, w.alloc (.cells #[a0, a1, a2, a3, a4] 24) = w1 := ⟨_, rfl⟩
 obtain ⟨w2, e2⟩ : ∃ w2, w1.alloc (.cells #[r0, r1, r2, r3, r4] 30) = w2 := ⟨_, rfl⟩
 have z1 : w1.heap.size = w.heap.size + 1 := by rw [<- e1]; simp
 have z2 : w2.heap.size = w.heap.size + 2 := by rw [<- e2]; simp [z1]
 have k1 : ∀ j, w1.cell? ⟨w.heap.size, j, none⟩ = #[a0, a1, a2, a3, a4][j]? := fun j => by rw [<- e1]; exact L0b _ _ _ _
 have k2 : ∀ j, w2.cell? ⟨w1.heap.size, j, none⟩ = #[r0, r1, r2, r3, r4][j]? := fun j => by rw [<- e2]; exact L0b _ _ _ _
 have b1 : Below w.heap.size w w1 := e1 ▸ (L0m _ _).alloc (L0g _) _
 have b2 : Below w1.heap.size w1 w2 := e2 ▸ (L0m _ _).alloc (L0g _) _
 have hb : Below w.heap.size w w2 := b1.trans (b2.mono (by omega))
 have q1 : ∀ j, w2.cell? ⟨w.heap.size, j, none⟩ = #[a0, a1, a2, a3, a4][j]? := fun j => (b2.cell (p := ⟨w.heap.size, j, none⟩) (by show w.heap.size < _; omega)).trans (k1 j)
 rw [e1, e2]
 rw [z1] at k2
 exact ⟨w2, rfl, L0 hb, L0 z2, (hb.ce 0 (L0f _ _ hx)).trans hx, q1 0, q1 1, q1 2, q1 3, q1 4, k2 0, k2 1, k2 2, k2 3, k2 4⟩
theorem Y7x {C T D U I J : Nat -> Prop} {w0 : World} {sb gb X : Nat} {st s1 : Sto} {a : Acn} {r1 : Rep} {Ia Ra Rb : Option Addr} {ic rc rd : Nat} (w : World) (h : At2 w0 w sb C T s1 gb D U st) (hd : doS st a = (r1, s1)) (hw : LibW w0) (hp : PolW w0)
  (hX : w.cell? ⟨X, 0, none⟩ = some (.pointer (some ⟨gb, 0, none⟩))) (hXD : ¬ D X) (ha : rAcn.rel w I [.int .i64 a.kind, .int .i64 a.n, .string ⟨a.name.toArray⟩, .string ⟨a.text.toArray⟩, .slice Ia a.inp.length ic] a) (hI : ∀ q, I q -> q < w.heap.size /\ ¬ D q) (hr : rRep.rel w J [.int .i64 r1.code, .int .i64 r1.n, .string ⟨r1.text.toArray⟩, .slice Ra r1.ans.length rc, .slice Rb r1.at'.length rd] r1) (hJ : ∀ q, J q -> q < w.heap.size /\ ¬ D q) :
  Calls Tryz.prog 27 #[.pointer (some ⟨sb, 0, none⟩), .agg #[.int .i64 a.kind, .int .i64 a.n, .string ⟨a.name.toArray⟩, .string ⟨a.text.toArray⟩, .slice Ia a.inp.length ic], .agg #[.int .i64 r1.code, .int .i64 r1.n, .string ⟨r1.text.toArray⟩, .slice Ra r1.ans.length rc, .slice Rb r1.at'.length rd], .pointer (some ⟨X, 0, none⟩)] w fun e w' => ∃ D' U' : Nat -> Prop, e = .returned (.bool true) /\ At2 w0 w' sb C T s1 gb D' U' s1 /\ w'.cell? ⟨X, 0, none⟩ = some (.pointer (some ⟨gb, 0, none⟩)) /\ ∀ q, D' q -> D q \/ w.heap.size <= q := by
 obtain ⟨W1, e1, HB1, HZ1, x0, p0, p1, p2, p3, p4, q0, q1, q2, q3, q4⟩ := Y6u w X (.int .i64 a.kind) (.int .i64 a.n) (.string ⟨a.name.toArray⟩) (.string ⟨a.text.toArray⟩) (.slice Ia a.inp.length ic) (.int .i64 r1.code) (.int .i64 r1.n) (.string ⟨r1.text.toArray⟩) (.slice Ra r1.ans.length rc) (.slice Rb r1.at'.length rd) (.pointer (some ⟨gb, 0, none⟩)) hX
 have HDX : Hid (∀ q, q = X \/ q = w.heap.size \/ q = w.heap.size + 1 -> ¬ D q) := L0 fun q hq hD => by
  have := h.g.sto.cw q hD
  rcases hq with rfl | rfl | rfl
  ·exact hXD hD
  ·omega
  ·omega
 have HKP : Hid (∀ W', Keeps (fun q => q = X \/ q = w.heap.size \/ q = w.heap.size + 1) W1 W' -> W'.cell? ⟨X, 0, none⟩ = some (.pointer (some ⟨gb, 0, none⟩)) /\ W'.cell? ⟨w.heap.size, 0, none⟩ = some (.int .i64 a.kind) /\ W'.cell? ⟨w.heap.size, 1, none⟩ = some (.int .i64 a.n) /\ W'.cell? ⟨w.heap.size, 2, none⟩ = some (.string ⟨a.name.toArray⟩) /\ W'.cell? ⟨w.heap.size, 3, none⟩ = some (.string ⟨a.text.toArray⟩) /\ W'.cell? ⟨w.heap.size, 4, none⟩ = some (.slice Ia a.inp.length ic) /\ W'.cell? ⟨w.heap.size + 1, 0, none⟩ = some (.int .i64 r1.code) /\ W'.cell? ⟨w.heap.size + 1, 1, none⟩ = some (.int .i64 r1.n) /\ W'.cell? ⟨w.heap.size + 1, 2, none⟩ = some (.string ⟨r1.text.toArray⟩) /\ W'.cell? ⟨w.heap.size + 1, 3, none⟩ = some (.slice Ra r1.ans.length rc) /\ W'.cell? ⟨w.heap.size + 1, 4, none⟩ = some (.slice Rb r1.at'.length rd)) := L0 fun W' hk => ⟨hk.cell (a := ⟨X, 0, none⟩) (.inl rfl) x0, hk.cell (a := ⟨w.heap.size, 0, none⟩) (.inr (.inl rfl)) p0, hk.cell (a := ⟨w.heap.size, 1, none⟩) (.inr (.inl rfl)) p1, hk.cell (a := ⟨w.heap.size, 2, none⟩) (.inr (.inl rfl)) p2, hk.cell (a := ⟨w.heap.size, 3, none⟩) (.inr (.inl rfl)) p3, hk.cell (a := ⟨w.heap.size, 4, none⟩) (.inr (.inl rfl)) p4, hk.cell (a := ⟨w.heap.size + 1, 0, none⟩) (.inr (.inr rfl)) q0, hk.cell (a := ⟨w.heap.size + 1, 1, none⟩) (.inr (.inr rfl)) q1, hk.cell (a := ⟨w.heap.size + 1, 2, none⟩) (.inr (.inr rfl)) q2, hk.cell (a := ⟨w.heap.size + 1, 3, none⟩) (.inr (.inr rfl)) q3, hk.cell (a := ⟨w.heap.size + 1, 4, none⟩) (.inr (.inr rfl)) q4⟩
 have HLB : Hid (∀ w', Below w0.heap.size w0 w' -> LibW w' /\ PolW w') := L0 fun w' hb => ⟨hw.below hb, hp.below hb⟩
 have HRA : Hid (rAcn.rel W1 I [.int .i64 a.kind, .int .i64 a.n, .string ⟨a.name.toArray⟩, .string ⟨a.text.toArray⟩, .slice Ia a.inp.length ic] a) := L0 (jA ha HB1.out)
 have HRR : Hid (rRep.rel W1 J [.int .i64 r1.code, .int .i64 r1.n, .string ⟨r1.text.toArray⟩, .slice Ra r1.ans.length rc, .slice Rb r1.at'.length rd] r1) := L0 (jA hr HB1.out)
 have HDO : Hid (∀ w2, Below W1.heap.size W1 w2 -> Calls Tryz.prog 11 #[.pointer (some ⟨gb, 0, none⟩), .agg #[.int .i64 a.kind, .int .i64 a.n, .string ⟨a.name.toArray⟩, .string ⟨a.text.toArray⟩, .slice Ia a.inp.length ic]] w2 fun e w' => ∃ A c B d D' U', e = .returned (.agg #[.int .i64 r1.code, .int .i64 r1.n, .string ⟨r1.text.toArray⟩, .slice A r1.ans.length c, .slice B r1.at'.length d]) /\ rRep.rel w' (fun q => q < w'.heap.size) [.int .i64 r1.code, .int .i64 r1.n, .string ⟨r1.text.toArray⟩, .slice A r1.ans.length c, .slice B r1.at'.length d] r1 /\ At2 w0 w' sb C T s1 gb D' U' s1 /\ Chg D W1 w' /\ ∀ q, D' q -> D q \/ w.heap.size <= q) := L0 fun w2 hb2 => by
  refine Calls.mono ((h.below (HB1.out.trans (hb2.mono HB1.out.size))).swap.act hd hw hp (jA HRA.out hb2) fun q hq => ⟨by have := (hI q hq).1; have := HB1.out.size; have := hb2.size; omega, (hI q hq).2⟩) ?_
  rintro e w' ⟨A, c, B, d, D', U', rfl, h1, h2, h3, h4⟩
  exact ⟨A, c, B, d, D', U', rfl, rRep.mono h1 fun q hq _ => hq.2.2, h2.swap, (Chg.below hb2).trans h3, fun q hq => (h4 q hq).imp id fun h5 => by have := HB1.out.size; have := hb2.size; omega⟩
 have HJR : Hid (∀ w2, Chg D W1 w2 -> rRep.rel w2 J [.int .i64 r1.code, .int .i64 r1.n, .string ⟨r1.text.toArray⟩, .slice Ra r1.ans.length rc, .slice Rb r1.at'.length rd] r1) := L0 fun w2 hc => rRep.keep HRR.out (hc.keeps fun q hq => (hJ q hq).2)
 have HKX : Hid (∀ w2, Chg D W1 w2 -> Keeps (fun q => q = X \/ q = w.heap.size \/ q = w.heap.size + 1) W1 w2) := L0 fun w2 hc => hc.keeps HDX.out
 clear h hd hw hp hX hXD ha hI hr hJ
 go_enter Tryz.func27, Tryz.ntmps27
 go_upto_region 1 with fail
 go_region_held3 (fun W' => W'.cell? ⟨X, 0, none⟩ = some (.pointer (some ⟨gb, 0, none⟩)) /\ W'.cell? ⟨w.heap.size, 0, none⟩ = some (.int .i64 a.kind) /\ W'.cell? ⟨w.heap.size, 1, none⟩ = some (.int .i64 a.n) /\ W'.cell? ⟨w.heap.size, 2, none⟩ = some (.string ⟨a.name.toArray⟩) /\ W'.cell? ⟨w.heap.size, 3, none⟩ = some (.string ⟨a.text.toArray⟩) /\ W'.cell? ⟨w.heap.size, 4, none⟩ = some (.slice Ia a.inp.length ic) /\ W'.cell? ⟨w.heap.size + 1, 0, none⟩ = some (.int .i64 r1.code) /\ W'.cell? ⟨w.heap.size + 1, 1, none⟩ = some (.int .i64 r1.n) /\ W'.cell? ⟨w.heap.size + 1, 2, none⟩ = some (.string ⟨r1.text.toArray⟩) /\ W'.cell? ⟨w.heap.size + 1, 3, none⟩ = some (.slice Ra r1.ans.length rc) /\ W'.cell? ⟨w.heap.size + 1, 4, none⟩ = some (.slice Rb r1.at'.length rd)) (go_keep) (first
  | (go_at_call 11; ((with_reducible refine (HDO.out _ (by first | exact L0m _ _ | exact ⟨rfl, rfl, rfl, L0g _, fun _ _ => rfl⟩)).mono ?_); rintro e w5 ⟨A5, c5, B5, d5, D2, U2, rfl, hr5, h5, hc5, hd5⟩; have HR5 := L0 hr5; have H5 := L0 h5; have HC5 := L0 hc5; have HD5 := L0 hd5; obtain ⟨x0a, p0a, p1a, p2a, p3a, p4a, q0a, q1a, q2a, q3a, q4a⟩ := HKP.out w5 (HKX.out w5 hc5); clear hr5 h5 hc5 hd5))
  | (go_at_call 28; ((refine Calls.mono (Y2h r1 w5 HR5.out (HJR.out w5 HC5.out)) ?_); rintro e w6 ⟨rfl, hb6⟩; have H6 := L0 (H5.out.below hb6); obtain ⟨x0b, p0b, p1b, p2b, p3b, p4b, q0b, q1b, q2b, q3b, q4b⟩ := HKP.out w6 ((HKX.out w5 HC5.out).trans (.of_below hb6)); clear hb6)))
 all_goals
  clear x0 p0 p1 p2 p3 p4 q0 q1 q2 q3 q4 x0a p0a p1a p2a p3a p4a q0a q1a q2a q3a q4a p0b p1b p2b p3b p4b q0b q1b q2b q3b q4b e1
  have HX6 := L0 x0b
  clear x0b
  have HS3 := L0 (fun (w7 : World) (hb : Below w6.heap.size w6 w7) => Z98 w7 (H6.out.s.below hb).sto)
  have HE0 := L0 (fun (w7 : World) (hb : Below w6.heap.size w6 w7) => Z3p (k := 0) (n := 0) w7 (by decide) rfl (H6.out.s.below hb).sto)
  have HE1 := L0 (fun (w7 : World) (hb : Below w6.heap.size w6 w7) => Z3p (k := 1) (n := 1) w7 (by decide) rfl (H6.out.s.below hb).sto)
  have hsl : s1.states.length <= 40 := H6.out.s.ok.le
  go_upto_region 4 with (first
   | (go_at_call 12; (with_reducible refine (HS3.out w6 (L0m _ _)).mono ?_); rintro e w7 ⟨u7, rfl, ho7, hb7⟩; obtain ⟨A7, c7, rfl⟩ := ho7.value; have HO7 := L0 ho7; have HB7 := L0 hb7; clear ho7 hb7)
   | (go_at_call 14; ((with_reducible refine (HE0.out w7 HB7.out).mono ?_); rintro e w8 ⟨D8, d8, B8, b8, G8, g8, Q8, q8, rfl, hr8, _, _, _, _, hb8⟩; have HR8 := L0 hr8; have HB8 := L0 hb8; have HW8 := L0 (HB7.out.trans (hb8.mono HB7.out.size)); clear hr8 hb8))
   | (go_at_call 14; ((with_reducible refine (HE1.out w8 HW8.out).mono ?_); rintro e w9 ⟨D9, d9, B9, b9, G9, g9, Q9, q9, rfl, hr9, _, _, _, _, hb9⟩; have HR9 := L0 hr9; have HB9 := L0 hb9; have HW9 := L0 (HW8.out.trans (hb9.mono HW8.out.size)); clear hr9 hb9))
   | (refine Z12 (by rfl) (.tmp 29) 41 3 rfl rfl (Y6f _ _ _ _ _ _ _ _) ?_)
   | (refine Z12 (by rfl) (.tmp 32) 41 3 rfl rfl (Y6f _ _ _ _ _ _ _ _) ?_)
   | (refine Z7h Tryz.underlying32 X0i rfl (.tmp 30) (.tmp 33) rfl _ _ _ _ rfl rfl _ rfl ?_; obtain ⟨W9, e9, HB9w, HN9, HZ9⟩ : ∃ W9, w9.alloc (.cells #[.slice D8 (s1.ses 0).mine.doms.length d8, .slice B8 (s1.ses 0).mine.tabs.length b8, .slice D9 (s1.ses 1).mine.doms.length d9, .slice B9 (s1.ses 1).mine.tabs.length b9] 38) = W9 /\ Hid (Below w9.heap.size w9 W9) /\ Hid (W9 = w9.alloc (.cells #[.slice D8 (s1.ses 0).mine.doms.length d8, .slice B8 (s1.ses 0).mine.tabs.length b8, .slice D9 (s1.ses 1).mine.doms.length d9, .slice B9 (s1.ses 1).mine.tabs.length b9] 38)) /\ Hid (W9.heap.size = w9.heap.size + 1) := ⟨_, rfl, L0 bA, L0 rfl, L0 (by simp)⟩; rw [e9])
   | (at_builtin; refine Z0r (R := rTh rBk) (S := MemS w6 W9 A7 s1.states.length c7) (ys := [(s1.ses 0).mine, (s1.ses 1).mine]) (elT Y6d) rfl (.tmp 27) (.tmp 34) rfl rfl (by exact X0k HO7.out HB8.out HB9.out HB9w.out) (A := some ⟨w9.heap.size, 0, none⟩) (m := 2) (c := 2) rfl rfl (by exact Y6w HO7.out HB7.out HR8.out HB8.out HR9.out HB9.out HN9.out) (by exact fun q hq => hq.2.1) (by exact Y6v hsl) (by exact L0h HW9.out.size HB9w.out.size) ?_; intro v10 X0 ho10 hb10 hg10 hv10; obtain ⟨AL, cL, hvL⟩ := ho10.self.value; obtain ⟨L, hL⟩ : ∃ L, s1.states ++ [(s1.ses 0).mine, (s1.ses 1).mine] = L := ⟨_, rfl⟩; have HLN : Hid (L.length <= 42) := L0 (by rw [<- hL]; simp; omega); rw [hL] at hvL ho10; have HL := L0 (Y8o ho10 fun q hq => hq.1); have HBX := L0 hb10; subst hvL; clear ho10 hb10 hg10 hv10 hL))
  have hLn := HLN.out
  have HE : Hid (Elems rBk X0 (Ft w6.heap.size X0) AL L) := L0 (by
   obtain ⟨A0, c0, e0, _, _, _, hE⟩ := rSl.elems HL.out
   injection e0 with e0 _ _
   subst e0
   exact hE)
  have HBW : Hid (Below w6.heap.size w6 X0) := L0 (((HW9.out.trans (HB9w.out.mono HW9.out.size))).trans HBX.out)
  clear HO7 HL HBX HR8 HR9 HN9 HZ9 HB7 HB8 HB9 HB9w HW8 HW9 hsl
  go_loopw [37] (fun i wr => ∃ k : Nat, i = .int .i64 k /\ k <= L.length /\ Hid (Spl w6.heap.size X0 wr)) (fun i _ => L.length - (intOf i).toNat)
  case atStart => exact ⟨0, rfl, L0n _, L0 (Spl.refl _ _)⟩
  case round =>
   obtain ⟨k, rfl, hk, HS1⟩ := hrel
   obtain ⟨v1, hv⟩ : ∃ x, x = wr := ⟨_, rfl⟩
   subst hv
   by_cases hlk : k < L.length
   ·have hik : (k : Int) < (L.length : Int) := by omega
    have hzk : (0 : Int) <= (k : Int) := by omega
    have HZ1r : Hid (w6.heap.size <= v1.heap.size) := L0 (L0h HBW.out.size HS1.out.bl.size)
    obtain ⟨q1, o1, Da, da, Ba, ba, ds, ts, rfl, g0, g1, hdE, htE, hdl, htl⟩ := HS1.out.bk HE.out hlk
    obtain ⟨W2, W3, e2, e3, z0, z1, f0, f1, b0, b1, HBb⟩ := X1y v1 (.slice Da ds.length da) (.slice Ba ts.length ba)
    have HD := L0 hdE
    have HT := L0 htE
    have HX3 : Hid (Spl w6.heap.size X0 W3) := L0 (HS1.out.trans (.of_below HBb.out HZ1r.out))
    clear hdE htE
    go_upto_region 7 with fail
    clear e2 e3 z0 z1 f0 f1 g0 g1
    go_loopw [44] (fun i wr => ∃ j : Nat, i = .int .i64 j /\ j <= ds.length /\ Hid (Spl w6.heap.size W3 wr)) (fun i _ => ds.length - (intOf i).toNat)
    case atStart => exact ⟨0, rfl, L0n _, L0 (Spl.refl _ _)⟩
    case round =>
     obtain ⟨j, rfl, hj, HS2⟩ := hrel
     replace b0 := HS2.out.sl b0
     replace b1 := HS2.out.sl b1
     by_cases hlj : j < ds.length
     ·have hij : (j : Int) < (ds.length : Int) := by omega
      have hzj : (0 : Int) <= (j : Int) := by omega
      obtain ⟨q2, o2, s2, rfl, hq2, g0, f0⟩ := (HX3.out.trans HS2.out).dm HD.out hlj
      go_wp2
      go_roundw
      case rel => exact ⟨j + 1, by go_num, hlj, L0 (HS2.out.set g0 hq2 ⟨_, rfl⟩)⟩
      case measure => simp [intOf]; omega
     ·have hij : ¬ (j : Int) < (ds.length : Int) := by omega
      go_upto_region 12 with fail
      go_loopw [56] (fun i wr => ∃ m : Nat, i = .int .i64 m /\ m <= ts.length /\ Hid (Spl w6.heap.size W3 wr)) (fun i _ => ts.length - (intOf i).toNat)
      case atStart => exact ⟨0, rfl, L0n _, HS2⟩
      case round =>
       clear HS2
       obtain ⟨m, rfl, hm, HS3⟩ := hrel
       obtain ⟨v3, hv⟩ : ∃ x, x = wr := ⟨_, rfl⟩
       subst hv
       by_cases hlm : m < ts.length
       ·have him : (m : Int) < (ts.length : Int) := by omega
        have hzm : (0 : Int) <= (m : Int) := by omega
        have HZ3 : Hid (w6.heap.size <= v3.heap.size) := L0 (L0h (L0h HBW.out.size HX3.out.bl.size) HS3.out.bl.size)
        obtain ⟨q3, o3, s3, x3, y3, Ia3, ia3, Ra3, ra3, ins, rls, rfl, g0, g1, g2, g3, g4, hiE, hrE, hil, hrl⟩ := (HX3.out.trans HS3.out).tb HT.out hlm
        obtain ⟨W4, W5, e4, e5, ⟨z0, z1, z2, z3, z4⟩, ⟨f0, f1, f2, f3, f4⟩, t3, t4, HBt⟩ := X10 v3 (.string s3) (.int .i64 x3) (.bool y3) (.slice Ia3 ins.length ia3) (.slice Ra3 rls.length ra3)
        have HI := L0 hiE
        have HR := L0 hrE
        have HX5 : Hid (Spl w6.heap.size X0 W5) := L0 ((HX3.out.trans HS3.out).trans (.of_below HBt.out HZ3.out))
        have HS35 : Hid (Spl w6.heap.size W3 W5) := L0 (HS3.out.trans (.of_below HBt.out HZ3.out))
        have HT4 : Hid (∀ w', Spl w6.heap.size W5 w' -> w'.cell? ⟨v3.heap.size, 4, none⟩ = some (.slice Ra3 rls.length ra3)) := L0 fun w' h => h.sl t4
        clear hiE hrE
        go_upto_region 15 with fail
        clear e4 e5 z0 z1 z2 z3 z4 f0 f1 f2 f3 f4 g0 g1 g2 g3 g4 b0 b1
        go_loopw [63] (fun i wr => ∃ n : Nat, i = .int .i64 n /\ n <= ins.length /\ Hid (Spl w6.heap.size W5 wr)) (fun i _ => ins.length - (intOf i).toNat)
        case atStart => exact ⟨0, rfl, L0n _, L0 (Spl.refl _ _)⟩
        case round =>
         obtain ⟨n, rfl, hn, HS4⟩ := hrel
         replace t3 := HS4.out.sl t3
         replace t4 := HS4.out.sl t4
         by_cases hln : n < ins.length
         ·have hin : (n : Int) < (ins.length : Int) := by omega
          have hzn : (0 : Int) <= (n : Int) := by omega
          obtain ⟨q4, o4, s4, rfl, hq4, g0, f0⟩ := (HX5.out.trans HS4.out).str HI.out hln
          go_wp2
          go_roundw
          case rel => exact ⟨n + 1, by go_num, hln, L0 (HS4.out.set g0 hq4 ⟨_, rfl⟩)⟩
          case measure => simp [intOf]; omega
         ·have hin : ¬ (n : Int) < (ins.length : Int) := by omega
          go_upto_region 20 with fail
          clear t3 t4
          go_loopw [74] (fun i wr => ∃ r : Nat, i = .int .i64 r /\ r <= rls.length /\ Hid (Spl w6.heap.size W5 wr)) (fun i _ => rls.length - (intOf i).toNat)
          case atStart => exact ⟨0, rfl, L0n _, HS4⟩
          case round =>
           obtain ⟨r, rfl, hr, HS5⟩ := hrel
           obtain ⟨W6, hv⟩ : ∃ x, x = wr := ⟨_, rfl⟩
           subst hv
           have t4 := HT4.out W6 HS5.out
           by_cases hlr : r < rls.length
           ·have hir : (r : Int) < (rls.length : Int) := by omega
            have hzr : (0 : Int) <= (r : Int) := by omega
            obtain ⟨q5, o5, x5, Ca, ca, cs, rfl, hq5, c0, c1, th5, hcE, hcl⟩ := (HX5.out.trans HS5.out).rl HR.out hlr
            have HC := L0 hcE
            have HX6r : Hid (Spl w6.heap.size X0 W6) := L0 (HX5.out.trans HS5.out)
            have HTH5 := L0 th5
            have HC1 := L0 c1
            have HK6 : Hid (∀ w', Spl w6.heap.size W6 w' -> w'.cell? ⟨v3.heap.size, 4, none⟩ = some (.slice (some ⟨q5, o5, none⟩) rls.length ra3) /\ w'.cell? ⟨q5, o5 + r * 2, none⟩ = some (.slice Ca cs.length ca)) := L0 fun w' h => ⟨h.sl t4, h.sl c0⟩
            clear hcE th5
            go_upto_region 23 with fail
            clear c0 c1 t4
            go_loopw [84] (fun i wr => ∃ c : Nat, i = .int .i64 c /\ c <= cs.length /\ Hid (Spl w6.heap.size W6 wr)) (fun i _ => cs.length - (intOf i).toNat)
            case atStart => exact ⟨0, rfl, L0n _, L0 (Spl.refl _ _)⟩
            case round =>
             obtain ⟨c, rfl, hc, HS6⟩ := hrel
             obtain ⟨W7, hv⟩ : ∃ x, x = wr := ⟨_, rfl⟩
             subst hv
             obtain ⟨t4, c0⟩ := HK6.out W7 HS6.out
             by_cases hlc : c < cs.length
             ·have hic : (c : Int) < (cs.length : Int) := by omega
              have hzc : (0 : Int) <= (c : Int) := by omega
              obtain ⟨q6, o6, y6, Ga, ga, rgs, rfl, hq6, d0, th6, d1, hgE, hgl⟩ := (HX6r.out.trans HS6.out).cl HC.out hlc
              have HG := L0 hgE
              have HTH6 := L0 th6
              have HD0 := L0 d0
              have HX7 : Hid (Spl w6.heap.size X0 W7) := L0 (HX6r.out.trans HS6.out)
              have HK7 : Hid (∀ w', Spl w6.heap.size W7 w' -> w'.cell? ⟨v3.heap.size, 4, none⟩ = some (.slice (some ⟨q5, o5, none⟩) rls.length ra3) /\ w'.cell? ⟨q5, o5 + r * 2, none⟩ = some (.slice (some ⟨q6, o6, none⟩) cs.length ca) /\ w'.cell? ⟨q6, o6 + c * 2 + 1, none⟩ = some (.slice Ga rgs.length ga)) := L0 fun w' h => ⟨h.sl t4, h.sl c0, h.sl d1⟩
              clear hgE th6 d0
              go_upto_region 26 with fail
              clear c0 t4 d1
              go_loopw [98] (fun i wr => ∃ g : Nat, i = .int .i64 g /\ g <= rgs.length /\ Hid (Spl w6.heap.size W7 wr)) (fun i _ => rgs.length - (intOf i).toNat)
              case atStart => exact ⟨0, rfl, L0n _, L0 (Spl.refl _ _)⟩
              case round =>
               obtain ⟨g, rfl, hg, HS7⟩ := hrel
               obtain ⟨t4, c0, d1⟩ := HK7.out wr HS7.out
               by_cases hlg : g < rgs.length
               ·have hig : (g : Int) < (rgs.length : Int) := by omega
                have hzg : (0 : Int) <= (g : Int) := by omega
                obtain ⟨q7, o7, x7, rfl, hq7, g0, f0⟩ := (HX7.out.trans HS7.out).rg HG.out hlg
                go_wp2
                go_roundw
                case rel => exact ⟨g + 1, by go_num, hlg, L0 (HS7.out.set g0 hq7 ⟨_, rfl⟩)⟩
                case measure => simp [intOf]; omega
               ·have hig : ¬ (g : Int) < (rgs.length : Int) := by omega
                obtain ⟨_, d0, y7, rfl⟩ := HS7.out.kd _ _ _ HD0.out
                have f0 := (HS7.out.th _ HTH6.out).frz (o6 + c * 2)
                go_wp2
                go_roundw
                case rel => exact ⟨c + 1, by go_num, hlc, L0 ((HS6.out.trans HS7.out).set d0 hq6 ⟨_, rfl⟩)⟩
                case measure => simp [intOf]; omega
             ·have hic : ¬ (c : Int) < (cs.length : Int) := by omega
              obtain ⟨_, c1, y5, rfl⟩ := HS6.out.kd _ _ _ HC1.out
              have f1 := (HS6.out.th _ HTH5.out).frz (o5 + r * 2 + 1)
              go_wp2
              go_roundw
              case rel => exact ⟨r + 1, by go_num, hlr, L0 ((HS5.out.trans HS6.out).set c1 hq5 ⟨_, rfl⟩)⟩
              case measure => simp [intOf]; omega
           ·have hir : ¬ (r : Int) < (rls.length : Int) := by omega
            go_wp2
            go_roundw
            case rel => exact ⟨m + 1, by go_num, hlm, L0 (HS35.out.trans HS5.out)⟩
            case measure => simp [intOf]; omega
       ·have him : ¬ (m : Int) < (ts.length : Int) := by omega
        go_wp2
        go_roundw
        case rel => exact ⟨k + 1, by go_num, hlk, L0 (HX3.out.trans HS3.out)⟩
        case measure => simp [intOf]; omega
   ·have hik : ¬ (k : Int) < (L.length : Int) := by omega
    have HB10 : Hid (Below w6.heap.size w6 v1) := L0 (HBW.out.trans HS1.out.bl)
    have HZ10 : Hid (w6.heap.size <= v1.heap.size) := L0 HB10.out.size
    clear HE HS1
    have HSE := L0 (Z3p (k := 0) (n := 0) v1 (by decide) rfl (H6.out.s.below HB10.out).sto)
    go_upto_region 37 with (first | (go_at_call 14; (with_reducible refine HSE.out.mono ?_); rintro e v2 ⟨D8, d8, B8, b8, G8, g8, Q8, q8, rfl, _, hgE, hqE, hgl, hql, hb2⟩; have HG := L0 hgE; have HQ := L0 hqE; have HB2 := L0 hb2; obtain ⟨W2, e2, ⟨c0, c1, c2, c3, c4, c5, c6⟩, hfz, HBs⟩ := X11 v2; have f0 := hfz 0; have f1 := hfz 1; have f2 := hfz 2; have f3 := hfz 3; have f4 := hfz 4; have f5 := hfz 5; have f6 := hfz 6; obtain ⟨W3, e3, hg3, n0, n1, n2, n3, n4, n5, n6⟩ := Y9l (.bool (s1.ses 0).opn) (.bool (s1.ses 0).strict) (.int .i64 (s1.ses 0).frm) (.slice D8 (s1.ses 0).mine.doms.length d8) (.slice B8 (s1.ses 0).mine.tabs.length b8) (.slice G8 (s1.ses 0).gone.length g8) (.slice Q8 (s1.ses 0).read.length q8) c0 c1 c2 c3 c4 c5 c6; have HG3 := L0 hg3; clear hgE hqE hb2 hfz hg3))
    have HBv : Hid (Below v1.heap.size v1 W3) := L0 ((HB2.out.trans (HBs.out.mono HB2.out.size)).grown HG3.out (L0h HB2.out.size HBs.out.size) fun z hz => by injection hz with hz; have := HB2.out.size; omega)
    have HGE : Hid (Elems rStr W3 (Ft v1.heap.size W3) G8 (s1.ses 0).gone /\ Elems rStr W3 (Ft v1.heap.size W3) Q8 (s1.ses 0).read) := L0 ⟨Y6k HG.out HBs.out HG3.out, Y6k HQ.out HBs.out HG3.out⟩
    have HN8 : Hid (∀ w', Spl v1.heap.size W3 w' -> w'.cell? ⟨v2.heap.size, 6, none⟩ = some (.slice Q8 (s1.ses 0).read.length q8)) := L0 fun w' h => h.sl n6
    go_upto_region 38 with fail
    clear e2 e3 c0 c1 c2 c3 c4 c5 c6 f0 f1 f2 f3 f4 f5 f6 n0 n1 n2 n3 n4
    go_loopw [138] (fun i wr => ∃ m : Nat, i = .int .i64 m /\ m <= (s1.ses 0).gone.length /\ Hid (Spl v1.heap.size W3 wr)) (fun i _ => (s1.ses 0).gone.length - (intOf i).toNat)
    case atStart => exact ⟨0, rfl, L0n _, L0 (Spl.refl _ _)⟩
    case round =>
     obtain ⟨m, rfl, hm, HS2⟩ := hrel
     replace n5 := HS2.out.sl n5
     clear n6
     by_cases hlm : m < (s1.ses 0).gone.length
     ·have him : (m : Int) < ((s1.ses 0).gone.length : Int) := by omega
      have hzm : (0 : Int) <= (m : Int) := by omega
      obtain ⟨q2, o2, x2, rfl, hq2, g0, f0⟩ := HS2.out.str HGE.out.1 hlm
      go_wp2
      go_roundw
      case rel => exact ⟨m + 1, by go_num, hlm, L0 (HS2.out.set g0 hq2 ⟨_, rfl⟩)⟩
      case measure => simp [intOf]; omega
     ·have him : ¬ (m : Int) < ((s1.ses 0).gone.length : Int) := by omega
      have n6 := HN8.out wr HS2.out
      clear n5
      go_upto_region 43 with fail
      go_loopw [149] (fun i wr => ∃ n : Nat, i = .int .i64 n /\ n <= (s1.ses 0).read.length /\ Hid (Spl v1.heap.size W3 wr)) (fun i _ => (s1.ses 0).read.length - (intOf i).toNat)
      case atStart => exact ⟨0, rfl, L0n _, HS2⟩
      case round =>
       clear HS2
       obtain ⟨n, rfl, hn, HS3⟩ := hrel
       replace n6 := HN8.out wr HS3.out
       by_cases hln : n < (s1.ses 0).read.length
       ·have hin : (n : Int) < ((s1.ses 0).read.length : Int) := by omega
        have hzn : (0 : Int) <= (n : Int) := by omega
        obtain ⟨q3, o3, x3, rfl, hq3, g0, f0⟩ := HS3.out.str HGE.out.2 hln
        go_wp2
        go_roundw
        case rel => exact ⟨n + 1, by go_num, hln, L0 (HS3.out.set g0 hq3 ⟨_, rfl⟩)⟩
        case measure => simp [intOf]; omega
       ·have hin : ¬ (n : Int) < ((s1.ses 0).read.length : Int) := by omega
        have HBF : Hid (Below w6.heap.size w6 wr) := L0 (HB10.out.trans ((HBv.out.trans HS3.out.bl).mono HZ10.out))
        have HA := L0 (H6.out.below HBF.out)
        have x0 := (HBF.out.ce 0 (L0f _ _ HX6.out)).trans HX6.out
        go_wp2_with (go_at_call 25; (with_reducible refine (X0s wr HA.out.s.sto HA.out.g.sto rfl (fun _ _ => rfl) (HLB.out wr HA.out.s.bl).1 (HLB.out wr HA.out.s.bl).2).mono ?_); rintro e w12 ⟨rfl, hb12⟩; have HB12 := L0 hb12; clear hb12)
        go_ret
        exact ⟨D2, U2, rfl, HA.out.below HB12.out, (HB12.out.ce 0 (L0f _ _ x0)).trans x0, HD5.out⟩
theorem X0m (w : World) (v : Value) : ∃ W0 W1, w.alloc (.cells #[.pointer none] 25) = W0 /\ W0.setCell ⟨w.heap.size, 0, none⟩ v = W1 /\ W0.cell? ⟨w.heap.size, 0, none⟩ = some (.pointer none) /\ W0.frozen? ⟨w.heap.size, 0, none⟩ = false /\ W1.cell? ⟨w.heap.size, 0, none⟩ = some v /\ Hid (Below w.heap.size w W1) := by
 have c0 : (w.alloc (.cells #[.pointer none] 25)).cell? ⟨w.heap.size, 0, none⟩ = some (.pointer none) := L0b _ _ _ _
 exact ⟨_, _, rfl, rfl, c0, by simp, L0d _ _ _ c0, L0 (bA.setCell (p := ⟨w.heap.size, 0, none⟩) (L0g _) _)⟩
theorem Y8x {S D U : Nat -> Prop} {lv : Value} {l : List Acn} {w0 : World} {gb X : Nat} (w : World) (hl : (rSl rAcn).rel w S [lv] l) (hS : ∀ q, S q -> q < w0.heap.size) (hg : At w0 w gb D U sto0) (hX : w.cell? ⟨X, 0, none⟩ = some (.pointer (some ⟨gb, 0, none⟩))) (hXD : ¬ D X) (hw : LibW w0) (hp : PolW w0) :
  Calls Tryz.prog 20 #[lv, .func (.func 27) #[] #[.pointer (some ⟨X, 0, none⟩)]] w fun e w' => ∃ sb, e = .returned (.tuple #[.pointer (some ⟨sb, 0, none⟩), .bool true]) /\ Below w0.heap.size w0 w' := by
 obtain ⟨A, c, rfl, _, _, hby, hE⟩ := rSl.elems hl
 have hln : l.length <= 1954687338432 := by simp only [rAcn] at hby; omega
 have HE := L0 hE
 have HS := L0 hS
 have HG := L0 hg
 have HX0 := L0 hX
 have HXD := L0 hXD
 have HAL := L0 (Y5y w (hw.below hg.bl) (hp.below hg.bl))
 have HNW := L0 fun w1 (hb : Below w.heap.size w w1) => At.new w1 ((hw.below hg.bl).below hb) ((hp.below hg.bl).below hb)
 have HLW := L0 hw
 have HPW := L0 hp
 clear hl hE hS hby hw hp hg hX hXD
 go_enter Tryz.func20, Tryz.ntmps20
 go_upto_region 5 with (first
  | (go_at_call 52; (with_reducible refine HAL.out.mono ?_); rintro e w1 ⟨rfl, hb1⟩; have HB1 := L0 hb1; clear hb1)
  | (go_at_call 26; (with_reducible refine (HNW.out w1 HB1.out).mono ?_); rintro e w2 ⟨sb, C, T, rfl, hA⟩; have HA := L0 hA; clear hA))
 have HI0 : Hid (At2 w0 w2 sb C T (Z6f l 0) gb D U (Z6f l 0)) := L0 (At2.start (HG.out.below HB1.out) HA.out).swap
 have HX2 : Hid (w2.cell? ⟨X, 0, none⟩ = some (.pointer (some ⟨gb, 0, none⟩)) /\ ¬ C X /\ ¬ D X) := L0 (by
  have hz := L0f _ _ HX0.out
  have hz1 : X < w1.heap.size := L0c hz HB1.out.size
  exact ⟨(HA.out.bl.ce 0 hz1).trans ((HB1.out.ce 0 hz).trans HX0.out), fun h => by have := HA.out.cn X h; omega, HXD.out⟩)
 go_loopw [7] (fun i wr => ∃ (k : Nat) (C T D U : Nat -> Prop), i = .int .i64 k /\ k <= l.length /\ k <= 50 /\ Hid (At2 w0 wr sb C T (Z6f l k) gb D U (Z6f l k)) /\ Hid (wr.cell? ⟨X, 0, none⟩ = some (.pointer (some ⟨gb, 0, none⟩)) /\ ¬ C X /\ ¬ D X)) (fun i _ => l.length - (intOf i).toNat)
 case atStart => exact ⟨0, C, T, D, U, rfl, L0n _, L0n _, HI0, HX2⟩
 case round =>
  clear HA HI0 HX2 HB1 HXD
  obtain ⟨k, C, T, D, U, rfl, hk, hk50, HA, HXC⟩ := hrel
  by_cases hlt : k < l.length
  ·by_cases h50 : k < 50
   ·have hik : (k : Int) < (l.length : Int) := by omega
    have hik5 : (k : Int) < 50 := by omega
    have HEr : Hid (Elems rAcn wr S A l) := L0 (HE.out.keep fun b hb _ => (HA.out.s.bl.block b (HS.out b hb)).trans (HG.out.bl.block b (HS.out b hb)).symm)
    obtain ⟨q, off, a, I, ic, rfl, hSq, hq, hx, hr, g0, g1, g2, g3, g4⟩ := HEr.out.acn hlt
    have HR := L0 hr
    have HNC : Hid (∀ p, S p -> p < wr.heap.size /\ ¬ C p) := L0 fun p hp => ⟨L0c (HS.out p hp) HA.out.s.bl.size, fun hc => by have := HA.out.s.cn p hc; have := HS.out p hp; omega⟩
    have HND : Hid (∀ p, S p -> p < wr.heap.size /\ ¬ D p) := L0 fun p hp => ⟨L0c (HS.out p hp) HA.out.s.bl.size, fun hc => by have := HA.out.g.cn p hc; have := HS.out p hp; omega⟩
    obtain ⟨⟨r1, s1⟩, h1⟩ : ∃ z, doS (Z6f l k) a = z := ⟨_, rfl⟩
    have HH1 := L0 h1
    have HNX : Hid (Z6f l (k + 1) = s1) := L0 (by rw [Y3d hx, h1])
    have HSQ : Hid (q < wr.heap.size /\ ¬ C q) := L0 (HNC.out q hSq)
    clear hx hr h1 hSq
    go_upto_region 8 with (first
     | (go_at_call 11; go_must ((with_reducible refine Calls.mono (HA.out.act HH1.out HLW.out HPW.out HR.out HNC.out) ?_); rintro e v2 ⟨A2, c2, B2, d2, C2, T2, rfl, hr2, hA2, hc2, hC2⟩; obtain ⟨W2, e2, HB2, x0, x1, x2, x3, x4, HS2⟩ := X1z v2 (.int .i64 r1.code) (.int .i64 r1.n) (.string ⟨r1.text.toArray⟩) (.slice A2 r1.ans.length c2) (.slice B2 r1.at'.length d2); have HA2 := L0 (hA2.below HB2.out); obtain ⟨k0, k1, k2, k3, k4⟩ := X1d (q := q) (o := off + k * 5) (hc2.block q HSQ.out.1 HSQ.out.2) (L0c HSQ.out.1 hc2.size) HB2.out g0 g1 g2 g3 g4; have HRR := L0 (jA hr2 HB2.out); have HRA : Hid (rAcn.rel W2 S [.int .i64 a.kind, .int .i64 a.n, .string ⟨a.name.toArray⟩, .string ⟨a.text.toArray⟩, .slice I a.inp.length ic] a) := L0 (jA (rAcn.keep HR.out (hc2.keeps fun p hp => (HNC.out p hp).2)) HB2.out); have HX2 : Hid (W2.cell? ⟨X, 0, none⟩ = some (.pointer (some ⟨gb, 0, none⟩)) /\ ¬ C2 X) := L0 (by
       have hz : X < wr.heap.size := L0f _ _ HXC.out.1
       have hv : v2.cell? ⟨X, 0, none⟩ = _ := (L0y (a := ⟨X, 0, none⟩) (hc2.block X hz HXC.out.2.1)).trans HXC.out.1
       exact ⟨(HB2.out.ce 0 (L0c hz hc2.size)).trans hv, fun h => (hC2 X h).elim HXC.out.2.1 fun h => by omega⟩); have HNJ : Hid (∀ p, (wr.heap.size <= p /\ ¬ C2 p /\ p < v2.heap.size) -> p < W2.heap.size /\ ¬ D p) := L0 (fun p hp => ⟨by have := HS2.out; omega, fun h => by have := HA.out.g.sto.cw p h; omega⟩); have HNI : Hid (∀ p, S p -> p < W2.heap.size /\ ¬ D p) := L0 (fun p hp => ⟨by have := (HND.out p hp).1; have := hc2.size; have := HS2.out; omega, (HND.out p hp).2⟩); clear g0 g1 g2 g3 g4 hA2 hc2 hC2 hr2)))
    have hqW : q < W2.heap.size := L0f _ _ k0
    have hvW : v2.heap.size < W2.heap.size := L0f _ _ x0
    go_still_tail 7, (by kernel_rfl)
    change wpList _ _ _ _ _ W2.drew
    have HBD : Hid (Below W2.heap.size W2 W2.drew) := L0 ⟨rfl, rfl, rfl, L0g _, fun _ _ => rfl⟩
    have HCM := L0 (Y7x W2.drew (HA2.out.below HBD.out) HH1.out HLW.out HPW.out HX2.out.1 HXC.out.2.2 (jA HRA.out HBD.out) HNI.out (jA HRR.out HBD.out) HNJ.out)
    go_wp2_with (go_at_call 27; ((with_reducible refine HCM.out.mono ?_); rintro e w5 ⟨D5, U5, rfl, hA5, hX5, hD5⟩; have HA5 := L0 hA5; have HX5 := L0 hX5; have HD5 := L0 hD5; clear hA5 hX5 hD5))
    go_roundw
    case rel => exact ⟨k + 1, C2, T2, D5, U5, by go_num, hlt, h50, L0 (by rw [HNX.out]; exact HA5.out), L0 ⟨HX5.out, HX2.out.2, fun h => (HD5.out X h).elim HXC.out.2.2 fun h => by have h6 : X < W2.heap.size := L0f _ _ HX2.out.1; have h7 : W2.heap.size <= X := h; omega⟩⟩
    case measure => simp [intOf]; omega
   ·have hik5 : ¬ (k : Int) < 50 := by omega
    have hik : (k : Int) < (l.length : Int) := by omega
    go_wp2
    go_ret2
    exact ⟨⟨sb, rfl⟩, HA.out.s.bl⟩
  ·have hik : ¬ (k : Int) < (l.length : Int) := by omega
   go_wp2
   go_ret2
   exact ⟨⟨sb, rfl⟩, HA.out.s.bl⟩
theorem Z80 {S : Nat -> Prop} {lv : Value} {l : List Acn} (w : World) (hl : (rSl rAcn).rel w S [lv] l) (hS : ∀ q, S q -> q < w.heap.size) (hw : LibW w) (hp : PolW w) :
  Calls Tryz.prog 8 #[lv] w fun e w' => e = .returned (.bool true) /\ Below w.heap.size w w' := by
 have HRL := L0 hl
 have HS := L0 hS
 have HLW := L0 hw
 have HPW := L0 hp
 have HNW := L0 (At.new w hw hp)
 clear hl hS hw hp
 go_enter Tryz.func8, Tryz.ntmps8
 go_upto_region 2 with (first
  | (go_at_call 26; (with_reducible refine HNW.out.mono ?_); rintro e w1 ⟨gb, D, U, rfl, hA⟩; obtain ⟨W0, W1, e0, e1, z0, f0, x0, HB⟩ := X0m w1 (.pointer (some ⟨gb, 0, none⟩)); have HG := L0 (hA.below HB.out); have HXD : Hid (¬ D w1.heap.size) := L0 (fun h => L2w _ (hA.sto.cw _ h)); clear hA))
 have HPC := L0 (Y8x (w0 := w) W1 (jA HRL.out HG.out.bl) HS.out HG.out x0 HXD.out HLW.out HPW.out)
 clear e0 e1 z0 f0
 go_wp2_with (go_at_call 20; ((with_reducible refine HPC.out.mono ?_); rintro e w2 ⟨sb, rfl, hb⟩; have HB2 := L0 hb; clear hb))
 go_ret
 exact ⟨rfl, HB2.out⟩
