import Derived.Test.YtlopccnehgolnacGreatDoorShelf
import Derived.Test.YtlopccnehgolnacGreatDoorSpanD
import Derived.Shelf.SlSortCmp.NoneTotal
namespace Go.Proofs.YtlopccnehgolnacGreatDoor
open Go.RowKit Rb Go.Shelf Go.Sort
open _root_.Array renaming getElem?_modify -> jA
set_option maxHeartbeats 1000000
def cl (n : Int) : Int := max (-1000000) (min n 1000000)
theorem X4d (n : Int) : -1000000 <= cl n /\ cl n <= 1000000 := by unfold cl; omega
theorem Y60 {n : Int} (h : -1000000 <= n /\ n <= 1000000) : cl n = n := by unfold cl; omega
def encR (x : Rg) : List Value := [.int .i64 (cl x.1), .int .i64 (cl x.2)]
def cmpR (x y : Rg) : Int := cl x.1 - cl y.1
theorem ltR (x y : Rg) : ltOf cmpR x y = decide (cl x.1 < cl y.1) := by
 rw [L3t]
 unfold ltOf
 rw [decide_eq_true_iff, decide_eq_true_iff]
 unfold cmpR
 omega
theorem swoR : SWO (ltOf cmpR) where
 irrefl x := by rw [ltR]; simp
 trans x y z h1 h2 := by rw [ltR] at *; simp at *; omega
 ntrans x y z h1 h2 := by rw [ltR] at *; simp at *; omega
theorem Y6q (x y : Rg) (w : World) : Calls Tryz.prog 163 #[.agg #[.int .i64 (cl x.1), .int .i64 (cl x.2)], .agg #[.int .i64 (cl y.1), .int .i64 (cl y.2)]] w fun e w' =>
  e = .returned (.int .i64 (cmpR x y)) /\ ∃ q os', w' = grow (w.drewN q) os' := by
 have h1 := X4d x.1
 have h2 := X4d y.1
 unfold cmpR
 generalize cl x.1 = a at *
 generalize cl x.2 = b at *
 generalize cl y.1 = c at *
 generalize cl y.2 = d at *
 go_enter Tryz.func163, Tryz.ntmps163
 go_wp2
 go_ret
 exact ⟨rfl, 0, _, by rw [alloc_eq_grow, alloc_eq_grow, grow_grow]; rfl⟩
theorem X0y (blk off size : Nat) (w : World) : CmpLays Tryz.prog 163 #[] encR 2 cmpR blk off size w :=
 fun _ _ _ _ x y => Y6q x y _
theorem Y3m {w : World} {g n : Nat} {os : Array Obj} {cur : Array Value} {e : TypeId} {fr : Nat × Nat} (F : Array Value) (hb : w.heap[g]? = some (.cells cur e fr)) :
  (grow (putRow id (Sort.ahead w n) g 0 F) os).heap[g]? = some (.cells (putCells id 0 F cur) e fr) := by
 have hg : g < w.heap.size := (L1v.1 hb).1
 rw [heap_grow_old _ _ (by simpa using hg)]
 simp [putRow, mapBlock, Sort.ahead, jA, hb, onCells]
theorem Z9m {w : World} {g n : Nat} {os : Array Obj} (F : Array Value) : w.grownBy (grow (putRow id (Sort.ahead w n) g 0 F) os) (some g) := by
 refine ⟨rfl, rfl, rfl, by simp, fun k hk hne => ?_⟩
 rw [heap_grow_old _ _ (by simpa using hk)]
 have : g ≠ k := fun e => hne (by rw [e])
 simp [putRow, mapBlock, Sort.ahead, jA, this]
theorem Y0n (cur F : Array Value) (h : F.size <= cur.size) : (putCells id 0 F cur).toList.take F.size = F.toList := by
 apply L3q
 intro j
 by_cases hj : j < F.size
 ·rw [L2i hj, L1y]
  simp [putCells, hj, show j < cur.size by omega]
 rw [L3i (by omega), L2x (by simp; omega)]
theorem Y64 (d : Array Rg) (i : Nat) (hi : i < d.size) : ((flatK encR 2 d).toList.drop (i * 2)).take 2 = encR d[i]! := by
 have h0 : (flatK encR 2 d).toList[i * 2]? = some (encR d[i]!)[0]! := by
  have := get_flatK encR 2 d (i * 2) (by omega)
  rw [getElem!_pos _ _ (by simp; omega), show i * 2 / 2 = i by omega, show i * 2 % 2 = 0 by omega] at this
  rw [L1y, L2t (by simp; omega), this]
 have h1 : (flatK encR 2 d).toList[i * 2 + 1]? = some (encR d[i]!)[1]! := by
  have := get_flatK encR 2 d (i * 2 + 1) (by omega)
  rw [getElem!_pos _ _ (by simp; omega), show (i * 2 + 1) / 2 = i by omega, show (i * 2 + 1) % 2 = 1 by omega] at this
  rw [L1y, L2t (by simp; omega), this]
 apply L3q
 intro j
 rcases L1r j 2 with hj | hj
 ·rw [L2i hj, L1p]
  have : j = 0 \/ j = 1 := by omega
  rcases this with rfl | rfl
  ·rw [L3x, h0]; rfl
  rw [h1]; rfl
 rw [L3i (by omega), L2x (by simp [encR]; omega)]
theorem X1y : Y5w := by
 intro w base S u xs hown hnum hlen hbase
 have hb : ∀ r ∈ xs, -1000000 <= r.1 /\ r.1 <= 1000000 /\ -1000000 <= r.2 /\ r.2 <= 1000000 := fun r hr => by
  have := hnum r hr
  unfold MX at this
  omega
 rcases hown.form with ⟨rfl, rfl⟩ | ⟨g, cap, rfl, hgb, hgl⟩
 ·exact (AnyF.slices_SortFunc_none Tryz.sortRg none 0 _ w).mono fun e w' ⟨he, hw⟩ => ⟨he, [], List.Perm.refl _, by simp, by rw [hw]; exact hown, by rw [hw]; exact L0m _ _⟩
 obtain ⟨S1, ⟨cells, h1, h2, h3, h4⟩, h5⟩ := hown
 have hcl := h1.1
 rcases h1.2 with ⟨hv, _⟩ | ⟨g', cap', cur, hv, hbg, hh, hnc, hcm, hcs, htake⟩
 ·cases hv
 obtain ⟨rfl, rfl⟩ : g = g' /\ cap = cap' := by
  injection hv with ha _ hc
  injection ha with ha
  injection ha with hb' _ _
  exact ⟨hb', hc⟩
 have hH : HoldsK encR 2 w g 0 xs.toArray := by
  intro j hj
  rw [size_flatK] at hj
  have hj' : j < xs.length * 2 := by simpa using hj
  refine ⟨?_, by simp [World.frozen?, hh]⟩
  have hi : j / 2 < xs.length := by omega
  obtain ⟨hr, _, _⟩ := h4 (j / 2) xs[j / 2] (L0f hi)
  have hbx := hb xs[j / 2] (L2c hi)
  have hc : cells[j]? = some (encR xs[j / 2])[j % 2]! := by
   have h6 : ((cells.drop (j / 2 * 2)).take 2)[j % 2]? = cells[j]? := by
    rw [L2i (by omega), L1p, show j / 2 * 2 + j % 2 = j by omega]
   rw [<- h6]
   have hr' : (cells.drop (j / 2 * 2)).take 2 = [.int .i64 xs[j / 2].1, .int .i64 xs[j / 2].2] := hr
   rw [hr']
   unfold encR
   rw [Y60 ⟨hbx.1, hbx.2.1⟩, Y60 hbx.2.2]
   have : j % 2 = 0 \/ j % 2 = 1 := by omega
   rcases this with h7 | h7 <;> rw [h7] <;> rfl
  have := h1.cells (g := g) rfl j _ hc
  have hadd : ((zn g 0) : Addr).add j = (zn g (0 + j)) := by unfold Addr.add; split <;> simp_all
  rw [hadd] at this
  rw [this, get_flatK _ _ _ _ (by simpa using hj')]
  have e : xs.toArray[j / 2]! = xs[j / 2] := by rw [getElem!_pos _ _ (by simpa using hi)]; simp
  rw [e]
  rfl
 have eg : ∀ args w, (callFunc 163 args).run Tryz.prog w = .ok (.enter 163 args) w := enters_of Tryz.func163 (by kernel_rfl) rfl
 have hcon := AnyQ.slices_SortFunc Tryz.sortRg 2 Tryz.isAgg74 Tryz.sizeOf74 encR (fun _ => rfl) (fun x v hv => by simp [encR] at hv; rcases hv with rfl | rfl <;> rfl) cmpR swoR 163 #[] g 0 cap xs.toArray w eg
  (X0y g 0 xs.toArray.size w) hH hgl (by simpa using hlen)
 have hsz : xs.toArray.size = xs.length := by simp
 rw [hsz] at hcon
 refine hcon.mono fun e w' ⟨he, d', n, os, hp, hs, hw⟩ => ⟨he, d'.toList, ?_⟩
 obtain ⟨p1, p2, p3⟩ := hp
 have hperm : d'.toList.Perm xs := by
  have : (d'.extract 0 xs.length) = d' := by rw [<- hsz, <- p1]; simp
  have h8 : (xs.toArray.extract 0 xs.length) = xs.toArray := by rw [<- hsz]; simp
  rw [this, h8] at p3
  exact p3
 have hb' : ∀ r ∈ d'.toList, -1000000 <= r.1 /\ r.1 <= 1000000 /\ -1000000 <= r.2 /\ r.2 <= 1000000 := fun r hr => hb r (hperm.mem_iff.1 hr)
 have hdl : d'.size = xs.length := by rw [p1, hsz]
 subst hw
 have hF : (flatK encR 2 d').size = xs.length * 2 := by simp [hdl]
 have hg2 := Z9m (w := w) (g := g) (n := n) (os := os) (flatK encR 2 d')
 refine ⟨hperm, ?_, ⟨fun _ => False, ⟨(flatK encR 2 d').toList, ⟨by simp [hdl, rRg], .inr ⟨g, cap, _, by simp [hdl], hbg, Y3m (flatK encR 2 d') hh, by simp [hdl]; omega, hcm, by simp [putCells, hcs], ?_⟩⟩, fun _ _ h => h, ?_, ?_⟩, fun _ h => h.elim⟩, ?_⟩
 ·rw [L3l]
  intro i j hi hj hij
  have hi' : i < d'.size := by simpa using hi
  have hj' : j < d'.size := by simpa using hj
  have := hs i j (L0o _) hij (by omega)
  rw [ltR, getElem!_pos d' i hi', getElem!_pos d' j hj'] at this
  have b1 := hb' d'[i] (by simp)
  have b2 := hb' d'[j] (by simp)
  rw [Y60 ⟨b1.1, b1.2.1⟩, Y60 ⟨b2.1, b2.2.1⟩] at this
  simp at this
  simpa using this
 ·have := Y0n cur (flatK encR 2 d') (by rw [hF, hcs]; exact L1c _ hnc)
  rw [<- this, hF]
  simp [hdl, rRg]
 ·intro hk
  have := h3 hk
  simpa [hdl] using this
 ·intro i x hx
  have hi : i < d'.size := by
   have := (L0n.1 hx).1
   simpa using this
  have hx' : d'[i]! = x := by
   rw [getElem!_pos d' i hi]
   have := (L0n.1 hx).2
   simpa using this
  have hbx := hb' x (L0z hx)
  have h9 := Y64 d' i hi
  rw [hx'] at h9
  refine ⟨?_, by unfold InI; omega, by unfold InI; omega⟩
  rw [show rRg.k = 2 from rfl, h9]
  unfold encR
  rw [Y60 ⟨hbx.1, hbx.2.1⟩, Y60 hbx.2.2]
 exact (L0m base w).grown hg2 hbase fun k hk => by injection hk with hk; omega
theorem Z8u {S : Nat -> Prop} {v : Value} {l : List Rg} (w : World) (hl : rRgs.rel w S [v] l) :
  Calls Tryz.prog 143 #[v] w fun e w' => ∃ u, e = .returned u /\ Own rRg 74 w' w.heap.size S u (Z3x l) /\ Bw w w' := X20 X1y w hl
