import Derived.Test.YtlopccnehgolnacGreatDoorGK0
import Derived.Test.YtlopccnehgolnacGreatDoorSymMath
import Derived.Shelf.SlSortCmp.KitK
namespace Go.Proofs.YtlopccnehgolnacGreatDoor
open Go.RowKit Go.Shelf Go.Lib Go.Sort
open _root_.Array renaming getElem?_modify -> jA, ofFn -> jB
open List renaming ext_getElem -> jC
open Nat renaming mul_comm -> jD
theorem Y3n {w : World} {g n : Nat} {os : Array Obj} {cur : Array Value} {e : TypeId} {fr : Nat × Nat} (F : Array Value) (hb : w.heap[g]? = some (.cells cur e fr)) :
  (grow (putRow id (Sort.ahead w n) g 0 F) os).heap[g]? = some (.cells (putCells id 0 F cur) e fr) := by
 have hg : g < w.heap.size := (L1v.1 hb).1
 rw [heap_grow_old _ _ (by simpa using hg)]
 simp [putRow, mapBlock, Sort.ahead, jA, hb, onCells]
theorem Z9n {w : World} {g n : Nat} {os : Array Obj} (F : Array Value) : w.grownBy (grow (putRow id (Sort.ahead w n) g 0 F) os) (some g) := by
 refine ⟨rfl, rfl, rfl, by simp, fun k hk hne => ?_⟩
 rw [heap_grow_old _ _ (by simpa using hk)]
 have : g ≠ k := fun e => hne (by rw [e])
 simp [putRow, mapBlock, Sort.ahead, jA, this]
theorem Y0o (cur F : Array Value) (h : F.size <= cur.size) : (putCells id 0 F cur).toList.take F.size = F.toList := by
 apply L3q
 intro j
 by_cases hj : j < F.size
 ·rw [L2i hj, L1y]
  simp [putCells, hj, show j < cur.size by omega]
 rw [L3i (by omega), L2x (by simp; omega)]
section
variable {ρ : Type} [Inhabited ρ] {X : Type} {enc : ρ -> List Value} {dat : ρ -> X} {k : Nat}
theorem Y8v (hk : ∀ r, (enc r).length = k) (h0 : 0 < k) (d : Array ρ) (i : Nat) (hi : i < d.size) : ((flatK enc k d).toList.drop (i * k)).take k = enc d[i]! := by
 apply L3q
 intro j
 rcases L1r j k with hj | hj
 ·rw [L2i hj, L1p, L1y]
  have hle : i * k + k <= d.size * k := by rw [<- L2y]; exact L1c _ hi
  have hlt : i * k + j < d.size * k := by omega
  have h := get_flatK enc k d (i * k + j) hlt
  rw [L2t (by simpa using hlt)]
  rw [getElem!_pos _ _ (by simpa using hlt)] at h
  rw [h, show (i * k + j) / k = i by rw [jD, Nat.mul_add_div h0, Nat.div_eq_of_lt hj, L3x], show (i * k + j) % k = j by rw [jD, Nat.mul_add_mod, Nat.mod_eq_of_lt hj]]
  rw [L0f (by rw [hk]; exact hj), getElem!_pos _ _ (by rw [hk]; exact hj)]
 rw [L3i (by omega), L2x (by rw [hk]; exact hj)]
variable {R : Rd X} {e : TypeId} {w : World} {base : Nat} {S : Nat -> Prop} {v : Value} {xs : List X}
theorem OwnS.sorted (hown : OwnS R e w base S v xs) {g cap : Nat} (hv : v = .slice (some (zn g 0)) xs.length cap) (hkR : R.k = k) (h0 : 0 < k) (hk : ∀ r, (enc r).length = k)
  {Pr : ρ -> Prop} (hrow : ∀ cs x, R.rel w S cs x -> ∃ r, enc r = cs /\ dat r = x /\ Pr r) :
  ∃ d : Array ρ, (∀ r ∈ d.toList, Pr r) /\ d.toList.map dat = xs /\ d.size = xs.length /\ HoldsK enc k w g 0 d /\ g < w.heap.size /\ base <= g /\
   ∀ (n : Nat) (os : Array Obj) (d' : Array ρ), PermIn 0 d.size d d' -> OwnS R e (sortWorldK enc k w g 0 n d' os) base S v (d'.toList.map dat) /\ (d'.toList.map dat).Perm xs /\ d'.toList.Perm d.toList /\ w.grownBy (sortWorldK enc k w g 0 n d' os) (some g) := by
 obtain ⟨cells, h1, h2, h3, h4⟩ := hown
 subst hkR
 have hcl := h1.1
 rcases h1.2 with ⟨hv', _⟩ | ⟨g', cap', cur, hv', hbg, hh, hnc, hcm, hcs, htake⟩
 ·rw [hv] at hv'; cases hv'
 obtain ⟨rfl, rfl⟩ : g' = g /\ cap' = cap := by
  rw [hv] at hv'
  injection hv' with ha _ hc
  injection ha with ha
  injection ha with hb' _ _
  exact ⟨hb'.symm, hc.symm⟩
 have hch : ∀ i : Fin xs.length, ∃ r, enc r = (cells.drop (i.1 * R.k)).take R.k /\ dat r = xs[i.1] /\ Pr r := fun i => hrow _ _ (h4 i.1 xs[i.1] (L0f i.2))
 obtain ⟨f, hf⟩ := Classical.axiomOfChoice hch
 have hds : (jB f).size = xs.length := by simp
 have hget : ∀ i (hi : i < xs.length), (jB f)[i]! = f ⟨i, hi⟩ := fun i hi => by rw [getElem!_pos _ _ (by simpa using hi)]; simp
 have hrel : ∀ r ∈ (jB f).toList, R.rel w S (enc r) (dat r) := by
  intro r hr
  obtain ⟨i, hi, rfl⟩ := L1u hr
  have hi' : i < xs.length := by simpa using hi
  have e : (jB f).toList[i] = f ⟨i, hi'⟩ := by simp
  rw [e, (hf ⟨i, hi'⟩).1, (hf ⟨i, hi'⟩).2.1]
  exact h4 i xs[i] (L0f hi')
 refine ⟨jB f, ?_, ?_, hds, ?_, (L1v.1 hh).1, hbg, fun n os d' hp => ?_⟩
 ·intro r hr
  obtain ⟨i, hi, rfl⟩ := L1u hr
  have hi' : i < xs.length := by simpa using hi
  have e : (jB f).toList[i] = f ⟨i, hi'⟩ := by simp
  rw [e]
  exact (hf ⟨i, hi'⟩).2.2
 ·apply jC
  ·simp
  intro i h1' h2'
  simp [(hf ⟨i, h2'⟩).2.1]
 ·intro j hj
  rw [size_flatK, hds] at hj
  refine ⟨?_, by simp [World.frozen?, hh]⟩
  have hi : j / R.k < xs.length := by rw [Nat.div_lt_iff_lt_mul h0]; exact hj
  have hm := Nat.mod_lt j h0
  have hdm := Nat.div_add_mod j R.k
  rw [jD] at hdm
  have hc : cells[j]? = some (enc (f ⟨j / R.k, hi⟩))[j % R.k]! := by
   have h6 : ((cells.drop (j / R.k * R.k)).take R.k)[j % R.k]? = cells[j]? := by
    rw [L2i hm, L1p, hdm]
   rw [<- h6, <- (hf ⟨j / R.k, hi⟩).1, L0f (by rw [hk]; exact hm), getElem!_pos _ _ (by rw [hk]; exact hm)]
  have := h1.cells (g := g') (by rw [hv]; rfl) j _ hc
  have hadd : ((zn g' 0) : Addr).add j = (zn g' (0 + j)) := by unfold Addr.add; split <;> simp_all
  rw [hadd] at this
  rw [this, get_flatK _ _ _ _ (by rw [hds]; exact hj), hget _ hi]
  rfl
 obtain ⟨p1, p2, p3⟩ := hp
 have hperm : d'.toList.Perm (jB f).toList := by
  have e1 : (d'.extract 0 (jB f).size) = d' := by rw [<- p1]; simp
  have e2 : ((jB f).extract 0 (jB f).size) = jB f := by simp
  rw [e1, e2] at p3
  exact p3
 have hmap : (jB f).toList.map dat = xs := by
  apply jC
  ·simp
  intro i h1' h2'
  simp [(hf ⟨i, h2'⟩).2.1]
 have hperm2 : (d'.toList.map dat).Perm xs := by
  have := hperm.map dat
  rwa [hmap] at this
 have hdl : d'.size = xs.length := p1.trans hds
 have hF : (flatK enc R.k d').size = xs.length * R.k := by simp [hdl]
 have hg2 := Z9n (w := w) (g := g') (n := n) (os := os) (flatK enc R.k d')
 have hK : Keeps S w (sortWorldK enc R.k w g' 0 n d' os) := .grown hg2 fun q hq => by injection hq with hq; subst hq; exact h2 _ (by rw [hv]; rfl)
 have hlen : (d'.toList.map dat).length = xs.length := by simp [hdl]
 refine ⟨⟨(flatK enc R.k d').toList, ⟨by simp [hdl], .inr ⟨g', cap', _, by rw [hlen]; exact hv, hbg, Y3n (flatK enc R.k d') hh, by rw [hlen]; exact hnc, hcm, by simp [putCells, hcs], ?_⟩⟩, h2, ?_, fun i x hx => ?_⟩, hperm2, hperm, hg2⟩
 ·have := Y0o cur (flatK enc R.k d') (by rw [hF, hcs]; exact L1c _ hnc)
  rw [hlen, <- this, hF]
 ·intro hk0
  rw [hlen]; exact h3 hk0
 have hi : i < d'.size := by
  have := (L0n.1 hx).1
  simpa using this
 have hx' : dat d'[i]! = x := by
  rw [getElem!_pos d' i hi]
  have := (L0n.1 hx).2
  simpa using this
 rw [Y8v hk h0 d' i hi, <- hx']
 have hm : d'[i]! ∈ d'.toList := by rw [getElem!_pos d' i hi]; simp
 exact R.keep (hrel _ (hperm.mem_iff.1 hm)) hK
end
