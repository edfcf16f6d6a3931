import Derived.Test.YtlopccnehgolnacGreatDoorShSt
import Derived.Test.YtlopccnehgolnacGreatDoorClo
import Derived.Test.YtlopccnehgolnacGreatDoorWo
import Derived.Deep.Draws
namespace Go.Proofs.YtlopccnehgolnacGreatDoor
open Go.RowKit Rb Go.Shelf
open _root_.Array renaming length_toList -> jA
open Go.Lib renaming bsGo -> jB
open Go.Op renaming bytesLess -> jC
open Go.World renaming cell? -> jD, frozen? -> jE
set_option maxRecDepth 100000
set_option maxHeartbeats 1000000
def sv (x : Txt) : Value := sq x
section
variable {w w' : World} {base g n cap : Nat} {S : Nat -> Prop} {l : List Txt}
theorem OwnS.strs (h : OwnS rStr 9 w base S (.slice (some (zn g 0)) n cap) l) : n = l.length /\ ∃ cur : Array Value, base <= g /\ w.heap[g]? = some (.cells cur 9 (0, 0)) /\ l.length <= cap /\ cap <= maxLen /\ cur.size = cap /\
  cur.toList.take l.length = l.map sv /\ ¬ S g /\ (∀ x ∈ l, x.length <= 140737488355328) /\ l.length * 16 <= 140737488355328 := by
 obtain ⟨cells, h1, h2, h3, h4⟩ := h
 rcases h1.2 with ⟨hn, _⟩ | ⟨g', cap', cur, hv', hb, hh, hnc, hcm, hcs, htake⟩
 ·cases hn
 injection hv' with ha hn hc
 injection ha with ha
 injection ha with hb' _ _
 subst hb' hc
 have hk : rStr.k = 1 := rfl
 have hlen := h1.1
 rw [hk, L4w] at hlen hcs htake
 have hget : ∀ i (hi : i < l.length), cells[i]? = some (sv l[i]) /\ l[i].length <= 140737488355328 := by
  intro i hi
  have h := h4 i l[i] (L0f hi)
  obtain ⟨e, hl⟩ := h
  rw [hk, L4w] at e
  have := congrArg (fun z => z[0]?) e
  simp only [L3a, L1p] at this
  simpa using ⟨this, hl⟩
 refine ⟨hn, cur, hb, hh, hnc, hcm, hcs, ?_, h2 _ rfl, fun x hx => ?_, h3 (by decide)⟩
 ·rw [htake]
  apply L3q
  intro i
  rcases L1r i l.length with hi | hi
  ·rw [(hget i hi).1, L4l, L0f hi]; rfl
  rw [L2x (by omega), L2x (by simpa using hi)]
 obtain ⟨i, hi, rfl⟩ := L1u hx
 exact (hget i hi).2
theorem OwnS.ofStrs {cur : Array Value} (hb : base <= g) (hh : w.heap[g]? = some (.cells cur 9 (0, 0))) (hn : l.length <= cap) (hcap : cap <= maxLen) (hcs : cur.size = cap) (htake : cur.toList.take l.length = l.map sv) (hS : ¬ S g)
  (hx : ∀ x ∈ l, x.length <= 140737488355328) (hl : l.length * 16 <= 140737488355328) : OwnS rStr 9 w base S (.slice (some (zn g 0)) l.length cap) l := by
 have hk : rStr.k = 1 := rfl
 refine ⟨l.map sv, ⟨by simp [hk], .inr ⟨g, cap, cur, rfl, hb, hh, hn, hcap, by rw [hk, L4w]; exact hcs, by rw [hk, L4w]; exact htake⟩⟩, fun q hq => by simp [Value.ownBlock] at hq; subst hq; exact hS, fun _ => hl, fun i x hi => ?_⟩
 obtain ⟨hlt, rfl⟩ := L0n.1 hi
 refine ⟨?_, hx _ (L2c hlt)⟩
 rw [hk, L4w]
 apply L3q
 intro j
 rcases L1r j 1 with hj | hj
 ·obtain rfl : j = 0 := by omega
  rw [L2i (by omega), L1p, L4l]
  simp [hlt, sv]
 rw [L3i hj, L2x (by simpa using hj)]
end
theorem X1a {cur cs cur1 cur2 : List Value} {x : Value} {n i : Nat} (hi : i <= n) (hn : n + 1 <= cur.length) (ht : cur.take n = cs) (h1 : cur1 = cur.take (i + 1) ++ cs.drop i ++ cur.drop (i + 1 + (n - i))) (h2 : cur2 = cur1.take i ++ [x] ++ cur1.drop (i + 1)) :
  cur2.take (n + 1) = cs.take i ++ [x] ++ cs.drop i /\ cur2.length = cur.length := by
 have hcs : cs.length = n := by rw [<- ht, L1i]; omega
 have e1 : (cur.take (i + 1)).length = i + 1 := by rw [L1i]; omega
 have a1 : cur1.take i = cs.take i := by
  rw [h1, L2l, L1j (by omega), L4f, L3v (by omega), <- ht, L4f, L3v hi]
 have a2 : cur1.drop (i + 1) = cs.drop i ++ cur.drop (i + 1 + (n - i)) := by
  rw [h1, L2l, List.drop_append, List.drop_of_length_le (by omega), L1o, e1, Nat.sub_self, L3h]
 constructor
 ·rw [h2, a1, a2, <- L2l]
  rw [L1j (by simp [hcs]; omega), L0l (by simp [hcs]; omega)]
 rw [h2, a1, a2]
 simp [hcs]
 omega
theorem X09 {A0 cs cur1 cur2 Z : List Value} {x : Value} {n i : Nat} (hi : i <= n) (hcs : cs.length = n) (hA : A0 = cs.take i ++ Z) (hZ : n + 1 - i <= Z.length) (h1 : cur1 = A0.take i ++ [x] ++ A0.drop (i + 1)) (h2 : cur2 = cur1.take (i + 1) ++ cs.drop i ++ cur1.drop (i + 1 + (n - i))) :
  cur2.take (n + 1) = cs.take i ++ [x] ++ cs.drop i /\ cur2.length = A0.length := by
 have e1 : (cs.take i).length = i := by rw [L1i]; omega
 have a1 : A0.take i = cs.take i := by rw [hA, L1j (by omega), L0l (by omega)]
 have hl0 : A0.length = i + Z.length := by rw [hA, L0i, e1]
 have hl1 : cur1.length = A0.length := by
  rw [h1, a1]
  simp [hl0]
  omega
 have a2 : cur1.take (i + 1) = cs.take i ++ [x] := by
  rw [h1, a1, L1j (by simp; omega), L0l (by simp; omega)]
 constructor
 ·rw [h2, a2, L1j (by simp [hcs]; omega), L0l (by simp [hcs]; omega)]
 rw [h2, a2]
 simp [hcs, hl1, hl0]
 omega
theorem Y86 (l : List Txt) (i : Nat) (x : Txt) : (l.take i ++ [x] ++ l.drop i).map sv = (l.map sv).take i ++ [sv x] ++ (l.map sv).drop i := by
 simp [List.map_take, List.map_drop]
theorem Z4l {w : World} {r : Option Nat} : w.grownBy w.drew r := ⟨rfl, rfl, rfl, L0g _, fun _ _ _ => rfl⟩
theorem Y77 {S : Nat -> Prop} {base : Nat} {v : Value} {l : List Txt} (i vb : Nat) (x : Txt) (w : World) (hown : OwnS rStr 9 w base S v l) (hbase : base <= w.heap.size) (hS : ∀ q, S q -> q < base) (hi : i <= l.length) (hx : x.length <= 140737488355328) (hl : (l.length + 1) * 16 <= 140737488355328)
  (hvb : w.heap[vb]? = some (.cells #[sv x] 9 (0, 0))) (hne : v.ownBlock ≠ some vb) :
  Calls Tryz.prog 61 #[v, .int .i64 i, .slice (some (zn vb 0)) 1 1] w fun e w' => ∃ u, e = .returned u /\ OwnS rStr 9 w' base S u (l.take i ++ [x] ++ l.drop i) /\ Below base w w' := by
 have hvc : ∀ j u, [sv x][j]? = some u -> w.cell? (zn vb (0 + j)) = some u := by
  intro j u hu
  rcases j with _ | j
  ·simp [jD, hvb]; simpa using hu
  simp at hu
 have hone : ∀ u ∈ [sv x], u.oneCell' = true := by intro u hu; simp at hu; subst hu; rfl
 have honeC : ∀ u ∈ l.map sv, u.oneCell' = true := by
  intro u hu
  obtain ⟨y, _, rfl⟩ := L1n.1 hu
  rfl
 have hlenR : (l.take i ++ [x] ++ l.drop i).length = l.length + 1 := by simp; omega
 have hmemR : (∀ y ∈ l, y.length <= 140737488355328) -> ∀ y ∈ l.take i ++ [x] ++ l.drop i, y.length <= 140737488355328 := by
  intro h y hy
  simp only [L2a, L3c] at hy
  rcases hy with (hy | rfl) | hy
  ·exact h y (L4n hy)
  ·exact hx
  exact h y (List.mem_of_mem_drop hy)
 have hSn : ¬ S w.heap.size := fun h => by have := hS _ h; omega
 rcases hown.form with ⟨rfl, rfl⟩ | ⟨g, cap, rfl, hgb, hgl⟩
 ·obtain rfl : i = 0 := by simpa using hi
  refine (Any2.slices_Insert_string_end_grow Tryz.stInsert none 0 0 vb 0 1 1 [] [sv x] w (by decide) (by decide) (by decide) (by decide) rfl rfl (fun _ => rfl) (fun a h => by cases h) hvc hone).mono ?_
  rintro e w' ⟨rfl, rfl⟩
  obtain ⟨gc, hgc⟩ : ∃ gc, grownCap w (0 + 1) 0 (Tryz.stInsert_ren.t 9) = gc := ⟨_, rfl⟩
  have g1 := grownCap_ge w (0 + 1) 0 (Tryz.stInsert_ren.t 9)
  have g2 := grownCap_le_maxLen w (0 + 1) 0 (Tryz.stInsert_ren.t 9) (by decide)
  rw [hgc] at g1 g2 ⊢
  refine ⟨_, rfl, ?_, ((L0m base w).grown Z4l hbase (row := none) (fun k hk => by cases hk)).alloc hbase _⟩
  have := OwnS.ofStrs (w := w.drew.alloc (.cells (([] ++ [sv x]).toArray ++ Builtin.zeroCells (Value.string ⟨#[]⟩).cells (gc - (0 + 1))) (Tryz.stInsert_ren.t 9))) (base := base) (S := S) (g := w.heap.size) (cap := gc) (l := [x]) hbase (heap_alloc_new w.drew _) (by simpa using g1) g2 (by simp [size_zeroCells, Value.cells]; omega) (by simp) hSn (by simpa using hx) (by simp)
  simpa using this
 obtain ⟨_, cur, hb, hh, hnc, hcm, hcs, htake, hSg, hxs, hbl⟩ := hown.strs
 have hgv : g ≠ vb := fun h => hne (by rw [<- h]; rfl)
 have hcell : ∀ j u, (l.map sv)[j]? = some u -> w.cell? (zn g (0 + j)) = some u := by
  intro j u hu
  have hj : j < l.length := by have := (L0n.1 hu).1; simpa using this
  rw [<- htake, L2i hj, L1y] at hu
  simp [jD, hh, hu]
 have hsome : ∀ j, j < cap -> (w.cell? (zn g (0 + j))).isSome = true := by
  intro j hj
  simp [jD, hh, hcs, hj]
 have hfz : ∀ o, w.frozen? (zn g o) = false := fun o => by simp [jE, hh]
 by_cases hend : i = l.length
 ·subst hend
  have htd : l.take l.length ++ [x] ++ l.drop l.length = l ++ [x] := by simp
  rw [htd] at hlenR hmemR ⊢
  by_cases hroom : l.length + 1 <= cap
  ·refine (Any2.slices_Insert_string_end_room Tryz.stInsert g 0 l.length cap vb 0 1 1 [sv x] w (by decide) hroom (by unfold maxLen at hcm; omega) rfl (fun j hj => by have := hsome (l.length + j) (by omega); rwa [L4x] at this ⊢) (fun j hj => hfz _) hvc hone).mono ?_
   rintro e w' ⟨rfl, rfl⟩
   rw [L4x]
   obtain ⟨cur', k1, k2⟩ := Z04 g [sv x] l.length w cur hh (by simp [hcs]; omega)
   have hl' : cur'.toList.length = cap := by rw [k2]; simp [hcs]; omega
   refine ⟨_, rfl, ?_, Below.setCellsR hgb _ _ w (L0m _ _)⟩
   have := OwnS.ofStrs (w := w.setCells g l.length [sv x]) (base := base) (S := S) (l := l ++ [x]) hb k1 (by rw [hlenR]; exact hroom) hcm (by simpa using hl') (by
    rw [k2, hlenR, htake, L1j (by simp), L0l (by simp)]; simp) hSg (hmemR hxs) (by rw [hlenR]; exact hl)
   rw [hlenR] at this
   exact this
  refine (Any2.slices_Insert_string_end_grow Tryz.stInsert (some (zn g 0)) l.length cap vb 0 1 1 (l.map sv) [sv x] w (by decide) hnc (by omega) hl (by simp) rfl (fun h => by cases h) (fun a ha j u hu => by
    injection ha with ha
    subst ha
    have hadd : ((zn g 0) : Addr).add j = (zn g (0 + j)) := by unfold Addr.add; split <;> simp_all
    rw [hadd]; exact hcell j u hu) hvc hone).mono ?_
  rintro e w' ⟨rfl, rfl⟩
  obtain ⟨gc, hgc⟩ : ∃ gc, grownCap w (l.length + 1) cap (Tryz.stInsert_ren.t 9) = gc := ⟨_, rfl⟩
  have g1 := grownCap_ge w (l.length + 1) cap (Tryz.stInsert_ren.t 9)
  have g2 := grownCap_le_maxLen w (l.length + 1) cap (Tryz.stInsert_ren.t 9) (by unfold maxLen; omega)
  rw [hgc] at g1 g2 ⊢
  refine ⟨_, rfl, ?_, ((L0m base w).grown Z4l hbase (row := none) (fun k hk => by cases hk)).alloc hbase _⟩
  have := OwnS.ofStrs (w := w.drew.alloc (.cells ((l.map sv ++ [sv x]).toArray ++ Builtin.zeroCells (Value.string ⟨#[]⟩).cells (gc - (l.length + 1))) (Tryz.stInsert_ren.t 9))) (base := base) (S := S) (g := w.heap.size) (cap := gc) (l := l ++ [x]) hbase (heap_alloc_new w.drew _) (by rw [hlenR]; exact g1) g2 (by simp [size_zeroCells, Value.cells]; omega) (by
   rw [hlenR, Array.toList_append, L1j (by simp), L0l (by simp)]; simp) hSn (hmemR hxs) (by rw [hlenR]; exact hl)
  rw [hlenR] at this
  exact this
 have hlt : i < l.length := by omega
 by_cases hroom : l.length + 1 <= cap
 ·refine (Any2.slices_Insert_string_shift Tryz.stInsert g 0 l.length cap i vb 0 1 1 (l.map sv) [sv x] w hlt (by decide) hroom (by unfold maxLen at hcm; omega) (Ne.symm hgv) (by simp) rfl hcell (fun j hj => hsome j (by omega)) (fun j _ => hfz _) hvc honeC hone 9 9 1 cap (by simp [World.shape?, hvb]) (by simp [World.shape?, hh, hcs]) (by omega) (by simp [jE, hvb]) (by simp [jE, hvb])).mono ?_
  rintro e w' ⟨rfl, rfl⟩
  rw [L4x, L4x]
  obtain ⟨cur1, k1, k2⟩ := Z04 g ((l.map sv).drop i) (i + 1) w.drew cur hh (by simp [hcs]; omega)
  obtain ⟨cur2, k3, k4⟩ := Z04 g [sv x] i _ cur1 k1 (by
   have : cur1.toList.length = cap := by rw [k2]; simp [hcs]; omega
   simp at this
   simp [this]; omega)
  simp only [L1b, L1h] at k2
  obtain ⟨m1, m2⟩ := X1a (x := sv x) (n := l.length) (i := i) hi (by simp [hcs]; exact hroom) htake k2 k4
  refine ⟨_, rfl, ?_, Below.setCellsR hgb _ _ _ (Below.setCellsR hgb _ _ _ ((L0m base w).grown Z4l hbase (row := none) (fun k hk => by cases hk)))⟩
  have := OwnS.ofStrs (w := (w.drew.setCells g (i + 1) ((l.map sv).drop i)).setCells g i [sv x]) (base := base) (S := S) (l := l.take i ++ [x] ++ l.drop i) hb k3 (by rw [hlenR]; exact hroom) hcm (by have := m2; simp [hcs] at this; simpa using this) (by rw [hlenR, m1, Y86]) hSg (hmemR hxs) (by rw [hlenR]; exact hl)
  rw [hlenR] at this
  exact this
 refine (Any2.slices_Insert_string_grow Tryz.stInsert g 0 l.length cap i vb 0 1 1 (l.map sv) [sv x] w hlt (by decide) hnc (by omega) hl (by simp) rfl hcell hvc honeC hone).mono ?_
 rintro e w' ⟨rfl, rfl⟩
 obtain ⟨gc, hgc⟩ : ∃ gc, grownCap w (l.length + 1) cap (Tryz.stInsert_ren.t 9) = gc := ⟨_, rfl⟩
 have g1 := grownCap_ge w (l.length + 1) cap (Tryz.stInsert_ren.t 9)
 have g2 := grownCap_le_maxLen w (l.length + 1) cap (Tryz.stInsert_ren.t 9) (by unfold maxLen; omega)
 rw [hgc] at g1 g2 ⊢
 obtain ⟨Z, hZ⟩ : ∃ Z, Builtin.zeroCells (Value.string ⟨#[]⟩).cells (l.length + 1 - i) ++ Builtin.zeroCells (Value.string ⟨#[]⟩).cells (gc - (l.length + 1)) = Z := ⟨_, rfl⟩
 have hZs : Z.size = gc - i := by rw [<- hZ]; simp [size_zeroCells, Value.cells]; omega
 rw [Array.append_assoc, hZ]
 obtain ⟨W, hW⟩ : ∃ W, w.alloc (.cells (((l.map sv).take i).toArray ++ Z) (Tryz.stInsert_ren.t 9)) = W := ⟨_, rfl⟩
 have hWh : W.heap[w.heap.size]? = some (.cells (((l.map sv).take i).toArray ++ Z) 9 (0, 0)) := by rw [<- hW]; exact heap_alloc_new w _
 have hWb : Below base w W := by rw [<- hW]; exact (L0m base w).alloc hbase _
 rw [hW]
 have hA0 : (((l.map sv).take i).toArray ++ Z).toList = (l.map sv).take i ++ Z.toList := by simp
 have hAs : (((l.map sv).take i).toArray ++ Z).size = gc := by simp [hZs]; omega
 obtain ⟨cur1, k1, k2⟩ := Z04 w.heap.size [sv x] i W.drew _ hWh (by rw [hAs]; simp; omega)
 obtain ⟨cur2, k3, k4⟩ := Z04 w.heap.size ((l.map sv).drop i) (i + 1) ((W.drew.setCells w.heap.size i [sv x]).drew) cur1 k1 (by
  have : cur1.toList.length = gc := by rw [k2]; simp [hZs]; omega
  simp at this
  simp [this]; omega)
 simp only [L1b, L1h] at k4
 obtain ⟨m1, m2⟩ := X09 (x := sv x) (n := l.length) (i := i) hi (by simp) hA0 (by simp [hZs]; omega) k2 k4
 refine ⟨_, rfl, ?_, Below.setCellsR hbase _ _ _ ((Below.setCellsR hbase _ _ _ (hWb.grown Z4l (L0h hbase hWb.size) (row := none) (fun k hk => by cases hk))).grown Z4l (by rw [Z6i]; exact L0h hbase hWb.size) (row := none) (fun k hk => by cases hk))⟩
 have := OwnS.ofStrs (w := ((W.drew.setCells w.heap.size i [sv x]).drew).setCells w.heap.size (i + 1) ((l.map sv).drop i)) (base := base) (S := S) (g := w.heap.size) (cap := gc) (l := l.take i ++ [x] ++ l.drop i) hbase k3 (by rw [hlenR]; exact g1) g2 (by have := m2; rw [jA, jA, hAs] at this; exact this) (by rw [hlenR, m1, Y86]) hSn (hmemR hxs) (by rw [hlenR]; exact hl)
 rw [hlenR] at this
 exact this
def posN (l : List Txt) (s : Txt) : Nat := jB (fun t => jC (l.getD t []) s) l.length 0 l.length
def hasN (l : List Txt) (s : Txt) : Bool := decide (posN l s < l.length /\ l.getD (posN l s) [] = s)
def addN (l : List Txt) (s : Txt) : List Txt := if hasN l s then l else l.take (posN l s) ++ [s] ++ l.drop (posN l s)
theorem Y4v (less : Nat -> Bool) : ∀ (f lo hi : Nat), lo <= hi -> jB less f lo hi <= hi
 | 0, lo, hi, h => h
 | f + 1, lo, hi, h => by
  unfold jB
  by_cases hl : lo < hi
  ·rw [if_pos hl]
   split
   ·exact Y4v less f _ _ (by omega)
   exact L0h (Y4v less f _ _ (by omega)) (by omega)
  rw [if_neg hl]; exact h
theorem Y9f (l : List Txt) (s : Txt) : posN l s <= l.length := Y4v _ _ _ _ (L0o _)
theorem Z8d (a : Txt) : (⟨a.toArray⟩ : ByteArray).toList = a := by rw [Lib.toList_data]
theorem Z9a (w : World) (n : Nat) : Bw w (w.drewN n) := ⟨rfl, rfl, rfl, L0g _, fun _ _ => rfl⟩
theorem Y6r {S : Nat -> Prop} {A : Option Addr} {c : Nat} {l : List Txt} (s : Txt) (w : World) (hE : Elems rStr w S A l) (hl : l.length < 1000000000000) :
  Calls Tryz.prog 60 #[.slice A l.length c, sq s] w fun e w' => e = .returned (.tuple #[.int .i64 (posN l s), .bool (hasN l s)]) /\ ∃ q, w' = w.drewN q := by
 rcases L2p l.length with h0 | h0
 ·obtain rfl : l = [] := L1g h0
  refine (Any2.slices_BinarySearch_string_empty Tryz.stSearch A c ⟨s.toArray⟩ w).mono ?_
  rintro e w' ⟨rfl, rfl⟩
  exact ⟨by simp [posN, hasN, jB], 0, rfl⟩
 obtain ⟨b, off, es, rfl, _⟩ := hE 0 l[0] (L0f h0)
 have hc : ∀ j, j < l.length -> w.cell? (zn b (off + j)) = some (.string ⟨(l.getD j []).toArray⟩) := by
  intro j hj
  obtain ⟨b', off', es', hA, _, _, ⟨rfl, _⟩, hcell⟩ := hE j l[j] (L0f hj)
  injection hA with hA
  injection hA with h1 h2 _
  subst h1 h2
  have := hcell 0 _ rfl
  have hk : rStr.k = 1 := rfl
  rw [hk, L4w, L3x] at this
  rw [this, L4, L0f hj]
  rfl
 refine (Any2.slices_BinarySearch_string Tryz.stSearch b off l.length c (fun t => ⟨(l.getD t []).toArray⟩) ⟨s.toArray⟩ w (by omega) hc).mono ?_
 rintro e w' ⟨rfl, hq⟩
 refine ⟨?_, hq⟩
 have e1 : (fun t => jC (⟨(l.getD t []).toArray⟩ : ByteArray).toList (⟨s.toArray⟩ : ByteArray).toList) = fun t => jC (l.getD t []) s := by
  funext t; rw [Z8d, Z8d]
 rw [e1]
 unfold hasN posN
 congr 6
 simp
theorem Z2g {S : Nat -> Prop} {v : Value} {l : List Txt} (s : Txt) (w : World) (hl : (rSl rStr).rel w S [v] l) (hs : s.length <= 140737488355328) (hn : l.length < 1000000000000) (_hSw : ∀ q, S q -> q < w.heap.size) :
  Calls Tryz.prog 36 #[v, sq s] w fun e w' => ∃ u, e = .returned u /\ (rSl rStr).rel w' (Up S w.heap.size) [u] (addN l s) /\ Bw w w' := by
 have HL := L0 hl
 obtain ⟨A, c, rfl, _, _, _, hE⟩ := rSl.elems hl
 have HE := L0 hE
 have HSE := L0 (Y6r (c := c) s w hE hn)
 have HS := L0 hs
 clear hl hE _hSw hs
 cases hh : hasN l s
 ·rw [hh] at HSE
  have HR : Hid (addN l s = l.take (posN l s) ++ [s] ++ l.drop (posN l s)) := L0 (by unfold addN; rw [hh]; rfl)
  have HP := L0 (Y9f l s)
  obtain ⟨i, hi⟩ : ∃ i, posN l s = i := ⟨_, rfl⟩
  rw [hi] at HSE HR HP
  clear hh hi
  go_enter Tryz.func36, Tryz.ntmps36
  go_wp2_with (first
   | (go_at_call 60; (with_reducible refine HSE.o.mono ?_); rintro e w1 ⟨rfl, q, hq⟩; have HB1 : Hid (Bw w w1) := L0 (by rw [hq]; exact Z9a w q); clear hq)
   | (go_at_call 42; (with_reducible refine (Y1i (c := c) w1 (HE.o.keep (.of_below HB1.o)) (by omega)).mono ?_); rintro e w2 ⟨z, rfl, ho2, hb2⟩; obtain ⟨A2, n2, c2, rfl⟩ := ho2.shape; have HO2 := L0 ho2; have HB2 := L0 (HB1.o.trans (hb2.mono HB1.o.size)); have HZ2 := L0 hb2.size; obtain ⟨W3, e3, HO3, HB3, HV3, HZ3, HNE3⟩ : ∃ W3, w2.alloc (.cells #[sq s] 9) = W3 /\ Hid (OwnS rStr 9 W3 w1.heap.size (fun b => S b /\ b < w1.heap.size) (.slice A2 n2 c2) l) /\ Hid (Bw w W3) /\ Hid (W3.heap[w2.heap.size]? = some (.cells #[sv s] 9 (0, 0))) /\ Hid (w1.heap.size <= W3.heap.size) /\ Hid ((Value.slice A2 n2 c2).ownBlock ≠ some w2.heap.size) := ⟨_, rfl, L0 (HO2.o.below bA), L0 (HB2.o.alloc HB2.o.size _), L0 (heap_alloc_new w2 _), L0 (by simp; have := HZ2.o; omega), L0 (fun h => by have := (HO2.o.lt _ h).2; omega)⟩; clear ho2 hb2)
   | (go_at_call 61; (with_reducible refine (Y77 i w2.heap.size s W3 HO3.o HZ3.o (fun q h => h.2) HP.o HS.o (by omega) HV3.o HNE3.o).mono ?_); rintro e w4 ⟨u, rfl, ho4, hb4⟩; have HO4 := L0 ho4; have HB4 := L0 (HB3.o.trans (hb4.mono HB1.o.size)); clear ho4 hb4))
  go_ret
  refine ⟨u, rfl, ?_, HB4.o⟩
  rw [HR.o]
  exact (rSl rStr).mono (HO4.o.self.rel (by decide)) fun b hb _ => by
   rcases hb with hb | hb
   ·exact .inl hb.1
   exact .inr (L0h HB1.o.size hb)
 rw [hh] at HSE
 have HR : Hid (addN l s = l) := L0 (by unfold addN; rw [hh]; rfl)
 obtain ⟨i, hi⟩ : ∃ i, posN l s = i := ⟨_, rfl⟩
 rw [hi] at HSE
 clear hh hi
 go_enter Tryz.func36, Tryz.ntmps36
 go_wp2_with (go_at_call 60; (with_reducible refine HSE.o.mono ?_); rintro e w1 ⟨rfl, q, hq⟩; have HB1 : Hid (Bw w w1) := L0 (by rw [hq]; exact Z9a w q); clear hq)
 go_ret
 refine ⟨_, rfl, ?_, HB1.o⟩
 rw [HR.o]
 exact Rd.up (Rd.below HL.o HB1.o)
