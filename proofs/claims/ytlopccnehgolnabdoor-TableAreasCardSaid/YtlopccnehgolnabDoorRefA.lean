
/- The contract of the reference's AreaOf. -/
import Derived.Test.YtlopccnehgolnabDoorMadeC
import Derived.Test.YtlopccnehgolnabDoorPairOf
import Derived.Test.YtlopccnehgolnabDoorArea
import Derived.Test.YtlopccnehgolnabDoorRefT
import Derived.Test.YtlopccnehgolnabDoorBox
import Derived.Test.YtlopccnehgolnabDoorBoxD
import Derived.Deep.RegionHeld3
import Derived.Deep.DeepCutAuto
import Derived.Deep.DeepMust
namespace Go.Proofs.YtlopccnehgolnabDoor
open Go.RowKit Rb

/-- What the cell leaves of a set, as the reference has it. -/
theorem made_cell {s : List Rg} {c : Cl} (gs : GoodS s) : madeL (fun n => hasL s n && cellHolds c n) (edgesL [s, c.rs]) [] = cellArea c s := by
  have hT : Turns (fun n => hasL s n && cellHolds c n) (edgesL [s, c.rs]) :=
    Turns.comb (fun x y => x && (decide (c.rs.length = 0) && !c.no || (y != c.no))) (Turns.inSet (ss := [s, c.rs]) (s := s) (by simp)) (Turns.inSet (ss := [s, c.rs]) (s := c.rs) (by simp))
  obtain ⟨g, h⟩ := made_good hT
  have hN := normS_good c.rs
  unfold cellArea
  cases hno : c.no
  · by_cases h0 : 0 < c.rs.length
    · rw [if_neg (by simp), if_pos h0]
      refine good_unique g (bothS_good _ _).1 fun n => ?_
      rw [h, (bothS_good _ _).2, hN.2]
      unfold cellHolds
      rw [hno, show decide (c.rs.length = 0) = false from decide_eq_false (by omega)]
      cases hasL s n <;> cases hasL c.rs n <;> cases isNum n <;> rfl
    · rw [if_neg (by simp), if_neg h0]
      refine good_unique g gs fun n => ?_
      rw [h]
      unfold cellHolds
      rw [hno, show decide (c.rs.length = 0) = true from decide_eq_true (by omega), ← gs.isNum n]
      cases hasL s n <;> cases isNum n <;> simp
  · rw [if_pos rfl]
    refine good_unique g (lessS_good _ _).1 fun n => ?_
    rw [h, (lessS_good _ _).2, hN.2]
    unfold cellHolds
    rw [hno]
    cases hasL s n <;> cases hasL c.rs n <;> cases isNum n <;> simp

theorem cellArea_good {s : List Rg} {c : Cl} (gs : GoodS s) : GoodS (cellArea c s) := by
  unfold cellArea
  split
  · exact (lessS_good _ _).1
  · split
    · exact (bothS_good _ _).1
    · exact gs

theorem CellHolds_r {S : Nat → Prop} {v : Value} {no : Bool} {rs : List Rg} {n : Int} {b : Bool} (w : World) (hl : (rSl rRg).rel w S [v] rs) (h : cellHolds ⟨no, rs⟩ n = b) :
    Calls Tryd.prog 43 #[.agg #[.bool no, v], .int .i64 n] w fun e w' => e = .returned (.bool b) ∧ Below w.heap.size w w' := h ▸ CellHolds_any (c := ⟨no, rs⟩) n w hl

set_option maxRecDepth 100000 in
theorem AreaFn_any {S T : Nat → Prop} {v' q : Value} {s : List Rg} {no : Bool} {rs : List Rg} {k m d : Nat} {bB off : Nat} (n : Int) (qa qi qc : Nat) (w : World)
    (ha : w.cell? ⟨qa, 0, none⟩ = some (.slice (some ⟨bB, off, none⟩) m d)) (hi : w.cell? ⟨qi, 0, none⟩ = some (.int .i64 k)) (h0 : w.cell? ⟨qc, 0, none⟩ = some (.bool no)) (h1 : w.cell? ⟨qc, 1, none⟩ = some q)
    (hv : w.cell? ⟨bB, off + k, none⟩ = some v') (hk : k < m) (_hm : m ≤ 17592186044416) (hl : (rSl rRg).rel w T [v'] s) (hc : (rSl rRg).rel w S [q] rs) :
    Calls Tryd.prog 41 #[.int .i64 n, .pointer (some ⟨qa, 0, none⟩), .pointer (some ⟨qi, 0, none⟩), .pointer (some ⟨qc, 0, none⟩)] w fun e w' => e = .returned (.bool (hasL s n && cellHolds ⟨no, rs⟩ n)) ∧ Below w.heap.size w w' := by
  have hik : (k : Int) < (m : Int) := by omega
  have HL := Lib.hid hl
  have HC := Lib.hid hc
  have hs := World.block_lt_of_cell? w _ h0
  obtain ⟨h, hh⟩ : ∃ h, hasL s n = h := ⟨_, rfl⟩
  have HI := InSet_any n w hl
  obtain ⟨A3, c3, rfl, _⟩ := rSl.elems hl
  obtain ⟨A4, c4, rfl, _⟩ := rSl.elems hc
  rw [hh] at HI ⊢
  have HI := Lib.hid HI
  obtain ⟨r, hr⟩ : ∃ r, cellHolds ⟨no, rs⟩ n = r := ⟨_, rfl⟩
  have HR := Lib.hid hr
  rw [hr]
  clear hl hc hh hr
  cases h
  all_goals
    go_enter Tryd.func41, Tryd.ntmps41
    go_wp2_with (first
      | (go_at_call 42; go_must ((with_reducible refine HI.out.mono ?_); rintro e w1 ⟨rfl, hb⟩; have k0 := (hb.cell (p := ⟨qc, 0, none⟩) hs).trans h0; have k1 := (hb.cell (p := ⟨qc, 1, none⟩) hs).trans h1; have HB := Lib.hid hb; clear hb))
      | (go_at_call 43; go_must ((with_reducible refine (CellHolds_r w1 (Rd.below HC.out HB.out) HR.out).mono ?_); rintro e w2 ⟨rfl, hb'⟩; have HB2 := Lib.hid (HB.out.trans (hb'.mono HB.out.size)); clear hb')))
    go_ret
    first | exact ⟨rfl, HB.out⟩ | exact ⟨rfl, HB2.out⟩ | exact ⟨by simp, HB2.out⟩

/-- Two blocks just laid. -/
theorem alloc2_cells (w : World) (cs ds : Array Value) (t t' : TypeId) : ∃ W, (w.alloc (.cells cs t)).alloc (.cells ds t') = W ∧ Below w.heap.size w W ∧ W.heap.size = w.heap.size + 2 ∧ (∀ i, W.cell? ⟨w.heap.size, i, none⟩ = cs[i]?) ∧ (∀ i, W.cell? ⟨w.heap.size + 1, i, none⟩ = ds[i]?) ∧ (∀ i, W.frozen? ⟨w.heap.size, i, none⟩ = false) ∧ (∀ i, W.frozen? ⟨w.heap.size + 1, i, none⟩ = false) := by
  have e : (w.alloc (.cells cs t)).heap.size = w.heap.size + 1 := by simp
  refine ⟨_, rfl, ((Below.refl _ _).alloc (Nat.le_refl _) _).alloc (by simp) _, by simp, fun i => ?_, fun i => ?_, fun i => by simp, fun i => ?_⟩
  · rw [World.cell?_alloc_lt _ _ _ (by simp)]; simp
  · rw [← e]; simp
  · rw [← e]; simp

set_option maxRecDepth 100000 in
set_option maxHeartbeats 1600000 in
theorem AreaOf_any {S T : Nat → Prop} {v u : Value} {r : Rl} {all : Bx} (w : World) (hl : (rSl rCl).rel w S [v] r.cells) (hm : rBx.rel w T [u] all) :
    Calls Tryd.prog 15 #[.agg #[v, .int .i64 r.out], u] w fun e w' => ∃ z, e = .returned (.tuple #[z, .bool (someBx (areaB r all))]) ∧ Own (rSl rRg) 51 w' w.heap.size (fun _ => False) z (optBx (areaB r all)) ∧ Below w.heap.size w w' := by
  have hal := rSl.lenle hm (by decide)
  obtain ⟨A, c, rfl, _, _, hbA, hE⟩ := rSl.elems hl
  obtain ⟨B, d, rfl, _, _, _, hF⟩ := rSl.elems hm
  have hcl : r.cells.length ≤ 4398046511104 := by simp only [rCl] at hbA; omega
  obtain ⟨W0, e0, hB0, hz0, k0, k1, _, _⟩ := alloc2_cells w #[.slice A r.cells.length c, .int .i64 r.out] #[.slice B all.length d] 43 39
  have c0 : W0.cell? ⟨w.heap.size, 0, none⟩ = some (.slice A r.cells.length c) := k0 0
  have c1 : W0.cell? ⟨w.heap.size + 1, 0, none⟩ = some (.slice B all.length d) := k1 0
  have HB0 := Lib.hid hB0
  have HG := Lib.hid (IsBox_any (all.length : Int) W0 (Rd.below hm hB0))
  have HZ0 := Lib.hid hz0
  have HF := Lib.hid hF
  clear hl hm hbA hz0 k0 k1 hB0 hF
  by_cases hlen : r.cells.length = all.length
  case neg =>
    have hn : ((r.cells.length : Int) == (all.length : Int)) = false := by rw [beq_eq_false_iff_ne]; omega
    have hn2 : ((r.cells.length : Int) != (all.length : Int)) = true := by rw [bne_iff_ne]; omega
    have HFF : Hid (areaB r all = none) := Lib.hid (by unfold areaB; rw [decide_eq_false hlen]; rfl)
    go_enter Tryd.func15, Tryd.ntmps15
    go_wp2
    go_ret2
    exact ⟨_, by rw [HFF.out]; rfl, by rw [HFF.out]; exact Own.nil _ _ _ _ _, HB0.out⟩
  have HLEN : SameLen r all := hlen
  have HLB : Hid (areaB r all = if goodBx all (all.length : Int) then (areaGo (r.cells.drop 0) (all.drop 0)).map ([] ++ ·) else none) := Lib.hid (by unfold areaB; rw [decide_eq_true hlen]; simp)
  generalize r.cells.length = m at *
  subst hlen
  cases hg : goodBx all (all.length : Int)
  · rw [hg] at HG
    have HFF : Hid (areaB r all = none) := Lib.hid (by rw [HLB.out, hg]; rfl)
    clear hg
    go_enter Tryd.func15, Tryd.ntmps15
    go_wp2_with (first | (go_at_call 38; go_must (((with_reducible refine HG.out.mono ?_); rintro e w1 ⟨rfl, hb1⟩))))
    go_ret2
    exact ⟨_, by rw [HFF.out]; rfl, by rw [HFF.out]; exact Own.nil _ _ _ _ _, HB0.out.trans (hb1.mono HB0.out.size)⟩
  rw [hg] at HG
  have HAR : Hid (areaB r all = (areaGo (r.cells.drop 0) (all.drop 0)).map ([] ++ ·)) := Lib.hid (by rw [HLB.out, hg]; rfl)
  have HGS := Lib.hid (goodBx_iff.1 hg).1
  have ha3 := (goodBx_iff.1 hg).2.2
  clear hg HLB
  go_enter Tryd.func15, Tryd.ntmps15
  go_wp2_with (first | (go_at_call 38; ((with_reducible refine HG.out.mono ?_); rintro e w1 ⟨rfl, hb1⟩; have d0 := (hb1.cell (p := ⟨w.heap.size, 0, none⟩) (by rw [HZ0.out]; show w.heap.size < w.heap.size + 2; omega)).trans c0; have HB1 := Lib.hid (HB0.out.trans (hb1.mono HB0.out.size)); have HC1 := Lib.hid ((hb1.cell (p := ⟨w.heap.size + 1, 0, none⟩) (by rw [HZ0.out]; show w.heap.size + 1 < w.heap.size + 2; omega)).trans c1); have HZ1 : Hid (w.heap.size + 1 < w1.heap.size) := Lib.hid (by have := hb1.size; rw [HZ0.out] at this; omega); clear hb1)))
  clear e0 c0 c1 d0
  go_loopw [6, 26] (fun o i wr => ∃ (k : Nat) (pre : Bx), k ≤ all.length ∧ i = .int .i64 k ∧ Hid (Own (rSl rRg) 51 wr w1.heap.size (fun _ => False) o pre) ∧ pre.length = k ∧ Hid (areaB r all = (areaGo (r.cells.drop k) (all.drop k)).map (pre ++ ·)) ∧ Hid (Below w1.heap.size w1 wr)) (fun _ i _ => all.length - (intOf i).toNat)
  case atStart => exact ⟨0, [], Nat.zero_le _, rfl, Lib.hid (Own.nil _ _ _ _ _), rfl, HAR, Lib.hid (Below.refl _ _)⟩
  case round =>
    clear HG HAR
    obtain ⟨k, pre, hk, rfl, HOW, hpl, HI, HB⟩ := hrel
    have HBW := Lib.hid (HB1.out.trans (HB.out.mono HB1.out.size))
    by_cases hlt : k < all.length
    · obtain ⟨bA, off, cl, q, rfl, _, hbA, hx, hq, g1, g2⟩ := hE.cl (show k < r.cells.length by rw [HLEN]; exact hlt)
      obtain ⟨bB, off', v', s, rfl, _, hbB, hx', hs', g3⟩ := HF.out.sl hlt
      rw [← HBW.out.cell (p := ⟨bA, _, none⟩) hbA] at g1 g2
      rw [← HBW.out.cell (p := ⟨bB, _, none⟩) hbB] at g3
      have hgs := (HGS.out s (List.mem_of_getElem? hx')).2
      have HAT := Lib.hid (areaGo_at hx hx')
      have hik : (k : Int) < (all.length : Int) := by omega
      obtain ⟨no, rs⟩ := cl
      dsimp only at g1 g2 hq
      have hq1 := Rd.below hq HBW.out
      have hs1 := Rd.below hs' HBW.out
      obtain ⟨A2, c2, rfl, _⟩ := rSl.elems hq1
      obtain ⟨A3, c3, rfl, _⟩ := rSl.elems hs1
      obtain ⟨W1, e1, hB2, hz1, k0, k1, _, _⟩ := alloc2_cells wr #[.int .i64 k] #[.bool no, .slice A2 rs.length c2] 3 53
      have HB2 := Lib.hid hB2
      have hw1 : w.heap.size + 1 < wr.heap.size := Nat.lt_of_lt_of_le HZ1.out HB.out.size
      have hbB2 : bB < wr.heap.size := Nat.lt_of_lt_of_le hbB HBW.out.size
      have j0 : W1.cell? ⟨w.heap.size + 1, 0, none⟩ = some (.slice (some ⟨bB, off', none⟩) all.length d) := (hB2.cell (p := ⟨w.heap.size + 1, 0, none⟩) hw1).trans ((HB.out.cell (p := ⟨w.heap.size + 1, 0, none⟩) HZ1.out).trans HC1.out)
      have j1 : W1.cell? ⟨wr.heap.size, 0, none⟩ = some (.int .i64 k) := k0 0
      have j2 : W1.cell? ⟨wr.heap.size + 1, 0, none⟩ = some (.bool no) := k1 0
      have j3 : W1.cell? ⟨wr.heap.size + 1, 1, none⟩ = some (.slice A2 rs.length c2) := k1 1
      have j4 : W1.cell? ⟨bB, off' + k, none⟩ = some (.slice A3 s.length c3) := (hB2.cell (p := ⟨bB, off' + k, none⟩) hbB2).trans g3
      have HR2 := Lib.hid (Rd.below hq1 hB2)
      have HS2 := Lib.hid (Rd.below hs1 hB2)
      have HOW1 := Lib.hid (HOW.out.below hB2)
      have hsz : w.heap.size + 1 < W1.heap.size ∧ wr.heap.size < W1.heap.size ∧ wr.heap.size + 1 < W1.heap.size ∧ bB < W1.heap.size := ⟨by omega, by omega, by omega, by omega⟩
      have HSZ := Lib.hid hsz
      have hE2 : Elems rRgs (W1.alloc (.cells #[.slice A3 s.length c3, .slice A2 rs.length c2] 51)).drew (fun _ => True) (some ⟨W1.heap.size, 0, none⟩) [s, rs] := (Elems.pair HS2.out HR2.out 51).keep fun _ _ _ => rfl
      have hC := edges_any (c := 2) (W1.alloc (.cells #[.slice A3 s.length c3, .slice A2 rs.length c2] 51)).drew (by simp) hE2
      have hC : Calls Tryd.prog 40 #[.slice (some ⟨W1.heap.size, 0, none⟩) 2 2] (W1.alloc (.cells #[.slice A3 s.length c3, .slice A2 rs.length c2] 51)).drew _ := hC
      have HC := Lib.hid hC
      have HBE : Hid (Below W1.heap.size W1 (W1.alloc (.cells #[.slice A3 s.length c3, .slice A2 rs.length c2] 51)).drew) := Lib.hid (drewN_below ((Below.refl _ _).alloc (Nat.le_refl _) _) 1)
      clear hE2 hC
      have HMC : Hid (madeL (fun n => hasL s n && cellHolds ⟨no, rs⟩ n) (edgesL [s, rs]) [] = cellArea ⟨no, rs⟩ s) := Lib.hid (made_cell (c := ⟨no, rs⟩) hgs)
      have hcl2 := GoodS_length (cellArea_good (c := ⟨no, rs⟩) hgs)
      generalize hcs : cellArea ⟨no, rs⟩ s = cs at *
      have HCS := Lib.hid hcs
      clear hcs
      have HFN : Hid (∀ w3, Below W1.heap.size W1 w3 → ∀ (n : Int) (w' : World), -1000000 ≤ n → n ≤ 1000000 → Below w3.heap.size w3 w' → Calls Tryd.prog 41 #[.int .i64 n, .pointer (some ⟨w.heap.size + 1, 0, none⟩), .pointer (some ⟨wr.heap.size, 0, none⟩), .pointer (some ⟨wr.heap.size + 1, 0, none⟩)] w' fun e w'' => e = .returned (.bool (hasL s n && cellHolds ⟨no, rs⟩ n)) ∧ Below w'.heap.size w' w'') := Lib.hid fun w3 hb3 n w' _ _ hb' => by
        have hb := hb3.trans (hb'.mono hb3.size)
        exact AreaFn_any (d := d) n (w.heap.size + 1) wr.heap.size (wr.heap.size + 1) w' ((hb.cell (p := ⟨w.heap.size + 1, 0, none⟩) HSZ.out.1).trans j0) ((hb.cell (p := ⟨wr.heap.size, 0, none⟩) HSZ.out.2.1).trans j1) ((hb.cell (p := ⟨wr.heap.size + 1, 0, none⟩) HSZ.out.2.2.1).trans j2) ((hb.cell (p := ⟨wr.heap.size + 1, 1, none⟩) HSZ.out.2.2.1).trans j3) ((hb.cell (p := ⟨bB, off' + k, none⟩) HSZ.out.2.2.2).trans j4) hlt hal (Rd.below HS2.out hb) (Rd.below HR2.out hb)
      clear hx hx' hq hs' hq1 hs1 hB2 hz1 k0 k1 hgs hE hw1 hbB2 hsz j2
      go_wp2
      clear e1 g1 g2 g3
      go_region_held3 (fun w' => w'.cell? ⟨w.heap.size + 1, 0, none⟩ = some (.slice (some ⟨bB, off', none⟩) all.length d) ∧ w'.cell? ⟨wr.heap.size, 0, none⟩ = some (.int .i64 k) ∧ w'.cell? ⟨bB, off' + k, none⟩ = some (.slice A3 s.length c3) ∧ w'.cell? ⟨wr.heap.size + 1, 1, none⟩ = some (.slice A2 rs.length c2)) (go_keep) (first | (go_at_call 40; go_must ((with_reducible refine HC.out.mono ?_); rintro e w3 ⟨z3, rfl, hown3, hb3⟩; obtain ⟨A4, c4, rfl⟩ := hown3.value; have hb3' := HBE.out.trans (hb3.mono HBE.out.size); have i0 := (hb3'.cell (p := ⟨w.heap.size + 1, 0, none⟩) HSZ.out.1).trans j0; have i1 := (hb3'.cell (p := ⟨wr.heap.size, 0, none⟩) HSZ.out.2.1).trans j1; have i3 := (hb3'.cell (p := ⟨wr.heap.size + 1, 1, none⟩) HSZ.out.2.2.1).trans j3; have i4 := (hb3'.cell (p := ⟨bB, off' + k, none⟩) HSZ.out.2.2.2).trans j4; have HM := Lib.hid (made_AreaOf (fun n => hasL s n && cellHolds ⟨no, rs⟩ n) (.pointer (some ⟨w.heap.size + 1, 0, none⟩)) (.pointer (some ⟨wr.heap.size, 0, none⟩)) (.pointer (some ⟨wr.heap.size + 1, 0, none⟩)) (c := c4) w3 (edgesL_is [s, rs]) (hown3.elems (by decide) rfl).2 (HFN.out w3 hb3')); have HB3 := Lib.hid hb3'; clear hb3 hb3' hown3)) | (go_at_call 39; ((with_reducible refine HM.out.mono ?_); rintro e w4 ⟨z4, rfl, hown4, hb4⟩; rw [HMC.out] at hown4; have hb4' := HB3.out.trans (hb4.mono HB3.out.size); have l0 := (hb4'.cell (p := ⟨w.heap.size + 1, 0, none⟩) HSZ.out.1).trans j0; have l1 := (hb4'.cell (p := ⟨wr.heap.size, 0, none⟩) HSZ.out.2.1).trans j1; have l3 := (hb4'.cell (p := ⟨wr.heap.size + 1, 1, none⟩) HSZ.out.2.2.1).trans j3; have l4 := (hb4'.cell (p := ⟨bB, off' + k, none⟩) HSZ.out.2.2.2).trans j4; have HO4 := Lib.hid hown4; have HB4 := Lib.hid hb4'; clear hb4 hb4' hown4)))
      all_goals
        obtain ⟨A5, c5, rfl⟩ := HO4.out.value
        have hbF : Below w.heap.size w w4 := (HBW.out.trans (HB2.out.mono HBW.out.size)).trans (HB4.out.mono (Nat.le_trans HBW.out.size HB2.out.size))
        have HOW4 := Lib.hid (HOW1.out.below HB4.out)
        have HLT := Lib.hid HOW.out.lt
        by_cases hz : cs.length = 0
        · have HFF : Hid (areaB r all = none) := Lib.hid (by rw [HI.out, HAT.out, if_pos hz]; rfl)
          go_wp2
          go_ret2
          exact ⟨_, by rw [HFF.out]; rfl, by rw [HFF.out]; exact Own.nil _ _ _ _ _, hbF⟩
        · have HFF : Hid (areaB r all = (areaGo (r.cells.drop (k + 1)) (all.drop (k + 1))).map ((pre ++ [cs]) ++ ·)) := Lib.hid (by rw [HI.out, HAT.out, if_neg hz]; simp [Option.map_map, Function.comp_def])
          have hz2 : ((cs.length : Int) == 0) = false := by rw [beq_eq_false_iff_ne]; omega
          have HBY : Hid ((pre.length + 1) * (rSl rRg).bytes ≤ 140737488355328) := Lib.hid (by rw [hpl]; show (_ + _) * 24 ≤ _; omega)
          have HUP : Hid (∀ b, Up (fun _ => False) w3.heap.size b → b < w4.heap.size → Up (fun _ => False) w1.heap.size b ∧ u6.ownBlock ≠ some b) := Lib.hid fun b hb _ => by
            have h1 : w3.heap.size ≤ b := hb.elim (fun h => h.elim) id
            have h2 := HB3.out.size
            have h3 := HB2.out.size
            have h4 := HB.out.size
            exact ⟨.inr (by omega), fun e => by have := HLT.out b e; omega⟩
          have hbF1 : Below w1.heap.size w1 w4 := (HB.out.trans (HB2.out.mono HB.out.size)).trans (HB4.out.mono (Nat.le_trans HB.out.size HB2.out.size))
          have HBA : Hid (w1.heap.size ≤ w4.heap.size) := Lib.hid hbF1.size
          go_wp2_with (first | (at_builtin; go_must (refine wpList_append_new (R := rSl rRg) (x := cs) el_Rgs rfl (.tmp 44) (.tmp 46) rfl rfl HOW4.out [.slice A5 cs.length c5] rfl rfl (Up (fun _ => False) w3.heap.size) (HO4.out.rel (by decide)) (by exact HUP.out) HBY.out HBA.out ?_); intro v9 w9 hown9 hb9 _ _))
          go_roundw
          case rel => exact ⟨k + 1, pre ++ [cs], by omega, by go_num, Lib.hid hown9, by simp [hpl], HFF, Lib.hid (hbF1.trans hb9)⟩
          case measure => simp [intOf]; omega
    · have HFF : Hid (areaB r all = some pre) := Lib.hid (by
        have hd1 : all.drop k = [] := List.drop_eq_nil_of_le (by omega)
        have hd2 : r.cells.drop k = [] := List.drop_eq_nil_of_le (by rw [HLEN]; omega)
        rw [HI.out, hd1, hd2]
        simp [areaGo])
      go_wp2
      go_ret2
      exact ⟨_, by rw [HFF.out]; rfl, by rw [HFF.out]; exact HOW.out.lower HB1.out.size, HBW.out⟩

end Go.Proofs.YtlopccnehgolnabDoor
