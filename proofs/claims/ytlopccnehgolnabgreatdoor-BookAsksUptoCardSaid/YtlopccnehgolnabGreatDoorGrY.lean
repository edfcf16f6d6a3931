/- The contract of the reference's SameTable, of two tables that read alike. The reference's SameBook, of two copies of one book. -/
import Derived.Test.YtlopccnehgolnabGreatDoorJoin
import Derived.Test.YtlopccnehgolnabGreatDoorGrU
import Derived.Test.YtlopccnehgolnabGreatDoorGrA
import Derived.Deep.DeepMust
import Derived.Test.YtlopccnehgolnabGreatDoorGrG
import Derived.BigQuiet
import Derived.Deep.QuietTactic
namespace Go.Proofs.YtlopccnehgolnabGreatDoor
open Go.RowKit Rb

def joinC (l : List Txt) : List UInt8 := Lib.join l [44]
/-- The texts, joined, fit into memory. -/
def JoinFits (l : List Txt) : Prop := (joinC l).length ≤ 140737488355328

theorem Join_any {S : Nat → Prop} {v : Value} {l : List Txt} (w : World) (hl : (rSl rStr).rel w S [v] l) (hj : JoinFits l) :
    Calls Tryz.prog 65 #[v, .string ⟨#[44]⟩] w fun e w' => e = .returned (.string ⟨(joinC l).toArray⟩) ∧ Below w.heap.size w w' := by
  obtain ⟨A, c, rfl, hc, _, hb, hE⟩ := rSl.elems hl
  have hlen : l.length ≤ 8796093022208 := by simp only [rStr] at hb; omega
  rcases Nat.eq_zero_or_pos l.length with h0 | h0
  · obtain rfl : l = [] := List.eq_nil_of_length_eq_zero h0
    exact (Tryz.strings_Join_none A c ⟨#[44]⟩ w).mono fun e w' ⟨he, hw⟩ => ⟨he, hw ▸ Below.refl _ _⟩
  · obtain ⟨b, off, s, rfl, _, hb, hx, _, _⟩ := hE.str h0
    have hm : (l.map fun s : Txt => (⟨s.toArray⟩ : ByteArray)).map (·.data.toList) = l := by
      rw [List.map_map]
      exact (List.map_congr_left fun s _ => by simp).trans (List.map_id l)
    have h := Tryz.strings_Join b off c (l.map fun s : Txt => (⟨s.toArray⟩ : ByteArray)) ⟨#[44]⟩ w (fun j x hx => by
      rw [List.getElem?_map, Option.map_eq_some_iff] at hx
      obtain ⟨s', hs', rfl⟩ := hx
      have hlt : j < l.length := (List.getElem?_eq_some_iff.1 hs').1
      obtain ⟨b', off', s'', hA, _, _, hx', _, hc'⟩ := hE.str hlt
      obtain ⟨rfl, rfl⟩ : b = b' ∧ off = off' := by simpa using hA
      obtain rfl : s' = s'' := by rw [hs'] at hx'; exact Option.some.inj hx'
      exact hc') hb (by rw [List.length_map]; omega) (by rw [List.length_map]; exact hc) (by rw [hm]; exact hj)
    rw [List.length_map, hm] at h
    exact h

theorem SameSet_same {S T : Nat → Prop} {v u : Value} {a : List Rg} (w : World) (hl : (rSl rRg).rel w S [v] a) (hm : (rSl rRg).rel w T [u] a) :
    Calls Tryz.prog 66 #[v, u] w fun e w' => e = .returned (.bool true) ∧ Below w.heap.size w w' := by
  have h := SameSet_any w hl hm
  rwa [decide_eq_true rfl] at h

set_option maxRecDepth 100000 in
set_option maxHeartbeats 1600000 in
theorem SameTable_same {S T : Nat → Prop} {cs ds : List Value} {t : Tb} (w : World) (hl : rTb.rel w S cs t) (hm : rTb.rel w T ds t) (hj : JoinFits t.ins) :
    Calls Tryz.prog 24 #[.agg cs.toArray, .agg ds.toArray] w fun e w' => e = .returned (.bool true) ∧ Below w.heap.size w w' := by
  obtain ⟨vi, vr, rfl, hnm, hp, hi, hr⟩ := hl
  obtain ⟨ui, ur, rfl, _, _, hi', hr'⟩ := hm
  obtain ⟨A, c, rfl, _, _, hi3, _⟩ := rSl.elems hi
  obtain ⟨B, d, rfl, _, _, hr3, hF⟩ := rSl.elems hr
  obtain ⟨A', c', rfl, _⟩ := rSl.elems hi'
  obtain ⟨B', d', rfl, _, _, _, hF'⟩ := rSl.elems hr'
  have hr5 : t.rules.length ≤ 4398046511104 := by simp only [rRl] at hr3; omega
  have hi5 : t.ins.length ≤ 8796093022208 := by simp only [rStr] at hi3; omega
  obtain ⟨W0, e0, hB0, hz0, k0, k1, _, _⟩ := alloc2_cells w #[.string ⟨t.name.toArray⟩, .int .i64 t.pol, .bool t.comp, .slice A t.ins.length c, .slice B t.rules.length d] #[.string ⟨t.name.toArray⟩, .int .i64 t.pol, .bool t.comp, .slice A' t.ins.length c', .slice B' t.rules.length d'] 42 42
  have a0 : W0.cell? ⟨w.heap.size, 0, none⟩ = some (.string ⟨t.name.toArray⟩) := k0 0
  have a1 : W0.cell? ⟨w.heap.size, 1, none⟩ = some (.int .i64 t.pol) := k0 1
  have a2 : W0.cell? ⟨w.heap.size, 2, none⟩ = some (.bool t.comp) := k0 2
  have a3 : W0.cell? ⟨w.heap.size, 3, none⟩ = some (.slice A t.ins.length c) := k0 3
  have a4 : W0.cell? ⟨w.heap.size, 4, none⟩ = some (.slice B t.rules.length d) := k0 4
  have b0 : W0.cell? ⟨w.heap.size + 1, 0, none⟩ = some (.string ⟨t.name.toArray⟩) := k1 0
  have b1 : W0.cell? ⟨w.heap.size + 1, 1, none⟩ = some (.int .i64 t.pol) := k1 1
  have b2 : W0.cell? ⟨w.heap.size + 1, 2, none⟩ = some (.bool t.comp) := k1 2
  have b3 : W0.cell? ⟨w.heap.size + 1, 3, none⟩ = some (.slice A' t.ins.length c') := k1 3
  have b4 : W0.cell? ⟨w.heap.size + 1, 4, none⟩ = some (.slice B' t.rules.length d') := k1 4
  have HB0 := Lib.hid hB0
  have HJ1 := Lib.hid fun w' hb => Join_any w' (Rd.below (Rd.below hi hB0) hb) hj
  have HJ2 := Lib.hid fun w' hb => Join_any w' (Rd.below (Rd.below hi' hB0) hb) hj
  have HF := Lib.hid hF
  have HF' := Lib.hid hF'
  have HS0 : Hid (w.heap.size < W0.heap.size ∧ w.heap.size + 1 < W0.heap.size) := Lib.hid ⟨by omega, by omega⟩
  have hs0 : w.heap.size < W0.heap.size := by omega
  have hs1 : w.heap.size + 1 < W0.heap.size := by omega
  clear hi hr hi' hr' hF hF' hi3 hr3 hnm hp hj hB0 hz0 k0 k1
  go_enter Tryz.func24, Tryz.ntmps24
  go_wp2
  clear e0
  refine wp_region_quiet_below (by kernel_rfl) (by kernel_rfl) ?_
  repeat (go_big_quiet_step (first | with_reducible exact Calls.inBelow HJ1.out _ _ | with_reducible exact Calls.inBelow HJ2.out _ _))
  refine wpQuiet_nil ?_
  intro _ hw'
  obtain ⟨⟨dq, osq⟩, hw''⟩ := hw'
  subst hw''
  go_wp2
  have HBQ := Lib.hid (below_regrown W0 dq osq)
  have HA4 := Lib.hid a4
  have HB4 := Lib.hid b4
  clear a0 a1 a2 a3 a4 b0 b1 b2 b3 b4 HJ1 HJ2 hs0 hs1
  go_loopw [59] (fun i wr => ∃ k : Nat, k ≤ t.rules.length ∧ i = .int .i64 k ∧ Hid (Below W0.heap.size W0 wr)) (fun i _ => t.rules.length - (intOf i).toNat)
  case atStart => exact ⟨0, Nat.zero_le _, rfl, HBQ⟩
  case round =>
    clear HBQ
    obtain ⟨k, hk, rfl, HB⟩ := hrel
    have HBW := Lib.hid (HB0.out.trans (HB.out.mono HB0.out.size))
    by_cases hlt : k < t.rules.length
    · obtain ⟨bB, off, r, q, rfl, _, hbB, hx, _, hq, h1, h2⟩ := HF.out.rl hlt
      obtain ⟨bC, ofg, r', q', rfl, _, hbC, hx', _, hq', g1, g2⟩ := HF'.out.rl hlt
      obtain rfl : r = r' := by rw [hx] at hx'; exact Option.some.inj hx'
      rw [← HBW.out.cell (p := ⟨bB, _, none⟩) hbB] at h1 h2
      rw [← HBW.out.cell (p := ⟨bC, _, none⟩) hbC] at g1 g2
      have hqd := Rd.below hq HBW.out
      have hqd' := Rd.below hq' HBW.out
      obtain ⟨A2, c2, rfl, _, _, hl2, hE2⟩ := rSl.elems hqd
      obtain ⟨A3, c3, rfl, _, _, _, hE3⟩ := rSl.elems hqd'
      have hl2' : r.cells.length ≤ 4398046511104 := by simp only [rCl] at hl2; omega
      have hik : (k : Int) < (t.rules.length : Int) := by omega
      have f4 := (HB.out.cell (p := ⟨w.heap.size + 1, 4, none⟩) HS0.out.2).trans HB4.out
      have hsr : w.heap.size + 1 < wr.heap.size := Nat.lt_of_lt_of_le HS0.out.2 HB.out.size
      have hbr : bC < wr.heap.size := Nat.lt_of_lt_of_le hbC HBW.out.size
      obtain ⟨W1, e1, hB1, i4, j1, j2, hz1⟩ : ∃ W1, wr.alloc (.cells #[.slice A2 r.cells.length c2, .int .i64 r.out] 93) = W1 ∧ Below wr.heap.size wr W1 ∧ W1.cell? ⟨w.heap.size + 1, 4, none⟩ = some (.slice (some ⟨bC, ofg, none⟩) t.rules.length d') ∧ W1.cell? ⟨bC, ofg + k * 2, none⟩ = some (.slice A3 r.cells.length c3) ∧ W1.cell? ⟨bC, ofg + k * 2 + 1, none⟩ = some (.int .i64 r.out) ∧ W1.heap.size = wr.heap.size + 1 :=
        ⟨_, rfl, (Below.refl _ _).alloc (Nat.le_refl _) _, (World.cell?_alloc_lt _ _ _ hsr).trans f4, (World.cell?_alloc_lt _ _ _ hbr).trans g1, (World.cell?_alloc_lt _ _ _ hbr).trans g2, by simp⟩
      obtain ⟨W2, e2, hB2, d0, d1, d2, d3, hz2⟩ : ∃ W2, W1.alloc (.cells #[.slice A3 r.cells.length c3, .int .i64 r.out] 93) = W2 ∧ Below wr.heap.size wr W2 ∧ W2.cell? ⟨wr.heap.size, 0, none⟩ = some (.slice A2 r.cells.length c2) ∧ W2.cell? ⟨wr.heap.size, 1, none⟩ = some (.int .i64 r.out) ∧ W2.cell? ⟨W1.heap.size, 0, none⟩ = some (.slice A3 r.cells.length c3) ∧ W2.cell? ⟨W1.heap.size, 1, none⟩ = some (.int .i64 r.out) ∧ W2.heap.size = W1.heap.size + 1 :=
        ⟨_, rfl, hB1.alloc hB1.size _, (World.cell?_alloc_lt _ _ _ (by show wr.heap.size < _; omega)).trans (by rw [← e1]; exact World.cell?_alloc_new _ _ _ _), (World.cell?_alloc_lt _ _ _ (by show wr.heap.size < _; omega)).trans (by rw [← e1]; exact World.cell?_alloc_new _ _ _ _), World.cell?_alloc_new _ _ _ _, World.cell?_alloc_new _ _ _ _, by simp⟩
      have HB2 := Lib.hid (HB.out.trans (hB2.mono HB.out.size))
      have HE2 := Lib.hid (hE2.keep (Keeps.of_below hB2))
      have HE3 := Lib.hid (hE3.keep (Keeps.of_below hB2))
      have HW1 : Hid (W1.heap.size < W2.heap.size) := Lib.hid (by omega)
      clear hx hx' hq hq' hqd hqd' hE2 hE3 hl2 hsr hbr hB1 hB2 hz1 hz2
      go_wp2
      have HD2 := Lib.hid d2
      clear e1 e2 h1 h2 g1 g2 f4 i4 j1 j2 d0 d1 d2 d3
      obtain ⟨wo, hwo⟩ : ∃ x, x = wr := ⟨_, rfl⟩
      subst hwo
      go_loopw [86] (fun i wr => ∃ j : Nat, j ≤ r.cells.length ∧ i = .int .i64 j ∧ Hid (Below W2.heap.size W2 wr)) (fun i _ => r.cells.length - (intOf i).toNat)
      case atStart => exact ⟨0, Nat.zero_le _, rfl, Lib.hid (Below.refl _ _)⟩
      case round =>
        obtain ⟨j, hj, rfl, HBi⟩ := hrel
        by_cases hlj : j < r.cells.length
        · obtain ⟨b1, o1, cl, q1, rfl, _, hb1, hx1, hq1, g1, g2⟩ := HE2.out.cl hlj
          obtain ⟨b5, o5, cl', q5, rfl, _, hb5, hx5, hq5, g3, g4⟩ := HE3.out.cl hlj
          obtain rfl : cl = cl' := by rw [hx1] at hx5; exact Option.some.inj hx5
          rw [← HBi.out.cell (p := ⟨b1, _, none⟩) hb1] at g1 g2
          rw [← HBi.out.cell (p := ⟨b5, _, none⟩) hb5] at g3 g4
          have hq1' := Rd.below hq1 HBi.out
          have hq5' := Rd.below hq5 HBi.out
          obtain ⟨A6, c6, rfl, _, _, hl6, _⟩ := rSl.elems hq1'
          obtain ⟨A7, c7, rfl, _⟩ := rSl.elems hq5'
          have hl6' : cl.rs.length ≤ 8796093022208 := by simp only [rRg] at hl6; omega
          have hij : (j : Int) < (r.cells.length : Int) := by omega
          have f7 := (HBi.out.cell (p := ⟨W1.heap.size, 0, none⟩) HW1.out).trans HD2.out
          have hw1 : W1.heap.size < wr.heap.size := Nat.lt_of_lt_of_le HW1.out HBi.out.size
          have hb5' : b5 < wr.heap.size := Nat.lt_of_lt_of_le hb5 HBi.out.size
          obtain ⟨W3, e3, hB3, n0, n1, m0, p0, p1, hz3⟩ : ∃ W3, wr.alloc (.cells #[.bool cl.no, .slice A6 cl.rs.length c6] 97) = W3 ∧ Below wr.heap.size wr W3 ∧ W3.cell? ⟨wr.heap.size, 0, none⟩ = some (.bool cl.no) ∧ W3.cell? ⟨wr.heap.size, 1, none⟩ = some (.slice A6 cl.rs.length c6) ∧ W3.cell? ⟨W1.heap.size, 0, none⟩ = some (.slice (some ⟨b5, o5, none⟩) r.cells.length c3) ∧ W3.cell? ⟨b5, o5 + j * 2, none⟩ = some (.bool cl.no) ∧ W3.cell? ⟨b5, o5 + j * 2 + 1, none⟩ = some (.slice A7 cl.rs.length c7) ∧ W3.heap.size = wr.heap.size + 1 :=
            ⟨_, rfl, (Below.refl _ _).alloc (Nat.le_refl _) _, World.cell?_alloc_new _ _ _ _, World.cell?_alloc_new _ _ _ _, (World.cell?_alloc_lt _ _ _ hw1).trans f7, (World.cell?_alloc_lt _ _ _ hb5').trans g3, (World.cell?_alloc_lt _ _ _ hb5').trans g4, by simp⟩
          have HB3 := Lib.hid (HBi.out.trans (hB3.mono HBi.out.size))
          have HSS := Lib.hid fun w' hb' => SameSet_same w' (Rd.below (Rd.below hq1' hB3) hb') (Rd.below (Rd.below hq5' hB3) hb')
          have hs1 : wr.heap.size < W3.heap.size := by omega
          have hs2 : W1.heap.size < W3.heap.size := by omega
          have hs3 : b5 < W3.heap.size := by omega
          clear hx1 hx5 hq1 hq5 hq1' hq5' hl6 f7 hw1 hb5' hB3 hz3
          go_wp2
          clear e3 g1 g2 g3 g4
          refine wp_region_quiet_below (by kernel_rfl) (by kernel_rfl) ?_
          repeat (go_big_quiet_step (exact Calls.inBelow HSS.out _ _))
          refine wpQuiet_nil ?_
          intro _ hw'
          obtain ⟨⟨dq, osq⟩, hw''⟩ := hw'
          subst hw''
          go_wp2
          go_roundw
          case rel => exact ⟨j + 1, by omega, by go_num, Lib.hid (HB3.out.trans ((below_regrown _ _ _).mono HB3.out.size))⟩
          case measure => simp [intOf]; omega
        · go_wp2
          go_roundw
          case rel => exact ⟨k + 1, by omega, by go_num, Lib.hid (HB2.out.trans (HBi.out.mono HB2.out.size))⟩
          case measure => simp [intOf]; omega
    · go_wp2
      go_ret
      exact ⟨rfl, HBW.out⟩

end Go.Proofs.YtlopccnehgolnabGreatDoor

namespace Go.Proofs.YtlopccnehgolnabGreatDoor
open Go.RowKit Rb

set_option maxRecDepth 100000 in
set_option maxHeartbeats 1600000 in
theorem SameBook_same {S T : Nat → Prop} {cs ds : List Value} {b : Bk} (w : World) (hl : rBk.rel w S cs b) (hm : rBk.rel w T ds b) (hj : ∀ t ∈ b.tabs, JoinFits t.ins) :
    Calls Tryz.prog 30 #[.agg cs.toArray, .agg ds.toArray] w fun e w' => e = .returned (.bool true) ∧ Below w.heap.size w w' := by
  obtain ⟨v0, u0, rfl, hd, htb⟩ := hl
  obtain ⟨A, c, rfl, _, _, hbd, hD⟩ := rSl.elems hd
  obtain ⟨B, d, rfl, _, _, hbt, hF⟩ := rSl.elems htb
  obtain ⟨v1, u1, rfl, hd2, htb2⟩ := hm
  obtain ⟨A', c', rfl, _, _, _, hD'⟩ := rSl.elems hd2
  obtain ⟨B', d', rfl, _, _, _, hF'⟩ := rSl.elems htb2
  have hld : b.doms.length ≤ 4398046511104 := by simp only [rDm] at hbd; omega
  have hlt5 : b.tabs.length ≤ 1759218604441 := by simp only [rTb] at hbt; omega
  obtain ⟨W0, e0, HB0, c0, c1, k0, k1, hs0⟩ : ∃ W0, (w.alloc (.cells #[.slice A b.doms.length c, .slice B b.tabs.length d] 33)).alloc (.cells #[.slice A' b.doms.length c', .slice B' b.tabs.length d'] 33) = W0 ∧ Hid (Below w.heap.size w W0) ∧ W0.cell? ⟨w.heap.size, 0, none⟩ = some (.slice A b.doms.length c) ∧ W0.cell? ⟨w.heap.size, 1, none⟩ = some (.slice B b.tabs.length d) ∧ W0.cell? ⟨w.heap.size + 1, 0, none⟩ = some (.slice A' b.doms.length c') ∧ W0.cell? ⟨w.heap.size + 1, 1, none⟩ = some (.slice B' b.tabs.length d') ∧ w.heap.size + 1 < W0.heap.size := by
    have s1 : (w.alloc (.cells #[.slice A b.doms.length c, .slice B b.tabs.length d] 33)).heap.size = w.heap.size + 1 := by simp
    refine ⟨_, rfl, Lib.hid (((Below.refl _ _).alloc (Nat.le_refl _) _).alloc (by simp) _), (World.cell?_alloc_lt _ _ _ (by simp)).trans (World.cell?_alloc_new _ _ _ _), (World.cell?_alloc_lt _ _ _ (by simp)).trans (World.cell?_alloc_new _ _ _ _), ?_, ?_, by simp⟩ <;> rw [← s1] <;> exact World.cell?_alloc_new _ _ _ _
  have HD := Lib.hid hD
  have HD' := Lib.hid hD'
  have HF := Lib.hid hF
  have HF' := Lib.hid hF'
  have HJ := Lib.hid hj
  have hdb : ((b.doms.length : Int) != (b.doms.length : Int)) = false := by simp
  have htb2 : ((b.tabs.length : Int) != (b.tabs.length : Int)) = false := by simp
  clear hd htb hbd hbt hD hF hd2 htb2 hD' hF' hj
  go_enter Tryz.func30, Tryz.ntmps30
  go_wp2
  clear e0
  go_loopw [26] (fun i wr => ∃ k : Nat, k ≤ b.doms.length ∧ i = .int .i64 k ∧ Hid (Below W0.heap.size W0 wr)) (fun i _ => b.doms.length - (intOf i).toNat)
  case atStart => exact ⟨0, Nat.zero_le _, rfl, Lib.hid (Below.refl _ _)⟩
  case round =>
    obtain ⟨k, hk, rfl, HB⟩ := hrel
    have HBR : Hid (Below w.heap.size w wr) := Lib.hid (HB0.out.trans (HB.out.mono HB0.out.size))
    have d0 := (HB.out.cell (p := ⟨w.heap.size, 0, none⟩) (by show w.heap.size < _; omega)).trans c0
    have d1 := (HB.out.cell (p := ⟨w.heap.size, 1, none⟩) (by show w.heap.size < _; omega)).trans c1
    have e0 := (HB.out.cell (p := ⟨w.heap.size + 1, 0, none⟩) hs0).trans k0
    have e1 := (HB.out.cell (p := ⟨w.heap.size + 1, 1, none⟩) hs0).trans k1
    have hq0 : w.heap.size < wr.heap.size := by have := HB.out.size; omega
    have hq1 : w.heap.size + 1 < wr.heap.size := by have := HB.out.size; omega
    by_cases hlt : k < b.doms.length
    · obtain ⟨bB, off, x, rfl, hbB, hx, _, g0, g1, g2⟩ := HD.out.dm hlt
      obtain ⟨bC, off2, y, rfl, hbC, hy, _, h0, h1, h2⟩ := HD'.out.dm hlt
      obtain rfl : x = y := by rw [hx] at hy; exact Option.some.inj hy
      rw [← HBR.out.cell (p := ⟨bB, _, none⟩) hbB] at g0 g1 g2
      rw [← HBR.out.cell (p := ⟨bC, _, none⟩) hbC] at h0 h1 h2
      have hik : (k : Int) < (b.doms.length : Int) := by omega
      have hb2 : bB < wr.heap.size := Nat.lt_of_lt_of_le hbB HBR.out.size
      have hb3 : bC < wr.heap.size := Nat.lt_of_lt_of_le hbC HBR.out.size
      clear hx hy
      go_wp2
      refine wp_region_quiet_below (by kernel_rfl) (by kernel_rfl) ?_
      repeat (go_big_quiet_step (fail))
      refine wpQuiet_nil ?_
      intro _ hw'
      obtain ⟨⟨dq, osq⟩, hw''⟩ := hw'
      subst hw''
      go_wp2
      go_roundw
      case rel => exact ⟨k + 1, by omega, by go_num, Lib.hid (HB.out.trans ((below_regrown _ _ _).mono HB.out.size))⟩
      case measure => simp [intOf]; omega
    · have hij : ¬ (k : Int) < (b.doms.length : Int) := by omega
      have HBw := HB
      go_wp2
      clear d0 d1 e0 e1 hq0 hq1 HB HBR hij hlt hk
      go_loopw [44] (fun i wr => ∃ k : Nat, k ≤ b.tabs.length ∧ i = .int .i64 k ∧ Hid (Below W0.heap.size W0 wr)) (fun i _ => b.tabs.length - (intOf i).toNat)
      case atStart => exact ⟨0, Nat.zero_le _, rfl, HBw⟩
      case round =>
        clear HBw
        obtain ⟨k, hk, rfl, HB⟩ := hrel
        have HBR : Hid (Below w.heap.size w wr) := Lib.hid (HB0.out.trans (HB.out.mono HB0.out.size))
        have d1 := (HB.out.cell (p := ⟨w.heap.size, 1, none⟩) (by show w.heap.size < _; omega)).trans c1
        have e1 := (HB.out.cell (p := ⟨w.heap.size + 1, 1, none⟩) hs0).trans k1
        have hq0 : w.heap.size < wr.heap.size := by have := HB.out.size; omega
        have hq1 : w.heap.size + 1 < wr.heap.size := by have := HB.out.size; omega
        by_cases hlt : k < b.tabs.length
        · obtain ⟨bB, off, x, A1, c1', A2, c2', rfl, hbB, hx, hr, g0, g1, g2, g3, g4⟩ := HF.out.tb hlt
          obtain ⟨bC, off2, y, A3, c3', A4, c4', rfl, hbC, hy, hr2, h0, h1, h2, h3, h4⟩ := HF'.out.tb hlt
          obtain rfl : x = y := by rw [hx] at hy; exact Option.some.inj hy
          rw [← HBR.out.cell (p := ⟨bB, _, none⟩) hbB] at g0 g1 g2 g3 g4
          rw [← HBR.out.cell (p := ⟨bC, _, none⟩) hbC] at h0 h1 h2 h3 h4
          have hik : (k : Int) < (b.tabs.length : Int) := by omega
          have hb2 : bB < wr.heap.size := Nat.lt_of_lt_of_le hbB HBR.out.size
          have hb3 : bC < wr.heap.size := Nat.lt_of_lt_of_le hbC HBR.out.size
          have HST := Lib.hid fun w' (hb : Below wr.heap.size wr w') => SameTable_same w' (Rd.below (Rd.below hr HBR.out) hb) (Rd.below (Rd.below hr2 HBR.out) hb) (HJ.out x (List.mem_of_getElem? hx))
          clear hx hy hr hr2
          go_wp2
          refine wp_region_quiet_below (by kernel_rfl) (by kernel_rfl) ?_
          repeat (go_big_quiet_step (with_reducible exact Calls.inBelow HST.out _ _))
          refine wpQuiet_nil ?_
          intro _ hw'
          obtain ⟨⟨dq, osq⟩, hw''⟩ := hw'
          subst hw''
          go_wp2
          go_roundw
          case rel => exact ⟨k + 1, by omega, by go_num, Lib.hid (HB.out.trans ((below_regrown _ _ _).mono HB.out.size))⟩
          case measure => simp [intOf]; omega
        · have hij : ¬ (k : Int) < (b.tabs.length : Int) := by omega
          go_wp2
          go_ret
          exact ⟨rfl, HBR.out⟩

end Go.Proofs.YtlopccnehgolnabGreatDoor
