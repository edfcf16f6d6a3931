
/- The law's own helper: a table is the same as itself, read in two ways. -/
import Derived.Test.YtlopccnehgolnabDoorTxtT
namespace Go.Proofs.YtlopccnehgolnabDoor
open Go.RowKit Rb

theorem sameW {S S' : Nat → Prop} {v u : Value} (l : List Rg) (w : World) (h : (rSl rRg).rel w S [v] l) (h' : (rSl rRg).rel w S' [u] l) :
    Calls Tryd.prog 29 #[v, u] w fun e w' => e = .returned (.bool true) ∧ Below w.heap.size w w' := by
  obtain ⟨A, c, rfl, _, _, _, hE⟩ := rSl.elems h
  obtain ⟨B, d, rfl, _, _, hby, hF⟩ := rSl.elems h'
  have hln : l.length ≤ 8796093022208 := by simp only [rRg] at hby; omega
  have HE := Lib.hid hE
  have HF := Lib.hid hF
  clear h h' hE hF hby
  go_enter Tryd.func29, Tryd.ntmps29
  go_wp2
  go_loopw [13] (fun i wr => ∃ k : Nat, k ≤ l.length ∧ i = .int .i64 k ∧ Hid (Below w.heap.size w wr)) (fun i _ => l.length - (intOf i).toNat)
  case atStart => exact ⟨0, Nat.zero_le _, rfl, Lib.hid (Below.refl _ _)⟩
  case round =>
    obtain ⟨k, hk, rfl, HB⟩ := hrel
    by_cases hlt : k < l.length
    · obtain ⟨b1, o1, lo, up, rfl, _, hb1, hx, _, _, g0, g1⟩ := HE.out.rg hlt
      obtain ⟨b2, o2, lo', up', rfl, _, hb2, hx', _, _, h0, h1⟩ := HF.out.rg hlt
      obtain ⟨rfl, rfl⟩ : lo = lo' ∧ up = up' := by rw [hx] at hx'; simpa using hx'
      rw [← HB.out.cell (p := ⟨b1, _, none⟩) hb1] at g0 g1
      rw [← HB.out.cell (p := ⟨b2, _, none⟩) hb2] at h0 h1
      have hik : (k : Int) < (l.length : Int) := by omega
      clear hx hx'
      go_wp2
      go_region
      all_goals
        go_wp2
        go_roundw
        case rel => exact ⟨k + 1, by omega, by go_num, Lib.hid HB.out.drew⟩
        case measure => simp [intOf]; omega
    · have hik : ¬ (k : Int) < (l.length : Int) := by omega
      go_wp2
      go_ret
      exact ⟨rfl, HB.out⟩

theorem cell_newN (w : World) (vs : Array Value) (t : TypeId) (i : Nat) {n : Nat} (hn : w.heap.size = n) : (w.alloc (.cells vs t)).cell? ⟨n, i, none⟩ = vs[i]? := by
  subst hn
  exact World.cell?_alloc_new _ _ _ _

set_option maxRecDepth 100000 in
set_option maxHeartbeats 6400000 in
theorem sameTb_eq {S S' : Nat → Prop} {cs cs' : List Value} (t : Tb) (w : World) (hl : rTb.rel w S cs t) (hl' : rTb.rel w S' cs' t) :
    Calls Tryd.prog 8 #[.agg cs.toArray, .agg cs'.toArray] w fun e w' => e = .returned (.bool true) ∧ Below w.heap.size w w' := by
  obtain ⟨vi, vr, rfl, _, _, hi, hr⟩ := hl
  obtain ⟨vi', vr', rfl, _, _, hi', hr'⟩ := hl'
  obtain ⟨A, c, rfl, _, _, hby, hE⟩ := rSl.elems hi
  obtain ⟨B, d, rfl, _, _, hby2, hF⟩ := rSl.elems hr
  obtain ⟨A', c', rfl, _, _, _, hE'⟩ := rSl.elems hi'
  obtain ⟨B', d', rfl, _, _, _, hF'⟩ := rSl.elems hr'
  obtain ⟨nm, pol, comp, ins, rules⟩ := t
  dsimp only at *
  have hin : ins.length ≤ 8796093022208 := by simp only [rStr] at hby; omega
  have hrn : rules.length ≤ 8796093022208 := by simp only [rRl] at hby2; omega
  have HE := Lib.hid hE
  have HF := Lib.hid hF
  have HE' := Lib.hid hE'
  have HF' := Lib.hid hF'
  obtain ⟨W0, e0, HB0, c0, c1, c2, c3, c4, d0, d1, d2, d3, d4, HS1⟩ : ∃ W0, (w.alloc (.cells #[.string ⟨nm.toArray⟩, .int .i64 pol, .bool comp, .slice A ins.length c, .slice B rules.length d] 25)).alloc (.cells #[.string ⟨nm.toArray⟩, .int .i64 pol, .bool comp, .slice A' ins.length c', .slice B' rules.length d'] 25) = W0 ∧ Hid (Below w.heap.size w W0) ∧
      W0.cell? ⟨w.heap.size, 0, none⟩ = some (.string ⟨nm.toArray⟩) ∧ W0.cell? ⟨w.heap.size, 1, none⟩ = some (.int .i64 pol) ∧ W0.cell? ⟨w.heap.size, 2, none⟩ = some (.bool comp) ∧ W0.cell? ⟨w.heap.size, 3, none⟩ = some (.slice A ins.length c) ∧ W0.cell? ⟨w.heap.size, 4, none⟩ = some (.slice B rules.length d) ∧
      W0.cell? ⟨w.heap.size + 1, 0, none⟩ = some (.string ⟨nm.toArray⟩) ∧ W0.cell? ⟨w.heap.size + 1, 1, none⟩ = some (.int .i64 pol) ∧ W0.cell? ⟨w.heap.size + 1, 2, none⟩ = some (.bool comp) ∧ W0.cell? ⟨w.heap.size + 1, 3, none⟩ = some (.slice A' ins.length c') ∧ W0.cell? ⟨w.heap.size + 1, 4, none⟩ = some (.slice B' rules.length d') ∧ Hid (w.heap.size + 1 < W0.heap.size) := by
    refine ⟨_, rfl, Lib.hid (((Below.refl _ _).alloc (Nat.le_refl _) _).alloc (by simp) _), ?_, ?_, ?_, ?_, ?_, ?_, ?_, ?_, ?_, ?_, Lib.hid (by simp)⟩
    all_goals first
      | (refine (Below.cell (B := w.heap.size + 1) (Below.alloc (Below.refl _ _) (by simp) _) (Nat.lt_succ_self _)).trans ?_; exact World.cell?_alloc_new _ _ _ _)
      | exact cell_newN _ _ _ _ (by simp)
  clear hi hr hi' hr' hE hF hE' hF' hby hby2
  go_enter Tryd.func8, Tryd.ntmps8
  go_wp2
  clear e0
  go_loopw [50] (fun i wr => ∃ k : Nat, k ≤ ins.length ∧ i = .int .i64 k ∧ Hid (Below W0.heap.size W0 wr)) (fun i _ => ins.length - (intOf i).toNat)
  case atStart => exact ⟨0, Nat.zero_le _, rfl, Lib.hid (Below.refl _ _)⟩
  case round =>
    obtain ⟨k, hk, rfl, HB⟩ := hrel
    have k3 := (HB.out.cell (p := ⟨w.heap.size, 3, none⟩) (Nat.lt_of_succ_lt HS1.out)).trans c3
    have l3 := (HB.out.cell (p := ⟨w.heap.size + 1, 3, none⟩) HS1.out).trans d3
    have k4 := (HB.out.cell (p := ⟨w.heap.size, 4, none⟩) (Nat.lt_of_succ_lt HS1.out)).trans c4
    have l4 := (HB.out.cell (p := ⟨w.heap.size + 1, 4, none⟩) HS1.out).trans d4
    have HBW : Hid (Below w.heap.size w wr) := Lib.hid (HB0.out.trans (HB.out.mono HB0.out.size))
    clear c0 c1 c2 c3 c4 d0 d1 d2 d3 d4
    by_cases hlt : k < ins.length
    · obtain ⟨b1, o1, s1, rfl, _, hb1, hx, _, g0⟩ := HE.out.str hlt
      obtain ⟨b2, o2, s2, rfl, _, hb2, hx', _, h0⟩ := HE'.out.str hlt
      obtain rfl : s1 = s2 := by rw [hx] at hx'; exact Option.some.inj hx'
      rw [← HBW.out.cell (p := ⟨b1, _, none⟩) hb1] at g0
      rw [← HBW.out.cell (p := ⟨b2, _, none⟩) hb2] at h0
      have hik : (k : Int) < (ins.length : Int) := by omega
      clear hx hx' k4 l4
      go_wp2
      go_region
      all_goals
        go_wp2
        go_roundw
        case rel => exact ⟨k + 1, by omega, by go_num, Lib.hid HB.out.drew⟩
        case measure => simp [intOf]; omega
    · have hik : ¬ (k : Int) < (ins.length : Int) := by omega
      clear k3 l3 hlt hk
      go_wp2
      have HSZ := Lib.hid HB.out.size
      generalize hwr : wr = W1 at *
      clear hwr hik
      go_loopw [68] (fun i wr => ∃ k : Nat, k ≤ rules.length ∧ i = .int .i64 k ∧ Hid (Below W0.heap.size W1 wr)) (fun i _ => rules.length - (intOf i).toNat)
      case atStart => exact ⟨0, Nat.zero_le _, rfl, Lib.hid (Below.refl _ _)⟩
      case round =>
        obtain ⟨k, hk, rfl, HB2⟩ := hrel
        have p4 := (HB2.out.cell (p := ⟨w.heap.size + 1, 4, none⟩) HS1.out).trans l4
        have HBX : Hid (Below w.heap.size w wr) := Lib.hid (HBW.out.trans (HB2.out.mono HB0.out.size))
        have HS2 : Hid (w.heap.size + 1 < wr.heap.size) := Lib.hid (Nat.lt_of_lt_of_le HS1.out (Nat.le_trans HB.out.size HB2.out.size))
        by_cases hlt : k < rules.length
        · obtain ⟨b1, o1, r, v1, rfl, _, hb1, hx, _, hrc, g0, g1⟩ := HF.out.rl hlt
          obtain ⟨b2, o2, r', v2, rfl, _, hb2, hx', _, hrc', h0, h1⟩ := HF'.out.rl hlt
          obtain rfl : r = r' := by rw [hx] at hx'; exact Option.some.inj hx'
          obtain ⟨C, cc, rfl, _, _, hbc, hEC⟩ := rSl.elems hrc
          obtain ⟨C', cc', rfl, _, _, _, hEC'⟩ := rSl.elems hrc'
          have hcn : r.cells.length ≤ 8796093022208 := by simp only [rCl] at hbc; omega
          have HEC := Lib.hid hEC
          have HEC' := Lib.hid hEC'
          rw [← HBX.out.cell (p := ⟨b1, _, none⟩) hb1] at g0 g1
          have hik : (k : Int) < (rules.length : Int) := by omega
          obtain ⟨W3, e3, HB3, j0, j1, hs3⟩ : ∃ W3, wr.alloc (.cells #[.slice C r.cells.length cc, .int .i64 r.out] 43) = W3 ∧ Hid (Below wr.heap.size wr W3) ∧ W3.cell? ⟨wr.heap.size, 0, none⟩ = some (.slice C r.cells.length cc) ∧ W3.cell? ⟨wr.heap.size, 1, none⟩ = some (.int .i64 r.out) ∧ Hid (wr.heap.size < W3.heap.size) :=
            ⟨_, rfl, Lib.hid ((Below.refl _ _).alloc (Nat.le_refl _) _), World.cell?_alloc_new _ _ _ _, World.cell?_alloc_new _ _ _ _, Lib.hid (by simp)⟩
          have HBX3 : Hid (Below w.heap.size w W3) := Lib.hid (HBX.out.trans (HB3.out.mono HBX.out.size))
          rw [← HBX3.out.cell (p := ⟨b2, _, none⟩) hb2] at h0 h1
          have q4 := (HB3.out.cell (p := ⟨w.heap.size + 1, 4, none⟩) HS2.out).trans p4
          have HS3 : Hid (w.heap.size + 1 < W3.heap.size) := Lib.hid (Nat.lt_trans HS2.out hs3.out)
          have HB03 : Hid (Below W0.heap.size W1 W3) := Lib.hid (HB2.out.trans (HB3.out.mono (Nat.le_trans HB.out.size HB2.out.size)))
          have HB2' := Lib.hid hb2
          clear hx hx' hrc hrc' hEC hEC' hbc hb1 hb2
          go_wp2
          clear e3
          go_region
          all_goals
            generalize hn8 : wr.heap.size = n8 at *
            clear hn8 g0 g1
            go_wp2
            go_loopw [98] (fun i wr => ∃ j : Nat, j ≤ r.cells.length ∧ i = .int .i64 j ∧ Hid (Below W3.heap.size W3 wr)) (fun i _ => r.cells.length - (intOf i).toNat)
            case atStart => exact ⟨0, Nat.zero_le _, rfl, Lib.hid (Below.refl _ _).drew⟩
            case round =>
              obtain ⟨j, hj, rfl, HBJ⟩ := hrel
              have HBY : Hid (Below w.heap.size w wr) := Lib.hid (HBX3.out.trans (HBJ.out.mono HBX3.out.size))
              by_cases hlj : j < r.cells.length
              · obtain ⟨b3, o3, cl, v3, rfl, _, hb3, hx, hcr, z0, z1⟩ := HEC.out.cl hlj
                obtain ⟨b4, o4, cl', v4, rfl, _, hb4, hx', hcr', y0, y1⟩ := HEC'.out.cl hlj
                obtain rfl : cl = cl' := by rw [hx] at hx'; exact Option.some.inj hx'
                rw [← HBY.out.cell (p := ⟨b3, _, none⟩) hb3] at z0 z1
                obtain ⟨D, cd, rfl, _⟩ := rSl.elems hcr
                obtain ⟨D', cd', rfl, _⟩ := rSl.elems hcr'
                have HCR := Lib.hid hcr
                have HCR' := Lib.hid hcr'
                have hjk : (j : Int) < (r.cells.length : Int) := by omega
                obtain ⟨W5, e5, HB5, x0, x1, hs5⟩ : ∃ W5, wr.alloc (.cells #[.bool cl.no, .slice D cl.rs.length cd] 53) = W5 ∧ Hid (Below W3.heap.size W3 W5) ∧ W5.cell? ⟨wr.heap.size, 0, none⟩ = some (.bool cl.no) ∧ W5.cell? ⟨wr.heap.size, 1, none⟩ = some (.slice D cl.rs.length cd) ∧ wr.heap.size < W5.heap.size :=
                  ⟨_, rfl, Lib.hid (HBJ.out.alloc HBJ.out.size _), World.cell?_alloc_new _ _ _ _, World.cell?_alloc_new _ _ _ _, by simp⟩
                have HBZ : Hid (Below w.heap.size w W5) := Lib.hid (HBX3.out.trans (HB5.out.mono HBX3.out.size))
                rw [← HBZ.out.cell (p := ⟨b4, _, none⟩) hb4] at y0 y1
                have t4 := (HB5.out.cell (p := ⟨w.heap.size + 1, 4, none⟩) HS3.out).trans q4
                have t0 := (HB5.out.cell (p := ⟨b2, o2 + k * 2, none⟩) (Nat.lt_of_lt_of_le HB2'.out HBX3.out.size)).trans h0
                have HSM : Hid (∀ w', Below W5.heap.size W5 w' → Calls Tryd.prog 29 #[.slice D cl.rs.length cd, .slice D' cl.rs.length cd'] w' fun e w'' => e = .returned (.bool true) ∧ Below w'.heap.size w' w'') := Lib.hid fun w' hb => sameW cl.rs w' (Rd.below HCR.out (HBZ.out.trans (hb.mono HBZ.out.size))) (Rd.below HCR'.out (HBZ.out.trans (hb.mono HBZ.out.size)))
                have r1 : w.heap.size + 1 < W5.heap.size := Nat.lt_of_lt_of_le HS3.out HB5.out.size
                have r2 : b2 < W5.heap.size := Nat.lt_of_lt_of_le HB2'.out HBZ.out.size
                have r3 : b4 < W5.heap.size := Nat.lt_of_lt_of_le hb4 HBZ.out.size
                clear hx hx' hcr hcr' hb3 hb4 q4 h0 h1 j0 j1 p4
                go_wp2
                clear e5
                refine wp_region_quiet_below (by kernel_rfl) (by kernel_rfl) ?_
                repeat (go_big_quiet_step (first | with_reducible exact Calls.inBelow HSM.out _ _))
                refine wpQuiet_nil ?_
                intro _ hw'
                obtain ⟨⟨dq, osq⟩, hw''⟩ := hw'
                subst hw''
                go_wp2
                go_roundw
                case rel => exact ⟨j + 1, by omega, by go_num, Lib.hid (HB5.out.trans ((below_regrown _ _ _).mono HB5.out.size))⟩
                case measure => simp [intOf]; omega
              · have hjk : ¬ (j : Int) < (r.cells.length : Int) := by omega
                clear hlj hj
                go_wp2
                go_roundw
                case rel => exact ⟨k + 1, by omega, by go_num, Lib.hid (HB03.out.trans (HBJ.out.mono (Nat.le_trans HB.out.size HB03.out.size)))⟩
                case measure => simp [intOf]; omega
        · have hik : ¬ (k : Int) < (rules.length : Int) := by omega
          go_wp2
          go_ret
          exact ⟨rfl, HBX.out⟩

end Go.Proofs.YtlopccnehgolnabDoor
