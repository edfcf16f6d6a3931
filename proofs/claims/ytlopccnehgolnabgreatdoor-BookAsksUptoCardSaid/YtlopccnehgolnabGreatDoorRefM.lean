
/- The contract of the reference's MatchesOf. -/
import Derived.Test.YtlopccnehgolnabGreatDoorGrG
import Derived.Deep.DeepMust
import Derived.WalkMore
namespace Go.Proofs.YtlopccnehgolnabGreatDoor
open Go.RowKit Rb

theorem CellHolds_b {S : Nat → Prop} {v : Value} {c : Cl} {n : Int} {r : Bool} (w : World) (hl : (rSl rRg).rel w S [v] c.rs) (h : cellHolds c n = r) :
    Calls Tryz.prog 121 #[.agg #[.bool c.no, v], .int .i64 n] w fun e w' => e = .returned (.bool r) ∧ Below w.heap.size w w' := h ▸ CellHolds_any n w hl

set_option maxRecDepth 100000 in
set_option maxHeartbeats 400000 in
theorem MatchesOf_any {S T : Nat → Prop} {v u : Value} {x0 x1 x2 x3 : Value} {rs : List Rl} {ns : List Int} (w : World) (hr : (rSl rRl).rel w S [v] rs) (hn : (rSl rInt).rel w T [u] ns) :
    Calls Tryz.prog 60 #[.agg #[x0, x1, x2, x3, v], u] w fun e w' => ∃ z, e = .returned z ∧ Own rInt 3 w' w.heap.size (fun _ => False) z (matchesL rs ns) ∧ Below w.heap.size w w' := by
  obtain ⟨A, c, rfl, _, _, hl, hE⟩ := rSl.elems hr
  obtain ⟨B, d, rfl, _, _, hm, hF⟩ := rSl.elems hn
  have hl' : rs.length ≤ 4398046511104 := by simp only [rRl] at hl; omega
  have hm' : ns.length ≤ 17592186044416 := by simp only [rInt] at hm; omega
  have hb0 := (Below.refl w.heap.size w).alloc (Nat.le_refl _) (.cells #[x0, x1, x2, x3, .slice A rs.length c] 42)
  clear hr hn hl hm
  go_enter Tryz.func60, Tryz.ntmps60
  go_wp2
  go_step3
  go_wp2
  go_step3
  go_wp2
  go_loopw [5, 13] (fun o i wr => ∃ k : Nat, k ≤ rs.length ∧ i = .int .i64 k ∧ Own rInt 3 wr w.heap.size (fun _ => False) o (matchesTo rs ns k) ∧ Below w.heap.size w wr) (fun _ i _ => rs.length - (intOf i).toNat)
  case atStart => exact ⟨0, Nat.zero_le _, rfl, Own.nil _ _ _ _ _, hb0⟩
  case round =>
    obtain ⟨k, hk, rfl, hown, hbl⟩ := hrel
    by_cases hlt : k < rs.length
    · obtain ⟨b, off, r, q, rfl, _, hb, hx, _, hq, h1, h2⟩ := hE.rl hlt
      rw [← hbl.cell (p := ⟨b, _, none⟩) hb] at h1 h2
      have hq' := Rd.below hq hbl
      obtain ⟨A2, c2, rfl, _, _, hl2, hE2⟩ := rSl.elems hq'
      have hF' := hF.keep (Keeps.of_below hbl)
      have hsucc := matchesTo_succ rs ns k
      have hh : holdsAt rs ns k = ruleHolds r ns := by unfold holdsAt; rw [hx]
      rw [hh] at hsucc
      have HS := Lib.hid hsucc
      have hol := matchesTo_len rs ns k
      generalize matchesTo rs ns k = out at *
      have hd0 : ruleHolds r ns = cellsHold (r.cells.drop 0) (ns.drop 0) := rfl
      have hi : (k : Int) < (rs.length : Int) := by omega
      have hrl : r.cells.length ≤ 4398046511104 := by simp only [rCl] at hl2; omega
      clear hsucc hh hx hq hq' hE hl2
      obtain ⟨W1, e1, hown1, hb1, hE3, hF3, c0, hs1⟩ : ∃ W1, wr.alloc (.cells #[.slice A2 r.cells.length c2, .int .i64 r.out] 93) = W1 ∧ Own rInt 3 W1 w.heap.size (fun _ => False) u5 out ∧ Below w.heap.size w W1 ∧
          Elems rCl W1 S A2 r.cells ∧ Elems rInt W1 T B ns ∧ W1.cell? ⟨wr.heap.size, 0, none⟩ = some (.slice A2 r.cells.length c2) ∧ wr.heap.size < W1.heap.size :=
        ⟨_, rfl, hown.alloc _, hbl.alloc hbl.size _, hE2.keep (.alloc _), hF'.keep (.alloc _), World.cell?_alloc_new _ _ _ _, by simp⟩
      clear hown hF' hE2 hF
      by_cases hlen : r.cells.length = ns.length
      case neg =>
        have hne : ((r.cells.length : Int) != (ns.length : Int)) = true := by rw [bne_iff_ne]; omega
        have HJ' : Hid (ruleHolds r ns = false) := Lib.hid (by
          cases h : ruleHolds r ns
          · rfl
          · exact absurd (cellsHold_len h) hlen)
        have HS' : Hid (matchesTo rs ns (k + 1) = out) := Lib.hid (by rw [HS.out, HJ'.out]; simp)
        clear hlen
        go_wp2
        go_roundw
        case rel => exact ⟨k + 1, by omega, by go_num, by rw [HS'.out]; exact hown1, hb1⟩
        case measure => simp [intOf]; omega
      have hne : ((r.cells.length : Int) != (ns.length : Int)) = false := by rw [bne_eq_false_iff_eq]; omega
      have HL := Lib.hid hlen
      clear hlen
      go_wp2
      clear e1 hne h1 h2
      generalize wr.heap.size = q at *
      go_loopw [27] (fun i wi => ∃ j : Nat, j ≤ r.cells.length ∧ i = .int .i64 j ∧ Hid (ruleHolds r ns = cellsHold (r.cells.drop j) (ns.drop j)) ∧ Below W1.heap.size W1 wi) (fun i _ => r.cells.length - (intOf i).toNat)
      case atStart => exact ⟨0, Nat.zero_le _, rfl, Lib.hid hd0, Below.refl _ _⟩
      case round =>
        obtain ⟨j, hj, rfl, HJ, hbi⟩ := hrel
        by_cases hlj : j < r.cells.length
        · have hlj2 : j < ns.length := by have := HL.out; omega
          obtain ⟨b1, off1, cl, q1, rfl, _, hb2, hx1, hq1, g1, g2⟩ := hE3.cl hlj
          obtain ⟨b3, off3, n, rfl, _, hb4, hx3, _, g3⟩ := hF3.intAt hlj2
          rw [← hbi.cell (p := ⟨b1, _, none⟩) hb2] at g1 g2
          rw [← hbi.cell (p := ⟨b3, _, none⟩) hb4] at g3
          have hq2 := Rd.below hq1 hbi
          obtain ⟨A5, c5, rfl, _⟩ := rSl.elems hq1
          have HN : Hid (ruleHolds r ns = (cellHolds cl n && cellsHold (r.cells.drop (j + 1)) (ns.drop (j + 1)))) := Lib.hid (by rw [HJ.out]; exact cellsHold_at hx1 hx3)
          have hj1 : (j : Int) < (r.cells.length : Int) := by omega
          have hj2 : (j : Int) < (ns.length : Int) := by omega
          obtain ⟨W2, e2, hb2w, f0, f1, f3, hR2, HW2⟩ : ∃ W2, wr.alloc (.cells #[.bool cl.no, .slice A5 cl.rs.length c5] 97) = W2 ∧ Below W1.heap.size W1 W2 ∧ W2.cell? ⟨wr.heap.size, 0, none⟩ = some (.bool cl.no) ∧ W2.cell? ⟨wr.heap.size, 1, none⟩ = some (.slice A5 cl.rs.length c5) ∧ W2.cell? ⟨b3, off3 + j, none⟩ = some (.int .i64 n) ∧ (rSl rRg).rel W2 S [.slice A5 cl.rs.length c5] cl.rs ∧ (wr.heap.size < W2.heap.size ∧ b3 < W2.heap.size) :=
            ⟨_, rfl, hbi.alloc hbi.size _, World.cell?_alloc_new _ _ _ _, World.cell?_alloc_new _ _ _ _, (World.cell?_alloc_lt _ _ _ (Nat.lt_of_lt_of_le hb4 hbi.size)).trans g3, Rd.alloc hq2 _, by simp, by have := hbi.size; simp; omega⟩
          obtain ⟨hwa, hwb⟩ := HW2
          cases hch : cellHolds cl n
          · have HCB := Lib.hid hch
            have HC := Lib.hid fun w' (hb : Below W2.heap.size W2 w') => CellHolds_b w' (Rd.below hR2 hb) HCB.out
            rw [hch] at HN
            clear hch
            go_wp2
            refine wp_region_quiet_below (by kernel_rfl) (by kernel_rfl) ?_
            repeat (go_big_quiet_step (exact Calls.inBelow HC.out _ _))
            refine wpQuiet_nil ?_
            intro _ hw'
            obtain ⟨⟨dq, osq⟩, hw''⟩ := hw'
            subst hw''
            go_wp2
            go_roundw
            case rel =>
              have HS' : Hid (matchesTo rs ns (k + 1) = out) := Lib.hid (by rw [HS.out, HN.out]; simp)
              exact ⟨k + 1, by omega, by go_num, by rw [HS'.out]; exact hown1.below (hb2w.trans ((below_regrown _ _ _).mono hb2w.size)), hb1.trans ((hb2w.trans ((below_regrown _ _ _).mono hb2w.size)).mono hb1.size)⟩
            case measure => simp [intOf]; omega
          · have HCB := Lib.hid hch
            have HC := Lib.hid fun w' (hb : Below W2.heap.size W2 w') => CellHolds_b w' (Rd.below hR2 hb) HCB.out
            rw [hch] at HN
            clear hch
            go_wp2
            refine wp_region_quiet_below (by kernel_rfl) (by kernel_rfl) ?_
            repeat (go_big_quiet_step (exact Calls.inBelow HC.out _ _))
            refine wpQuiet_nil ?_
            intro _ hw'
            obtain ⟨⟨dq, osq⟩, hw''⟩ := hw'
            subst hw''
            go_wp2
            go_roundw
            case rel =>
              exact ⟨j + 1, by omega, by go_num, Lib.hid (by rw [HN.out]; rfl), hb2w.trans ((below_regrown _ _ _).mono hb2w.size)⟩
            case measure => simp [intOf]; omega
        · have HJ' : Hid (ruleHolds r ns = true) := Lib.hid (by
            rw [HJ.out, List.drop_eq_nil_of_le (by omega), List.drop_eq_nil_of_le (by have := HL.out; omega)]; rfl)
          have HS' : Hid (matchesTo rs ns (k + 1) = out ++ [(k : Int)]) := Lib.hid (by rw [HS.out, HJ'.out]; simp)
          have hin : InI (k : Int) := by unfold InI; omega
          have hownS := hown1.below hbi
          have hbS := hb1.trans (hbi.mono hb1.size)
          clear HJ HL hE3 hF3 c0 hown1
          go_wp2_with (first | (at_builtin; go_must (refine wpList_append_new (R := rInt) (x := (k : Int)) el_I rfl (.tmp 40) (.tmp 42) rfl rfl hownS [.int .i64 k] rfl rfl (fun _ => False) ⟨rfl, hin⟩ (fun _ h => h.elim) ?_ hbS.size ?_; (((try simp only [rInt]) <;> omega)); intro v9 w9 hown9 hb9 _ _)))
          go_roundw
          case rel => exact ⟨k + 1, by omega, by go_num, by rw [HS'.out]; exact hown9, hbS.trans hb9⟩
          case measure => simp [intOf]; omega
    · obtain ⟨z1, z2, rfl⟩ := hown.value
      go_wp2
      rw [Exit.noGoto_ret]
      go_ret
      refine ⟨_, rfl, ?_, hbl⟩
      have : k = rs.length := by omega
      subst this
      exact hown

end Go.Proofs.YtlopccnehgolnabGreatDoor
