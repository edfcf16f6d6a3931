
/- The contract of Matches. -/
import Derived.Test.YtlopccnehgolnabDoorTabA
import Derived.Deep.DeepMust
namespace Go.Proofs.YtlopccnehgolnabDoor
open Go.RowKit Rb

theorem cellsHold_at {cs : List Cl} {ns : List Int} {k : Nat} {c : Cl} {n : Int} (hc : cs[k]? = some c) (hn : ns[k]? = some n) :
    cellsHold (cs.drop k) (ns.drop k) = (cellHolds c n && cellsHold (cs.drop (k + 1)) (ns.drop (k + 1))) := by
  rw [drop_cons hc, drop_cons hn]; rfl

set_option maxRecDepth 100000 in
set_option maxHeartbeats 400000 in
theorem Matches_any {S T : Nat → Prop} {v u : Value} {x0 x1 x2 x3 : Value} {rs : List Rl} {ns : List Int} (w : World) (hr : (rSl rRl).rel w S [v] rs) (hn : (rSl rInt).rel w T [u] ns) :
    Calls Tryd.prog 60 #[.agg #[x0, x1, x2, x3, v], u] w fun e w' => ∃ z, e = .returned z ∧ Own rInt 3 w' w.heap.size (fun _ => False) z (matchesL rs ns) ∧ Below w.heap.size w w' := by
  obtain ⟨A, c, rfl, _, _, hl, hE⟩ := rSl.elems hr
  obtain ⟨B, d, rfl, _, _, hm, hF⟩ := rSl.elems hn
  have hl' : rs.length ≤ 4398046511104 := by simp only [rRl] at hl; omega
  have hm' : ns.length ≤ 17592186044416 := by simp only [rInt] at hm; omega
  have hb0 := (Below.refl w.heap.size w).alloc (Nat.le_refl _) (.cells #[x0, x1, x2, x3, .slice A rs.length c] 25)
  clear hr hn hl hm
  go_enter Tryd.func60, Tryd.ntmps60
  go_wp2
  go_loopw [5, 13] (fun o i wr => ∃ k : Nat, k ≤ rs.length ∧ i = .int .i64 k ∧ Own rInt 3 wr w.heap.size (fun _ => False) o (matchesTo rs ns k) ∧ Below w.heap.size w wr) (fun _ i _ => rs.length - (intOf i).toNat)
  case atStart => exact ⟨0, Nat.zero_le _, rfl, Own.nil _ _ _ _ _, hb0⟩
  case round =>
    obtain ⟨k, hk, rfl, hown, hbl⟩ := hrel
    by_cases hlt : k < rs.length
    · obtain ⟨b, off, r, q, rfl, _, hb, hx, _, hq, h1, h2⟩ := hE.rl hlt
      rw [← hbl.cell (p := ⟨b, _, none⟩) hb] at h1 h2
      have hq' := Rd.below hq hbl
      obtain ⟨A2, c2, rfl, _, _, hl2, hE2⟩ := rSl.elems hq'
      have hF' := hF.keep (Keeps.of_below hbl)
      have hsucc := matchesTo_succ rs ns k
      have hh : holdsAt rs ns k = ruleHolds r ns := by unfold holdsAt; rw [hx]
      rw [hh] at hsucc
      have HS := Lib.hid hsucc
      have hol := matchesTo_len rs ns k
      generalize matchesTo rs ns k = out at *
      have hd0 : ruleHolds r ns = (decide (r.cells.length = ns.length) && cellsHold (r.cells.drop 0) (ns.drop 0)) := by
        unfold ruleHolds
        rw [List.drop_zero, List.drop_zero]
        cases h : cellsHold r.cells ns
        · simp
        · rw [cellsHold_len h]; simp
      have hi : (k : Int) < (rs.length : Int) := by omega
      clear hsucc hh hx hq hq' hE
      obtain ⟨W1, e1, hown1, hb1, hE3, hF3, c0, hs1⟩ : ∃ W1, wr.alloc (.cells #[.slice A2 r.cells.length c2, .int .i64 r.out] 43) = W1 ∧ Own rInt 3 W1 w.heap.size (fun _ => False) u5 out ∧ Below w.heap.size w W1 ∧
          Elems rCl W1 S A2 r.cells ∧ Elems rInt W1 T B ns ∧ W1.cell? ⟨wr.heap.size, 0, none⟩ = some (.slice A2 r.cells.length c2) ∧ wr.heap.size < W1.heap.size :=
        ⟨_, rfl, hown.alloc _, hbl.alloc hbl.size _, hE2.keep (.alloc _), hF'.keep (.alloc _), World.cell?_alloc_new _ _ _ _, by simp⟩
      clear hown hF' hE2 hF
      have hdec : ((r.cells.length : Int) == (ns.length : Int)) = decide (r.cells.length = ns.length) := by
        rw [Bool.eq_iff_iff, beq_iff_eq, decide_eq_true_iff]; omega
      go_wp2
      clear e1 hdec h1 h2
      generalize wr.heap.size = q at *
      go_loopw [8, 9] (fun b i wi => ∃ (j : Nat) (ok : Bool), j ≤ ns.length ∧ i = .int .i64 j ∧ b = .bool ok ∧ Hid (ruleHolds r ns = (ok && cellsHold (r.cells.drop j) (ns.drop j))) ∧ (ok = true → r.cells.length = ns.length) ∧ Below W1.heap.size W1 wi) (fun _ i _ => ns.length - (intOf i).toNat)
      case atStart => exact ⟨0, _, Nat.zero_le _, rfl, rfl, Lib.hid hd0, fun h => of_decide_eq_true h, Below.refl _ _⟩
      case round =>
        obtain ⟨j, ok, hj, rfl, rfl, HJ, hok, hbi⟩ := hrel
        cases ok
        · have HJ' : Hid (ruleHolds r ns = false) := Lib.hid (by rw [HJ.out]; rfl)
          clear HJ hok hd0
          have HS' : Hid (matchesTo rs ns (k + 1) = out) := Lib.hid (by rw [HS.out, HJ'.out]; simp)
          go_wp2
          go_roundw
          case rel => exact ⟨k + 1, by omega, by go_num, by rw [HS'.out]; exact hown1.below hbi, hb1.trans (hbi.mono hb1.size)⟩
          case measure => simp [intOf]; omega
        · have hlen := hok rfl
          have HL := Lib.hid hlen
          by_cases hlj : j < ns.length
          · obtain ⟨b1, off1, cl, q1, rfl, _, hb2, hx1, hq1, g1, g2⟩ := hE3.cl (show j < r.cells.length by omega)
            obtain ⟨b3, off3, n, rfl, _, hb4, hx3, _, g3⟩ := hF3.intAt hlj
            rw [← hbi.cell (p := ⟨b1, _, none⟩) hb2] at g1 g2
            rw [← hbi.cell (p := ⟨b3, _, none⟩) hb4] at g3
            have g0 := c0
            rw [← hbi.cell (p := ⟨q, _, none⟩) hs1] at g0
            have hq2 := Rd.below hq1 hbi
            have HC := Lib.hid fun w' hb => Holds_any n w' (Rd.below hq2 hb)
            have HN : Hid (ruleHolds r ns = (cellHolds cl n && cellsHold (r.cells.drop (j + 1)) (ns.drop (j + 1)))) := Lib.hid (by
              rw [HJ.out, Bool.true_and]; exact cellsHold_at hx1 hx3)
            obtain ⟨A5, c5, rfl, _⟩ := rSl.elems hq1
            have hbb1 : b1 < wr.heap.size := Nat.lt_of_lt_of_le hb2 hbi.size
            have hbb3 : b3 < wr.heap.size := Nat.lt_of_lt_of_le hb4 hbi.size
            have hbb0 : q < wr.heap.size := Nat.lt_of_lt_of_le hs1 hbi.size
            have hj1 : (j : Int) < (r.cells.length : Int) := by omega
            have hj2 : (j : Int) < (ns.length : Int) := by omega
            clear HJ hok hlen hd0 hx1 hx3 hq1 hq2 hE3 hF3 c0
            go_wp2
            refine wp_region_quiet_below (by kernel_rfl) (by kernel_rfl) ?_
            repeat (go_big_quiet_step (exact Calls.inBelow HC.out _ _))
            refine wpQuiet_nil ?_
            intro _ hw'
            obtain ⟨⟨dq, osq⟩, hw''⟩ := hw'
            subst hw''
            go_wp2
            go_roundw
            case rel => exact ⟨j + 1, _, by omega, by go_num, rfl, HN, fun _ => HL.out, hbi.trans ((below_regrown _ _ _).mono hbi.size)⟩
            case measure => simp [intOf]; omega
          · have HJ' : Hid (ruleHolds r ns = true) := Lib.hid (by
              rw [HJ.out, List.drop_eq_nil_of_le (by omega), List.drop_eq_nil_of_le (by omega)]; rfl)
            have HS' : Hid (matchesTo rs ns (k + 1) = out ++ [(k : Int)]) := Lib.hid (by rw [HS.out, HJ'.out]; simp)
            have hin : InI (k : Int) := by unfold InI; omega
            have hownS := hown1.below hbi
            have hbS := hb1.trans (hbi.mono hb1.size)
            clear HJ hok hlen hd0 HL hE3 hF3 c0 hown1
            go_wp2_with (first | (at_builtin; go_must (refine wpList_append_new (R := rInt) (x := (k : Int)) el_I rfl (.tmp 44) (.tmp 46) rfl rfl hownS [.int .i64 k] rfl rfl (fun _ => False) ⟨rfl, hin⟩ (fun _ h => h.elim) ?_ hbS.size ?_; (((try simp only [rInt]) <;> omega)); intro v9 w9 hown9 hb9 _ _)))
            go_roundw
            case rel => exact ⟨k + 1, by omega, by go_num, by rw [HS'.out]; exact hown9, hbS.trans hb9⟩
            case measure => simp [intOf]; omega
    · obtain ⟨z1, z2, rfl⟩ := hown.value
      go_wp2
      go_ret
      refine ⟨_, rfl, ?_, hbl⟩
      have : k = rs.length := by omega
      subst this
      exact hown

end Go.Proofs.YtlopccnehgolnabDoor
