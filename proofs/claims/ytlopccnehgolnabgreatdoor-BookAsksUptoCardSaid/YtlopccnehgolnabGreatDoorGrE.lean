/- The contract of Matches. The contract of Good of tables. The contract of Says. The plain law of TableOrder: but for First, what a table says does not hang on the order of its rules. What a table says, by the reference's road: least, greatest and sum of the outs that hold. Plain, no program. -/
import Derived.Test.YtlopccnehgolnabGreatDoorTabA
import Derived.Deep.DeepMust
namespace Go.Proofs.YtlopccnehgolnabGreatDoor
open Go.RowKit Rb

theorem cellsHold_at {cs : List Cl} {ns : List Int} {k : Nat} {c : Cl} {n : Int} (hc : cs[k]? = some c) (hn : ns[k]? = some n) :
    cellsHold (cs.drop k) (ns.drop k) = (cellHolds c n && cellsHold (cs.drop (k + 1)) (ns.drop (k + 1))) := by
  rw [drop_cons hc, drop_cons hn]; rfl

set_option maxRecDepth 100000 in
set_option maxHeartbeats 400000 in
theorem Matches_any {S T : Nat → Prop} {v u : Value} {x0 x1 x2 x3 : Value} {rs : List Rl} {ns : List Int} (w : World) (hr : (rSl rRl).rel w S [v] rs) (hn : (rSl rInt).rel w T [u] ns) :
    Calls Tryz.prog 13 #[.agg #[x0, x1, x2, x3, v], u] w fun e w' => ∃ z, e = .returned z ∧ Own rInt 3 w' w.heap.size (fun _ => False) z (matchesL rs ns) ∧ Below w.heap.size w w' := by
  obtain ⟨A, c, rfl, _, _, hl, hE⟩ := rSl.elems hr
  obtain ⟨B, d, rfl, _, _, hm, hF⟩ := rSl.elems hn
  have hl' : rs.length ≤ 4398046511104 := by simp only [rRl] at hl; omega
  have hm' : ns.length ≤ 17592186044416 := by simp only [rInt] at hm; omega
  have hb0 := (Below.refl w.heap.size w).alloc (Nat.le_refl _) (.cells #[x0, x1, x2, x3, .slice A rs.length c] 42)
  clear hr hn hl hm
  go_enter Tryz.func13, Tryz.ntmps13
  go_wp2
  go_loopw [5, 13] (fun o i wr => ∃ k : Nat, k ≤ rs.length ∧ i = .int .i64 k ∧ Own rInt 3 wr w.heap.size (fun _ => False) o (matchesTo rs ns k) ∧ Below w.heap.size w wr) (fun _ i _ => rs.length - (intOf i).toNat)
  case atStart => exact ⟨0, Nat.zero_le _, rfl, Own.nil _ _ _ _ _, hb0⟩
  case round =>
    obtain ⟨k, hk, rfl, hown, hbl⟩ := hrel
    by_cases hlt : k < rs.length
    · obtain ⟨b, off, r, q, rfl, _, hb, hx, _, hq, h1, h2⟩ := hE.rl hlt
      rw [← hbl.cell (p := ⟨b, _, none⟩) hb] at h1 h2
      have hq' := Rd.below hq hbl
      obtain ⟨A2, c2, rfl, _, _, hl2, hE2⟩ := rSl.elems hq'
      have hF' := hF.keep (Keeps.of_below hbl)
      have hsucc := matchesTo_succ rs ns k
      have hh : holdsAt rs ns k = ruleHolds r ns := by unfold holdsAt; rw [hx]
      rw [hh] at hsucc
      have HS := Lib.hid hsucc
      have hol := matchesTo_len rs ns k
      generalize matchesTo rs ns k = out at *
      have hd0 : ruleHolds r ns = (decide (r.cells.length = ns.length) && cellsHold (r.cells.drop 0) (ns.drop 0)) := by
        unfold ruleHolds
        rw [List.drop_zero, List.drop_zero]
        cases h : cellsHold r.cells ns
        · simp
        · rw [cellsHold_len h]; simp
      have hi : (k : Int) < (rs.length : Int) := by omega
      clear hsucc hh hx hq hq' hE
      obtain ⟨W1, e1, hown1, hb1, hE3, hF3, c0, hs1⟩ : ∃ W1, wr.alloc (.cells #[.slice A2 r.cells.length c2, .int .i64 r.out] 93) = W1 ∧ Own rInt 3 W1 w.heap.size (fun _ => False) u5 out ∧ Below w.heap.size w W1 ∧
          Elems rCl W1 S A2 r.cells ∧ Elems rInt W1 T B ns ∧ W1.cell? ⟨wr.heap.size, 0, none⟩ = some (.slice A2 r.cells.length c2) ∧ wr.heap.size < W1.heap.size :=
        ⟨_, rfl, hown.alloc _, hbl.alloc hbl.size _, hE2.keep (.alloc _), hF'.keep (.alloc _), World.cell?_alloc_new _ _ _ _, by simp⟩
      clear hown hF' hE2 hF
      have hdec : ((r.cells.length : Int) == (ns.length : Int)) = decide (r.cells.length = ns.length) := by
        rw [Bool.eq_iff_iff, beq_iff_eq, decide_eq_true_iff]; omega
      go_wp2
      clear e1 hdec h1 h2
      generalize wr.heap.size = q at *
      go_loopw [8, 9] (fun b i wi => ∃ (j : Nat) (ok : Bool), j ≤ ns.length ∧ i = .int .i64 j ∧ b = .bool ok ∧ Hid (ruleHolds r ns = (ok && cellsHold (r.cells.drop j) (ns.drop j))) ∧ (ok = true → r.cells.length = ns.length) ∧ Below W1.heap.size W1 wi) (fun _ i _ => ns.length - (intOf i).toNat)
      case atStart => exact ⟨0, _, Nat.zero_le _, rfl, rfl, Lib.hid hd0, fun h => of_decide_eq_true h, Below.refl _ _⟩
      case round =>
        obtain ⟨j, ok, hj, rfl, rfl, HJ, hok, hbi⟩ := hrel
        cases ok
        · have HJ' : Hid (ruleHolds r ns = false) := Lib.hid (by rw [HJ.out]; rfl)
          clear HJ hok hd0
          have HS' : Hid (matchesTo rs ns (k + 1) = out) := Lib.hid (by rw [HS.out, HJ'.out]; simp)
          go_wp2
          go_roundw
          case rel => exact ⟨k + 1, by omega, by go_num, by rw [HS'.out]; exact hown1.below hbi, hb1.trans (hbi.mono hb1.size)⟩
          case measure => simp [intOf]; omega
        · have hlen := hok rfl
          have HL := Lib.hid hlen
          by_cases hlj : j < ns.length
          · obtain ⟨b1, off1, cl, q1, rfl, _, hb2, hx1, hq1, g1, g2⟩ := hE3.cl (show j < r.cells.length by omega)
            obtain ⟨b3, off3, n, rfl, _, hb4, hx3, _, g3⟩ := hF3.intAt hlj
            rw [← hbi.cell (p := ⟨b1, _, none⟩) hb2] at g1 g2
            rw [← hbi.cell (p := ⟨b3, _, none⟩) hb4] at g3
            have g0 := c0
            rw [← hbi.cell (p := ⟨q, _, none⟩) hs1] at g0
            have hq2 := Rd.below hq1 hbi
            have HC := Lib.hid fun w' hb => Holds_any n w' (Rd.below hq2 hb)
            have HN : Hid (ruleHolds r ns = (cellHolds cl n && cellsHold (r.cells.drop (j + 1)) (ns.drop (j + 1)))) := Lib.hid (by
              rw [HJ.out, Bool.true_and]; exact cellsHold_at hx1 hx3)
            obtain ⟨A5, c5, rfl, _⟩ := rSl.elems hq1
            have hbb1 : b1 < wr.heap.size := Nat.lt_of_lt_of_le hb2 hbi.size
            have hbb3 : b3 < wr.heap.size := Nat.lt_of_lt_of_le hb4 hbi.size
            have hbb0 : q < wr.heap.size := Nat.lt_of_lt_of_le hs1 hbi.size
            have hj1 : (j : Int) < (r.cells.length : Int) := by omega
            have hj2 : (j : Int) < (ns.length : Int) := by omega
            clear HJ hok hlen hd0 hx1 hx3 hq1 hq2 hE3 hF3 c0
            go_wp2
            refine wp_region_quiet_below (by kernel_rfl) (by kernel_rfl) ?_
            repeat (go_big_quiet_step (exact Calls.inBelow HC.out _ _))
            refine wpQuiet_nil ?_
            intro _ hw'
            obtain ⟨⟨dq, osq⟩, hw''⟩ := hw'
            subst hw''
            go_wp2
            go_roundw
            case rel => exact ⟨j + 1, _, by omega, by go_num, rfl, HN, fun _ => HL.out, hbi.trans ((below_regrown _ _ _).mono hbi.size)⟩
            case measure => simp [intOf]; omega
          · have HJ' : Hid (ruleHolds r ns = true) := Lib.hid (by
              rw [HJ.out, List.drop_eq_nil_of_le (by omega), List.drop_eq_nil_of_le (by omega)]; rfl)
            have HS' : Hid (matchesTo rs ns (k + 1) = out ++ [(k : Int)]) := Lib.hid (by rw [HS.out, HJ'.out]; simp)
            have hin : InI (k : Int) := by unfold InI; omega
            have hownS := hown1.below hbi
            have hbS := hb1.trans (hbi.mono hb1.size)
            clear HJ hok hlen hd0 HL hE3 hF3 c0 hown1
            go_wp2_with (first | (at_builtin; go_must (refine wpList_append_new (R := rInt) (x := (k : Int)) el_I rfl (.tmp 44) (.tmp 46) rfl rfl hownS [.int .i64 k] rfl rfl (fun _ => False) ⟨rfl, hin⟩ (fun _ h => h.elim) ?_ hbS.size ?_; (((try simp only [rInt]) <;> omega)); intro v9 w9 hown9 hb9 _ _)))
            go_roundw
            case rel => exact ⟨k + 1, by omega, by go_num, by rw [HS'.out]; exact hown9, hbS.trans hb9⟩
            case measure => simp [intOf]; omega
    · obtain ⟨z1, z2, rfl⟩ := hown.value
      go_wp2
      go_ret
      refine ⟨_, rfl, ?_, hbl⟩
      have : k = rs.length := by omega
      subst this
      exact hown

end Go.Proofs.YtlopccnehgolnabGreatDoor

namespace Go.Proofs.YtlopccnehgolnabGreatDoor
open Go.RowKit Rb

theorem rSl.take {α : Type} {R : Rd α} {w : World} {S : Nat → Prop} {A : Option Addr} {n c : Nat} {l : List α} (h : (rSl R).rel w S [.slice A n c] l) (k : Nat) (hk : k ≤ l.length) : (rSl R).rel w S [.slice A k c] (l.take k) := by
  obtain ⟨A', c', hv, h1, h2, h3, h4⟩ := h
  simp only [List.cons.injEq, and_true] at hv
  injection hv with e1 e2 e3
  subst e1; subst e3
  have hl : (l.take k).length = k := by rw [List.length_take]; omega
  refine ⟨A, c, by rw [hl], by omega, h2, Nat.le_trans (Nat.mul_le_mul_right _ (by omega)) h3, fun i x hx => h4 i x ?_⟩
  rw [List.getElem?_take] at hx
  split at hx
  · exact hx
  · cases hx

theorem all_take {α : Type} {p : α → Bool} {l : List α} {k : Nat} {x : α} (h : l[k]? = some x) : (l.take (k + 1)).all p = ((l.take k).all p && p x) := by
  rw [take_getElem? h]; simp
theorem all_no {α : Type} {p : α → Bool} {l : List α} {k : Nat} {x : α} (h : l[k]? = some x) (hp : p x = false) : l.all p = false := by
  rw [List.all_eq_false]
  exact ⟨x, List.mem_of_getElem? h, by simp [hp]⟩

theorem goodIns_at {l : List Txt} {k : Nat} {s : Txt} (h : l[k]? = some s) : goodIns (l.take k) (l.drop k) = (named s && !(l.take k).contains s && goodIns (l.take (k + 1)) (l.drop (k + 1))) := by
  rw [drop_cons h, goodIns, take_getElem? h]

theorem head_no {t : Tb} (h : goodHead t = false) (hn : named t.name = true) : t.pol < 1 ∨ 7 < t.pol ∨ (t.ins.length : Int) < 1 ∨ 3 < (t.ins.length : Int) ∨ (t.rules.length : Int) < 1 ∨ 6 < (t.rules.length : Int) := by
  unfold goodHead at h
  rw [hn] at h
  by_cases h1 : t.pol < 1
  · exact .inl h1
  by_cases h2 : 7 < t.pol
  · exact .inr (.inl h2)
  simp only [Bool.true_and, Bool.and_eq_false_iff, decide_eq_false_iff_not] at h
  omega
theorem head_yes {t : Tb} (h : goodHead t = true) : named t.name = true ∧ 1 ≤ t.pol ∧ t.pol ≤ 7 ∧ 1 ≤ t.ins.length ∧ t.ins.length ≤ 3 ∧ 1 ≤ t.rules.length ∧ t.rules.length ≤ 6 := by
  unfold goodHead at h
  simp only [Bool.and_eq_true, decide_eq_true_iff] at h
  exact ⟨h.1.1.1.1.1.1, h.1.1.1.1.1.2, h.1.1.1.1.2, h.1.1.1.2, h.1.1.2, h.1.2, h.2⟩

theorem Named_b {s : Txt} {b : Bool} (h : named s = b) (w : World) (hs : s.length ≤ 140737488355328) : Calls Tryz.prog 81 #[.string ⟨s.toArray⟩] w fun e w' => e = .returned (.bool b) ∧ w = w' := h ▸ Named_any s w hs

set_option maxRecDepth 100000 in
set_option maxHeartbeats 1000000 in
theorem TGood_any {S : Nat → Prop} {cs : List Value} {t : Tb} (w : World) (hl : rTb.rel w S cs t) :
    Calls Tryz.prog 51 #[.agg cs.toArray] w fun e w' => e = .returned (.bool (goodT t)) ∧ Below w.heap.size w w' := by
  obtain ⟨vi, vr, rfl, hnm, hp, hi, hr⟩ := hl
  obtain ⟨A, c, rfl, hi1, hi2, hi3, hE⟩ := rSl.elems hi
  obtain ⟨B, d, rfl, hr1, hr2, hr3, hF⟩ := rSl.elems hr
  have hT : goodT t = (goodHead t && goodIns [] t.ins && t.rules.all (goodRule t.ins.length)) := rfl
  have HT := Lib.hid hT
  obtain ⟨W0, e0, hb0, hi', hE', hF', c3, c4, hs0⟩ : ∃ W0, w.alloc (.cells #[.string ⟨t.name.toArray⟩, .int .i64 t.pol, .bool t.comp, .slice A t.ins.length c, .slice B t.rules.length d] 42) = W0 ∧ Below w.heap.size w W0 ∧
      (rSl rStr).rel W0 S [.slice A t.ins.length c] t.ins ∧ Elems rStr W0 S A t.ins ∧ Elems rRl W0 S B t.rules ∧ W0.cell? ⟨w.heap.size, 3, none⟩ = some (.slice A t.ins.length c) ∧ W0.cell? ⟨w.heap.size, 4, none⟩ = some (.slice B t.rules.length d) ∧ w.heap.size < W0.heap.size :=
    ⟨_, rfl, (Below.refl _ _).alloc (Nat.le_refl _) _, Rd.alloc hi _, hE.keep (.alloc _), hF.keep (.alloc _), World.cell?_alloc_new _ _ _ _, World.cell?_alloc_new _ _ _ _, by simp⟩
  have c0 : W0.cell? ⟨w.heap.size, 0, none⟩ = some (.string ⟨t.name.toArray⟩) := by rw [← e0]; exact World.cell?_alloc_new _ _ _ _
  have c1 : W0.cell? ⟨w.heap.size, 1, none⟩ = some (.int .i64 t.pol) := by rw [← e0]; exact World.cell?_alloc_new _ _ _ _
  clear hi hr hE hF hT hi3 hr3
  cases hN : named t.name
  · have HN := Lib.hid hN
    have HF : Hid (goodT t = false) := Lib.hid (by rw [HT.out, goodHead, hN]; rfl)
    clear hN
    go_enter Tryz.func51, Tryz.ntmps51
    go_wp2_with (first | (go_at_call 81; refine (Named_b HN.out _ hnm).mono ?_; rintro e w' ⟨rfl, rfl⟩))
    go_ret
    exact ⟨ret_bool HF.out.symm, hb0⟩
  have HN := Lib.hid hN
  cases hH : goodHead t
  · have HF : Hid (goodT t = false) := Lib.hid (by rw [HT.out, hH]; rfl)
    have hx := head_no hH hN
    clear hN hH
    rcases hx with hx | hx | hx | hx | hx | hx
    all_goals
      go_enter Tryz.func51, Tryz.ntmps51
      go_wp2_with (first | (go_at_call 81; refine (Named_b HN.out _ hnm).mono ?_; rintro e w' ⟨rfl, rfl⟩))
      all_goals
        go_ret
        exact ⟨ret_bool HF.out.symm, hb0⟩
  obtain ⟨_, k1, k2, k3, k4, k5, k6⟩ := head_yes hH
  have k3' : (1 : Int) ≤ (t.ins.length : Int) := by omega
  have k4' : (t.ins.length : Int) ≤ 3 := by omega
  have k5' : (1 : Int) ≤ (t.rules.length : Int) := by omega
  have k6' : (t.rules.length : Int) ≤ 6 := by omega
  have HT2 : Hid (goodT t = (goodIns [] t.ins && t.rules.all (goodRule t.ins.length))) := Lib.hid (by rw [HT.out, hH]; simp)
  clear hN hH HT
  go_enter Tryz.func51, Tryz.ntmps51
  go_wp2_with (first | (go_at_call 81; refine (Named_b HN.out _ hnm).mono ?_; rintro e w' ⟨rfl, rfl⟩))
  go_loop [50] (fun i => ∃ k : Nat, k ≤ t.ins.length ∧ i = .int .i64 k ∧ Hid (goodIns [] t.ins = goodIns (t.ins.take k) (t.ins.drop k))) (fun i => t.ins.length - (intOf i).toNat)
  case atStart => exact ⟨0, Nat.zero_le _, rfl, Lib.hid rfl⟩
  case round =>
    obtain ⟨k, hk, rfl, HK⟩ := hrel
    by_cases hlt : k < t.ins.length
    · obtain ⟨b, off, s, rfl, _, hb, hx, hsl, h1⟩ := hE'.str hlt
      have hik : (k : Int) < (t.ins.length : Int) := by omega
      have HX := Lib.hid hx
      have hsplit := goodIns_at hx
      have HC := Lib.hid (Contains_any s W0 (rSl.take hi' k hk))
      have HK2 := Lib.hid (HK.out.trans hsplit)
      clear hsplit hx hE'
      cases hns : named s
      · have HNS := Lib.hid hns
        have HF : Hid (goodT t = false) := Lib.hid (by rw [HT2.out, HK2.out, hns]; rfl)
        clear hns
        go_wp2_with (first | (go_at_call 81; refine (Named_b HNS.out _ hsl).mono ?_; rintro e w' ⟨rfl, rfl⟩))
        go_ret
        exact ⟨ret_bool HF.out.symm, hb0⟩
      · have HNS := Lib.hid hns
        rw [hns] at HK2
        cases hcs : (t.ins.take k).contains s
        · have HK3 : Hid (goodIns [] t.ins = goodIns (t.ins.take (k + 1)) (t.ins.drop (k + 1))) := Lib.hid (by rw [HK2.out, hcs]; rfl)
          rw [hcs] at HC
          clear hns hcs HK2 HK
          go_wp2_with (first | (go_at_call 81; refine (Named_b HNS.out _ hsl).mono ?_; rintro e w' ⟨rfl, rfl⟩) | (go_at_call 75; refine HC.out.mono ?_; rintro e w' ⟨rfl, rfl⟩))
          go_round
          case rel => exact ⟨k + 1, by omega, by go_num, HK3⟩
          case measure => simp [intOf]; omega
        · have HF : Hid (goodT t = false) := Lib.hid (by rw [HT2.out, HK2.out, hcs]; rfl)
          rw [hcs] at HC
          clear hns hcs HK2 HK
          go_wp2_with (first | (go_at_call 81; refine (Named_b HNS.out _ hsl).mono ?_; rintro e w' ⟨rfl, rfl⟩) | (go_at_call 75; refine HC.out.mono ?_; rintro e w' ⟨rfl, rfl⟩))
          go_ret
          exact ⟨ret_bool HF.out.symm, hb0⟩
    · have HI : Hid (goodT t = t.rules.all (goodRule t.ins.length)) := Lib.hid (by
        rw [HT2.out, HK.out, List.drop_eq_nil_of_le (by omega)]; rfl)
      clear HK HT2 hE' hi'
      go_wp2
      go_loopw [70] (fun i wr => ∃ k : Nat, k ≤ t.rules.length ∧ i = .int .i64 k ∧ Hid ((t.rules.take k).all (goodRule t.ins.length) = true) ∧ Below W0.heap.size W0 wr) (fun i _ => t.rules.length - (intOf i).toNat)
      case atStart => exact ⟨0, Nat.zero_le _, rfl, Lib.hid rfl, Below.refl _ _⟩
      case round =>
        obtain ⟨k, hk, rfl, HK, hbl⟩ := hrel
        by_cases hlt : k < t.rules.length
        · obtain ⟨b, off, r, q, rfl, _, hb, hx, _, hq, h1, h2⟩ := hF'.rl hlt
          rw [← hbl.cell (p := ⟨b, _, none⟩) hb] at h1 h2
          have hq' := Rd.below hq hbl
          obtain ⟨A2, c2, rfl, _, _, hl2, hE2⟩ := rSl.elems hq'
          have hik : (k : Int) < (t.rules.length : Int) := by omega
          have HX := Lib.hid hx
          have g3 := c3
          rw [← hbl.cell (p := ⟨w.heap.size, _, none⟩) hs0] at g3
          have hl2' : r.cells.length ≤ 4398046511104 := by simp only [rCl] at hl2; omega
          have HF1 : Hid (goodRule t.ins.length r = false → goodT t = false) := Lib.hid (fun h => by rw [HI.out, all_no hx h])
          have HS1 : Hid (goodRule t.ins.length r = true → (t.rules.take (k + 1)).all (goodRule t.ins.length) = true) := Lib.hid (fun h => by rw [all_take hx, HK.out, h]; rfl)
          obtain ⟨W1, e1, hb1, hE3, d0, d1, d3, hs1⟩ : ∃ W1, wr.alloc (.cells #[.slice A2 r.cells.length c2, .int .i64 r.out] 93) = W1 ∧ Below W0.heap.size W0 W1 ∧
              Elems rCl W1 S A2 r.cells ∧ W1.cell? ⟨wr.heap.size, 0, none⟩ = some (.slice A2 r.cells.length c2) ∧ W1.cell? ⟨wr.heap.size, 1, none⟩ = some (.int .i64 r.out) ∧ W1.cell? ⟨w.heap.size, 3, none⟩ = some (.slice A t.ins.length c) ∧ wr.heap.size < W1.heap.size :=
            ⟨_, rfl, hbl.alloc hbl.size _, hE2.keep (.alloc _), World.cell?_alloc_new _ _ _ _, World.cell?_alloc_new _ _ _ _, (World.cell?_alloc_lt _ _ _ (World.block_lt_of_cell? _ _ g3)).trans g3, by simp⟩
          have hbW := hb0.trans (hb1.mono hb0.size)
          clear hx hq hq' hE2 g3 hl2 HK
          cases hnr : isNum r.out
          · have HNR := Lib.hid (tnumber_any r.out W1)
            rw [hnr] at HNR
            have HF : Hid (goodT t = false) := Lib.hid (HF1.out (by unfold goodRule; rw [hnr]; rfl))
            clear hnr
            go_wp2_with (first | (go_at_call 110; refine HNR.out.mono ?_; rintro e w' ⟨rfl, rfl⟩))
            go_ret
            exact ⟨ret_bool HF.out.symm, hbW⟩
          have HNR := Lib.hid (tnumber_any r.out W1)
          rw [hnr] at HNR
          by_cases hlen : r.cells.length = t.ins.length
          · have hne : ((r.cells.length : Int) != (t.ins.length : Int)) = false := by rw [bne_eq_false_iff_eq]; omega
            have HL := Lib.hid hlen
            have HR : Hid (goodRule t.ins.length r = r.cells.all goodCell) := Lib.hid (by unfold goodRule; rw [hnr, hlen]; simp)
            clear hnr hlen
            go_wp2_with (first | (go_at_call 110; refine HNR.out.mono ?_; rintro e w' ⟨rfl, rfl⟩))
            clear e1 hne h1 h2 d1 d3
            generalize wr.heap.size = p at *
            go_loopw [90] (fun i wr => ∃ j : Nat, j ≤ r.cells.length ∧ i = .int .i64 j ∧ Hid ((r.cells.take j).all goodCell = true) ∧ Below W1.heap.size W1 wr) (fun i _ => r.cells.length - (intOf i).toNat)
            case atStart => exact ⟨0, Nat.zero_le _, rfl, Lib.hid rfl, Below.refl _ _⟩
            case round =>
              obtain ⟨j, hj, rfl, HJ, hbi⟩ := hrel
              by_cases hlj : j < r.cells.length
              · obtain ⟨b1, off1, cl, q1, rfl, _, hb2, hx1, hq1, g1, g2⟩ := hE3.cl hlj
                rw [← hbi.cell (p := ⟨b1, _, none⟩) hb2] at g1 g2
                have hj1 : (j : Int) < (r.cells.length : Int) := by omega
                have hq2 := Rd.below hq1 hbi
                obtain ⟨A5, c5, rfl, _, _, hl5, _⟩ := rSl.elems hq1
                have hl5' : cl.rs.length ≤ 8796093022208 := by simp only [rRg] at hl5; omega
                clear hl5
                have HF2 : Hid (goodCell cl = false → goodT t = false) := Lib.hid (fun h => HF1.out (by rw [HR.out]; exact all_no hx1 h))
                have HS2 : Hid (goodCell cl = true → (r.cells.take (j + 1)).all goodCell = true) := Lib.hid (fun h => by rw [all_take hx1, HJ.out, h]; rfl)
                generalize hm : cl.rs.length = m at *
                generalize hno : cl.no = no at *
                obtain ⟨W2, e2, hbj, hq3, f0, f1⟩ : ∃ W2, wr.alloc (.cells #[.bool no, .slice A5 m c5] 97) = W2 ∧ Below W1.heap.size W1 W2 ∧ (rSl rRg).rel W2 S [.slice A5 m c5] cl.rs ∧
                    W2.cell? ⟨wr.heap.size, 0, none⟩ = some (.bool no) ∧ W2.cell? ⟨wr.heap.size, 1, none⟩ = some (.slice A5 m c5) :=
                  ⟨_, rfl, hbi.alloc hbi.size _, Rd.alloc hq2 _, World.cell?_alloc_new _ _ _ _, World.cell?_alloc_new _ _ _ _⟩
                have HG := Lib.hid (Good_any W2 hq3)
                clear hx1 hq1 hq2 hq3 HJ
                have hgc : goodCell cl = (decide (m ≤ 4) && isSet cl.rs && !(no && decide (m = 0))) := by rw [← hm, ← hno]; rfl
                have HGC := Lib.hid hgc
                clear hgc hm hno
                have h5 : 4 < (m : Int) ∨ ((m : Int) ≤ 4 ∧ isSet cl.rs = false) ∨ ((m : Int) ≤ 4 ∧ isSet cl.rs = true ∧ no = false) ∨ ((m : Int) ≤ 4 ∧ isSet cl.rs = true ∧ no = true ∧ m = 0) ∨ ((m : Int) ≤ 4 ∧ isSet cl.rs = true ∧ no = true ∧ ((m : Int) == 0) = false) := by
                  cases isSet cl.rs <;> cases no <;> simp <;> omega
                rcases h5 with h5 | ⟨h5, h6⟩ | ⟨h5, h6, rfl⟩ | ⟨h5, h6, rfl, rfl⟩ | ⟨h5, h6, rfl, h7⟩
                · have hd5 : decide (4 < (m : Int)) = true := by simp; omega
                  have HF : Hid (goodT t = false) := Lib.hid (HF2.out (by rw [HGC.out, show decide (m ≤ 4) = false by simp; omega]; rfl))
                  go_wp2
                  go_ret
                  exact ⟨ret_bool HF.out.symm, hbW.trans (hbj.mono hbW.size)⟩
                · have hd5 : decide (4 < (m : Int)) = false := by simp; omega
                  have HF : Hid (goodT t = false) := Lib.hid (HF2.out (by rw [HGC.out, h6]; simp))
                  rw [h6] at HG
                  clear h6
                  go_wp2_with (first | (go_at_call 111; refine HG.out.mono ?_; rintro e w3 ⟨rfl, hb3⟩))
                  go_ret
                  exact ⟨ret_bool HF.out.symm, (hbW.trans (hbj.mono hbW.size)).trans (hb3.mono (Nat.le_trans hbW.size hbj.size))⟩
                · have hd5 : decide (4 < (m : Int)) = false := by simp; omega
                  have HS : Hid (goodCell cl = true) := Lib.hid (by rw [HGC.out, h6, show decide (m ≤ 4) = true by simp; omega]; rfl)
                  rw [h6] at HG
                  clear h6
                  go_wp2_with (first | (go_at_call 111; refine HG.out.mono ?_; rintro e w3 ⟨rfl, hb3⟩; (try have f0' := (hb3.cell (p := ⟨wr.heap.size, 0, none⟩) (World.block_lt_of_cell? _ _ f0)).trans f0); (try have f1' := (hb3.cell (p := ⟨wr.heap.size, 1, none⟩) (World.block_lt_of_cell? _ _ f1)).trans f1)))
                  go_roundw
                  case rel => exact ⟨j + 1, by omega, by go_num, Lib.hid (HS2.out HS.out), hbj.trans (hb3.mono hbj.size)⟩
                  case measure => simp [intOf]; omega
                · have hd5 : decide (4 < (((0 : Nat) : Int) : Int)) = false := by simp
                  have HF : Hid (goodT t = false) := Lib.hid (HF2.out (by rw [HGC.out]; simp))
                  rw [h6] at HG
                  clear h6
                  go_wp2_with (first | (go_at_call 111; refine HG.out.mono ?_; rintro e w3 ⟨rfl, hb3⟩; (try have f0' := (hb3.cell (p := ⟨wr.heap.size, 0, none⟩) (World.block_lt_of_cell? _ _ f0)).trans f0); (try have f1' := (hb3.cell (p := ⟨wr.heap.size, 1, none⟩) (World.block_lt_of_cell? _ _ f1)).trans f1)))
                  go_ret
                  exact ⟨ret_bool HF.out.symm, (hbW.trans (hbj.mono hbW.size)).trans (hb3.mono (Nat.le_trans hbW.size hbj.size))⟩
                · have hd5 : decide (4 < (m : Int)) = false := by simp; omega
                  have HS : Hid (goodCell cl = true) := Lib.hid (by
                    have : ¬ m = 0 := by rintro rfl; simp at h7
                    rw [HGC.out, h6, show decide (m ≤ 4) = true by simp; omega]; simp [this])
                  rw [h6] at HG
                  clear h6
                  go_wp2_with (first | (go_at_call 111; refine HG.out.mono ?_; rintro e w3 ⟨rfl, hb3⟩; (try have f0' := (hb3.cell (p := ⟨wr.heap.size, 0, none⟩) (World.block_lt_of_cell? _ _ f0)).trans f0); (try have f1' := (hb3.cell (p := ⟨wr.heap.size, 1, none⟩) (World.block_lt_of_cell? _ _ f1)).trans f1)))
                  go_roundw
                  case rel => exact ⟨j + 1, by omega, by go_num, Lib.hid (HS2.out HS.out), hbj.trans (hb3.mono hbj.size)⟩
                  case measure => simp [intOf]; omega
              · have HS : Hid ((t.rules.take (k + 1)).all (goodRule t.ins.length) = true) := Lib.hid (HS1.out (by
                  have := HJ.out
                  rw [List.take_of_length_le (by omega)] at this
                  rw [HR.out, this]))
                go_wp2
                go_roundw
                case rel => exact ⟨k + 1, by omega, by go_num, HS, hb1.trans (hbi.mono hb1.size)⟩
                case measure => simp [intOf]; omega
          · have hne : ((r.cells.length : Int) != (t.ins.length : Int)) = true := by rw [bne_iff_ne]; omega
            have HF : Hid (goodT t = false) := Lib.hid (HF1.out (by unfold goodRule; simp [hlen]))
            clear hnr hlen
            go_wp2_with (first | (go_at_call 110; refine HNR.out.mono ?_; rintro e w' ⟨rfl, rfl⟩))
            go_ret
            exact ⟨ret_bool HF.out.symm, hbW⟩
        · have HF : Hid (goodT t = true) := Lib.hid (by
            have := HK.out
            rw [List.take_of_length_le (by omega)] at this
            rw [HI.out, this])
          go_wp2
          go_ret
          exact ⟨ret_bool HF.out.symm, hb0.trans (hbl.mono hb0.size)⟩

end Go.Proofs.YtlopccnehgolnabGreatDoor

namespace Go.Proofs.YtlopccnehgolnabGreatDoor
open Go.RowKit Rb

def outAt (rs : List Rl) (i : Int) : Int := match rs[i.toNat]? with | some r => r.out | none => 0
def sayLoop (pol : Int) : Int → List Int → Int × Bool × Int
  | n, [] => (n, true, 0)
  | n, o :: t =>
    if pol = 1 then (0, false, 4)
    else if pol = 2 then (if o ≠ n then (0, false, 4) else sayLoop pol n t)
    else if pol = 4 then sayLoop pol (min n o) t
    else if pol = 5 then sayLoop pol (max n o) t
    else if pol = 6 then sayLoop pol (n + o) t
    else sayLoop pol n t
def sayL (t : Tb) (l : List Int) : Int × Bool × Int :=
  if t.pol = 7 then ((l.length : Int), true, 0) else
  match l.map (outAt t.rules) with
  | [] => (0, false, 0)
  | o :: os => sayLoop t.pol o os
def saysT (t : Tb) (ns : List Int) : Int × Bool × Int :=
  if goodT t = true ∧ ns.length = t.ins.length then sayL t (matchesL t.rules ns) else (0, false, 1)
def sayV (x : Int × Bool × Int) : Value := .tuple #[.int .i64 x.1, .bool x.2.1, .int .i64 x.2.2]

theorem matchesL_lt {rs : List Rl} {ns : List Int} {i : Int} (h : i ∈ matchesL rs ns) : ∃ k : Nat, i = k ∧ k < rs.length := by
  unfold matchesL matchesTo at h
  simp only [List.mem_map, List.mem_filter, List.mem_range] at h
  obtain ⟨k, ⟨h1, _⟩, rfl⟩ := h
  exact ⟨k, rfl, h1⟩
theorem goodT_out {t : Tb} (h : goodT t = true) {r : Rl} (hr : r ∈ t.rules) : -1000000 ≤ r.out ∧ r.out ≤ 1000000 := by
  unfold goodT at h
  simp only [Bool.and_eq_true, List.all_eq_true] at h
  have h1 := h.2 r hr
  unfold goodRule at h1
  simp only [Bool.and_eq_true] at h1
  exact (isNum_iff _).1 h1.1.1
theorem goodT_head {t : Tb} (h : goodT t = true) : 1 ≤ t.pol ∧ t.pol ≤ 7 ∧ 1 ≤ t.ins.length ∧ t.ins.length ≤ 3 ∧ 1 ≤ t.rules.length ∧ t.rules.length ≤ 6 := by
  unfold goodT at h
  simp only [Bool.and_eq_true] at h
  exact (head_yes h.1.1).2

theorem says3 {x : Int × Bool × Int} {a : Int} {b : Bool} {c : Int} (h : x = (a, b, c)) : Ending.returned (.tuple #[.int .i64 a, .bool b, .int .i64 c]) = .returned (sayV x) := by rw [h]; rfl

set_option maxRecDepth 100000 in
set_option maxHeartbeats 1000000 in
theorem Says_any {S T : Nat → Prop} {cs : List Value} {t : Tb} {u : Value} {ns : List Int} (w : World) (hl : rTb.rel w S cs t) (hn : (rSl rInt).rel w T [u] ns) :
    Calls Tryz.prog 67 #[.agg cs.toArray, u] w fun e w' => e = .returned (sayV (saysT t ns)) ∧ Below w.heap.size w w' := by
  have HG := Lib.hid fun o => TGood_any (w.alloc o) (Rd.alloc hl o)
  obtain ⟨vi, vr, rfl, hnm, hp, hi, hr⟩ := hl
  obtain ⟨A, c, rfl, hi1, hi2, hi3, hE⟩ := rSl.elems hi
  obtain ⟨B, d, rfl, hr1, hr2, hr3, hF⟩ := rSl.elems hr
  obtain ⟨C, g, rfl, _, _, hn3, hN⟩ := rSl.elems hn
  have hn3' : ns.length ≤ 17592186044416 := by simp only [rInt] at hn3; omega
  have hi3' : t.ins.length ≤ 8796093022208 := by simp only [rStr] at hi3; omega
  have HM : Hid (∀ w', Below w.heap.size w w' → Calls Tryz.prog 13 #[.agg #[.string ⟨t.name.toArray⟩, .int .i64 t.pol, .bool t.comp, .slice A t.ins.length c, .slice B t.rules.length d], .slice C ns.length g] w' fun e w2 => ∃ z, e = .returned z ∧ Own rInt 3 w2 w'.heap.size (fun _ => False) z (matchesL t.rules ns) ∧ Below w'.heap.size w' w2) :=
    Lib.hid fun w' hb => Matches_any w' (Rd.below hr hb) (Rd.below hn hb)
  obtain ⟨W0, e0, hb0, c0, c1, c2, c3, c4, hs0⟩ : ∃ W0, w.alloc (.cells #[.string ⟨t.name.toArray⟩, .int .i64 t.pol, .bool t.comp, .slice A t.ins.length c, .slice B t.rules.length d] 42) = W0 ∧ Below w.heap.size w W0 ∧
      W0.cell? ⟨w.heap.size, 0, none⟩ = some (.string ⟨t.name.toArray⟩) ∧ W0.cell? ⟨w.heap.size, 1, none⟩ = some (.int .i64 t.pol) ∧ W0.cell? ⟨w.heap.size, 2, none⟩ = some (.bool t.comp) ∧ W0.cell? ⟨w.heap.size, 3, none⟩ = some (.slice A t.ins.length c) ∧ W0.cell? ⟨w.heap.size, 4, none⟩ = some (.slice B t.rules.length d) ∧ w.heap.size < W0.heap.size :=
    ⟨_, rfl, (Below.refl _ _).alloc (Nat.le_refl _) _, World.cell?_alloc_new _ _ _ _, World.cell?_alloc_new _ _ _ _, World.cell?_alloc_new _ _ _ _, World.cell?_alloc_new _ _ _ _, World.cell?_alloc_new _ _ _ _, by simp⟩
  have HG0 := Lib.hid (by have := HG.out (.cells #[.string ⟨t.name.toArray⟩, .int .i64 t.pol, .bool t.comp, .slice A t.ins.length c, .slice B t.rules.length d] 42); rw [e0] at this; exact this)
  clear hi hr hE hi3 hr3 hn hn3 HG
  cases hgt : goodT t
  · have HF : Hid (saysT t ns = (0, false, 1)) := Lib.hid (by unfold saysT; rw [if_neg (by simp [hgt])])
    rw [hgt] at HG0
    clear hgt
    go_enter Tryz.func67, Tryz.ntmps67

    go_wp2_with (first | (go_at_call 51; refine HG0.out.mono ?_; rintro e w1 ⟨rfl, hb1⟩))
    go_ret3
    exact ⟨says3 HF.out, hb0.trans (hb1.mono hb0.size)⟩
  rw [hgt] at HG0
  by_cases hlen : ns.length = t.ins.length
  case neg =>
    have hne : ((ns.length : Int) != (t.ins.length : Int)) = true := by rw [bne_iff_ne]; omega
    have HF : Hid (saysT t ns = (0, false, 1)) := Lib.hid (by unfold saysT; rw [if_neg (by simp [hlen])])
    clear hgt hlen
    go_enter Tryz.func67, Tryz.ntmps67
    go_wp2_with (first | (go_at_call 51; refine HG0.out.mono ?_; rintro e w1 ⟨rfl, hb1⟩; have k0 := (hb1.cell (p := ⟨w.heap.size, 0, none⟩) hs0).trans c0; have k1 := (hb1.cell (p := ⟨w.heap.size, 1, none⟩) hs0).trans c1; have k2 := (hb1.cell (p := ⟨w.heap.size, 2, none⟩) hs0).trans c2; have k3 := (hb1.cell (p := ⟨w.heap.size, 3, none⟩) hs0).trans c3; have k4 := (hb1.cell (p := ⟨w.heap.size, 4, none⟩) hs0).trans c4; have hb1' := hb0.trans (hb1.mono hb0.size); have hs1 := Nat.lt_of_lt_of_le hs0 hb1.size))
    go_ret3
    exact ⟨says3 HF.out, hb1'⟩
  have hne : ((ns.length : Int) != (t.ins.length : Int)) = false := by rw [bne_eq_false_iff_eq]; omega
  have HS : Hid (saysT t ns = sayL t (matchesL t.rules ns)) := Lib.hid (by unfold saysT; rw [if_pos ⟨hgt, hlen⟩])
  have hlt := fun i => matchesL_lt (rs := t.rules) (ns := ns) (i := i)
  have hml : (matchesL t.rules ns).length ≤ t.rules.length := matchesTo_len _ _ _
  have hout := fun r => goodT_out hgt (r := r)
  obtain ⟨hp1, hp7, _, _, _, hr6⟩ := goodT_head hgt
  generalize matchesL t.rules ns = l at *
  have HO := Lib.hid hout
  have HLT := Lib.hid hlt
  clear hgt hlen hout hlt
  obtain ⟨p, hpe⟩ : ∃ p, t.pol = p := ⟨_, rfl⟩
  have HPE := Lib.hid hpe
  rw [hpe] at HM HG0 c1 hp1 hp7 e0
  rw [hpe]
  clear hpe
  by_cases hp : p = 7
  · subst hp
    have HF : Hid (saysT t ns = ((l.length : Int), true, 0)) := Lib.hid (by rw [HS.out, sayL, if_pos HPE.out])
    go_enter Tryz.func67, Tryz.ntmps67
    go_wp2_with (first | (go_at_call 51; refine HG0.out.mono ?_; rintro e w1 ⟨rfl, hb1⟩; have k0 := (hb1.cell (p := ⟨w.heap.size, 0, none⟩) hs0).trans c0; have k1 := (hb1.cell (p := ⟨w.heap.size, 1, none⟩) hs0).trans c1; have k2 := (hb1.cell (p := ⟨w.heap.size, 2, none⟩) hs0).trans c2; have k3 := (hb1.cell (p := ⟨w.heap.size, 3, none⟩) hs0).trans c3; have k4 := (hb1.cell (p := ⟨w.heap.size, 4, none⟩) hs0).trans c4; have hb1' := hb0.trans (hb1.mono hb0.size); have hs1 := Nat.lt_of_lt_of_le hs0 hb1.size) | (go_at_call 13; go_must (refine (HM.out _ hb1').mono ?_); rintro e w2 ⟨z, rfl, hown, hb2⟩; have m1 := (hb2.cell (p := ⟨w.heap.size, 1, none⟩) hs1).trans k1; have m4 := (hb2.cell (p := ⟨w.heap.size, 4, none⟩) hs1).trans k4; have hb2' := hb1'.trans (hb2.mono hb1'.size); obtain ⟨AZ, cz, rfl⟩ := hown.value))
    go_ret3
    exact ⟨says3 HF.out, hb2'⟩
  have hp' : (p == 7) = false := by simpa using hp
  have HQ : Hid (saysT t ns = match l.map (outAt t.rules) with | [] => (0, false, 0) | o :: os => sayLoop p o os) := Lib.hid (by rw [HS.out, sayL, if_neg (by rw [HPE.out]; exact hp), HPE.out])
  clear HS hp
  rcases l with _ | ⟨x0, l⟩
  · have HF : Hid (saysT t ns = (0, false, 0)) := HQ
    clear HQ
    go_enter Tryz.func67, Tryz.ntmps67
    go_wp2_with (first | (go_at_call 51; refine HG0.out.mono ?_; rintro e w1 ⟨rfl, hb1⟩; have k0 := (hb1.cell (p := ⟨w.heap.size, 0, none⟩) hs0).trans c0; have k1 := (hb1.cell (p := ⟨w.heap.size, 1, none⟩) hs0).trans c1; have k2 := (hb1.cell (p := ⟨w.heap.size, 2, none⟩) hs0).trans c2; have k3 := (hb1.cell (p := ⟨w.heap.size, 3, none⟩) hs0).trans c3; have k4 := (hb1.cell (p := ⟨w.heap.size, 4, none⟩) hs0).trans c4; have hb1' := hb0.trans (hb1.mono hb0.size); have hs1 := Nat.lt_of_lt_of_le hs0 hb1.size) | (go_at_call 13; go_must (refine (HM.out _ hb1').mono ?_); rintro e w2 ⟨z, rfl, hown, hb2⟩; have m1 := (hb2.cell (p := ⟨w.heap.size, 1, none⟩) hs1).trans k1; have m4 := (hb2.cell (p := ⟨w.heap.size, 4, none⟩) hs1).trans k4; have hb2' := hb1'.trans (hb2.mono hb1'.size); obtain ⟨AZ, cz, rfl⟩ := hown.value))
    go_ret3
    exact ⟨says3 HF.out, hb2'⟩
  obtain ⟨j0, rfl, hj0⟩ := HLT.out x0 (by simp)
  obtain ⟨b, off, r0, q0, rfl, _, hb, hx0, _, _, h1, h2⟩ := hF.rl hj0
  have hr0 := HO.out r0 (List.mem_of_getElem? hx0)
  have HQ2 : Hid (saysT t ns = sayLoop p r0.out ((l.map (outAt t.rules)).drop 0)) := Lib.hid (by rw [HQ.out]; simp only [List.map_cons, List.drop_zero, outAt, Int.toNat_natCast, hx0])
  have hll : l.length + 1 ≤ t.rules.length := hml
  have hij0 : (j0 : Int) < (t.rules.length : Int) := by omega
  generalize hlm : (↑j0 :: l : List Int) = L at *
  have hLl : L.length = l.length + 1 := by rw [← hlm]; rfl
  have hL0 : L[0]? = some (j0 : Int) := by rw [← hlm]; rfl
  have HLM := Lib.hid hlm
  have HLl := Lib.hid hLl
  have HL0 := Lib.hid hL0
  have hposn : 0 < L.length := by omega
  have hpos : (0 : Int) < (L.length : Int) := by omega
  have hq0 : ((L.length : Int) == 0) = false := by rw [beq_eq_false_iff_ne]; omega
  clear hlm HQ hx0 hml hLl hL0
  go_enter Tryz.func67, Tryz.ntmps67
  go_wp2_with (first | (go_at_call 51; refine HG0.out.mono ?_; rintro e w1 ⟨rfl, hb1⟩; have k0 := (hb1.cell (p := ⟨w.heap.size, 0, none⟩) hs0).trans c0; have k1 := (hb1.cell (p := ⟨w.heap.size, 1, none⟩) hs0).trans c1; have k2 := (hb1.cell (p := ⟨w.heap.size, 2, none⟩) hs0).trans c2; have k3 := (hb1.cell (p := ⟨w.heap.size, 3, none⟩) hs0).trans c3; have k4 := (hb1.cell (p := ⟨w.heap.size, 4, none⟩) hs0).trans c4; have hb1' := hb0.trans (hb1.mono hb0.size); have hs1 := Nat.lt_of_lt_of_le hs0 hb1.size) | (go_at_call 13; go_must (refine (HM.out _ hb1').mono ?_); rintro e w2 ⟨z, rfl, hown, hb2⟩; have m1 := (hb2.cell (p := ⟨w.heap.size, 1, none⟩) hs1).trans k1; have m4 := (hb2.cell (p := ⟨w.heap.size, 4, none⟩) hs1).trans k4; have hb2' := hb1'.trans (hb2.mono hb1'.size); obtain ⟨AZ, cz, rfl⟩ := hown.value))
  obtain ⟨_, hE2⟩ := hown.elems (by decide) rfl
  obtain ⟨b1, off1, n0, rfl, _, hb1b, hx1, _, g1⟩ := hE2.intAt (i := 0) (by omega)
  obtain rfl : (j0 : Int) = n0 := by rw [HL0.out] at hx1; exact Option.some.inj hx1
  rw [← hb2'.cell (p := ⟨b, _, none⟩) hb] at h1 h2
  rw [Nat.add_zero] at g1
  have hi0 : (0 : Int) ≤ (j0 : Int) := by omega
  obtain ⟨_, _, hzv, hzc, hzm, _⟩ := hown.rel (by decide)
  simp only [List.cons.injEq, Value.slice.injEq, and_true, true_and] at hzv
  obtain ⟨rfl, rfl⟩ := hzv
  clear e0 k0 k2 k3 hx1 hzm
  go_quiet (fail)
  have hz1 : (1 : Int) ≤ (L.length : Int) := by omega
  have hz2 : (L.length : Int) ≤ (cz : Int) := by omega
  have HE2 := Lib.hid hE2
  rcases (show cz = 1 ∨ 1 < cz by omega) with rfl | hcz
  · have hl0 : l = [] := List.eq_nil_of_length_eq_zero (by have := HLl.out; omega)
    have HF : Hid (saysT t ns = (r0.out, true, 0)) := Lib.hid (by rw [HQ2.out, hl0]; rfl)
    have hL1 : L.length - 1 = 0 := by omega
    clear hl0
    go_wp2
    go_loop [8, 45] (fun n i => n = .int .i64 r0.out ∧ i = .int .i64 0) (fun _ _ => 0)
    case atStart => exact ⟨rfl, rfl⟩
    case round =>
      obtain ⟨rfl, rfl⟩ := hrel
      go_wp2
      go_ret3
      exact ⟨says3 HF.out, drewN_below hb2' _⟩
  have hcn : ¬ cz = 1 := by omega
  have hE3 : ∀ (k : Nat) (x : Int), l[k]? = some x → w2.cell? ⟨b1, off1 + 1 + k, none⟩ = some (.int .i64 x) := fun k x hx => by
    have hx' : L[k + 1]? = some x := by rw [← HLM.out, List.getElem?_cons_succ]; exact hx
    obtain ⟨_, _, n9, hA9, _, _, hx9, _, g9⟩ := HE2.out.intAt (i := k + 1) (List.getElem?_eq_some_iff.1 hx').1
    obtain ⟨rfl, rfl⟩ : b1 = _ ∧ off1 = _ := by simpa using hA9
    obtain rfl : x = n9 := by rw [hx'] at hx9; exact Option.some.inj hx9
    rw [show off1 + 1 + k = off1 + (k + 1) by omega]
    exact g9
  have HE3 := Lib.hid hE3
  have HX : Hid (∀ (k : Nat) (x : Int), l[k]? = some x → ∃ j : Nat, x = j ∧ j < t.rules.length) := Lib.hid fun k x hx => HLT.out x (by rw [← HLM.out]; exact List.mem_cons_of_mem _ (List.mem_of_getElem? hx))
  have hR : ∀ j : Nat, j < t.rules.length → ∃ r : Rl, t.rules[j]? = some r ∧ w2.cell? ⟨b, off + j * 2 + 1, none⟩ = some (.int .i64 r.out) ∧ -1000000 ≤ r.out ∧ r.out ≤ 1000000 := fun j hj => by
    obtain ⟨_, _, r, _, hA9, _, hb9, hx9, _, _, _, g9⟩ := hF.rl hj
    obtain ⟨rfl, rfl⟩ : b = _ ∧ off = _ := by simpa using hA9
    rw [← hb2'.cell (p := ⟨b, _, none⟩) hb] at g9
    exact ⟨r, hx9, g9, HO.out r (List.mem_of_getElem? hx9)⟩
  have HR := Lib.hid hR
  clear hE2 hE3 hR hF
  have hz9 : (1 : Int) ≤ (L.length : Int) := by omega
  have hz8 : (L.length : Int) ≤ (cz : Int) := by omega
  go_wp2
  generalize hm : L.length - 1 = m at *
  have hm5 : m ≤ 5 := by have := HLl.out; omega
  have HML : Hid (m = l.length) := Lib.hid (by have := HLl.out; omega)
  have hp6 : p = 1 ∨ p = 2 ∨ p = 3 ∨ p = 4 ∨ p = 5 ∨ p = 6 := by
    have : p ≠ 7 := by rintro rfl; simp at hp'
    omega
  clear hm
  go_loop [8, 45] (fun n i => ∃ (k : Nat) (a : Int), k ≤ m ∧ i = .int .i64 k ∧ n = .int .i64 a ∧ -1000000 * ((k : Int) + 1) ≤ a ∧ a ≤ 1000000 * ((k : Int) + 1) ∧ Hid (saysT t ns = sayLoop p a ((l.map (outAt t.rules)).drop k))) (fun _ i => m - (intOf i).toNat)
  case atStart => exact ⟨0, _, Nat.zero_le _, rfl, rfl, by omega, by omega, HQ2⟩
  case round =>
    obtain ⟨k, a, hk, rfl, rfl, ha1, ha2, HK⟩ := hrel
    by_cases hlt : k < m
    · have hkl : k < l.length := by rw [← HML.out]; exact hlt
      have hx : l[k]? = some l[k] := List.getElem?_eq_getElem hkl
      obtain ⟨j, hj, hjr⟩ := HX.out k _ hx
      obtain ⟨r, hr1, hr2, hr3, hr4⟩ := HR.out j hjr
      have g := HE3.out k _ hx
      rw [hj] at g
      have HKn : Hid (saysT t ns = sayLoop p a (r.out :: (l.map (outAt t.rules)).drop (k + 1))) := Lib.hid (by
        rw [HK.out, drop_cons (x := outAt t.rules l[k]) (by rw [List.getElem?_map, hx]; rfl)]
        congr 2
        rw [hj]
        simp only [outAt, Int.toNat_natCast, hr1])
      have hik : (k : Int) < (m : Int) := by omega
      have hijr : (j : Int) < (t.rules.length : Int) := by omega
      generalize r.out = o at *
      clear HK hx hj hr1 hkl
      rcases hp6 with rfl | rfl | rfl | rfl | rfl | rfl
      · have HF : Hid (saysT t ns = (0, false, 4)) := Lib.hid (by rw [HKn.out]; rfl)
        go_wp2
        go_ret3
        exact ⟨says3 HF.out, drewN_below hb2' _⟩
      · by_cases hoa : o = a
        · subst hoa
          have HK' : Hid (saysT t ns = sayLoop 2 o ((l.map (outAt t.rules)).drop (k + 1))) := Lib.hid (by rw [HKn.out]; simp [sayLoop])
          go_wp2
          go_round
          case rel => exact ⟨k + 1, o, by omega, by go_num, rfl, by omega, by omega, HK'⟩
          case measure => simp [intOf]; omega
        · have HF : Hid (saysT t ns = (0, false, 4)) := Lib.hid (by rw [HKn.out]; simp [sayLoop, hoa])
          have hb9 : (o != a) = true := by rw [bne_iff_ne]; exact hoa
          clear hoa
          go_wp2
          go_ret3
          exact ⟨says3 HF.out, drewN_below hb2' _⟩
      · have HK' : Hid (saysT t ns = sayLoop 3 a ((l.map (outAt t.rules)).drop (k + 1))) := Lib.hid (by rw [HKn.out]; simp [sayLoop])
        go_wp2
        go_round
        case rel => exact ⟨k + 1, a, by omega, by go_num, rfl, by omega, by omega, HK'⟩
        case measure => simp [intOf]; omega
      · have HK' : Hid (saysT t ns = sayLoop 4 (min a o) ((l.map (outAt t.rules)).drop (k + 1))) := Lib.hid (by rw [HKn.out]; simp [sayLoop])
        go_wp2
        all_goals
          go_round
          case rel => exact ⟨k + 1, min a o, by omega, by go_num, by go_num, by omega, by omega, HK'⟩
          case measure => simp [intOf]; omega
      · have HK' : Hid (saysT t ns = sayLoop 5 (max a o) ((l.map (outAt t.rules)).drop (k + 1))) := Lib.hid (by rw [HKn.out]; simp [sayLoop])
        go_wp2
        all_goals
          go_round
          case rel => exact ⟨k + 1, max a o, by omega, by go_num, by go_num, by omega, by omega, HK'⟩
          case measure => simp [intOf]; omega
      · have HK' : Hid (saysT t ns = sayLoop 6 (a + o) ((l.map (outAt t.rules)).drop (k + 1))) := Lib.hid (by rw [HKn.out]; simp [sayLoop])
        go_wp2
        go_round
        case rel => exact ⟨k + 1, a + o, by omega, by go_num, by go_num, by omega, by omega, HK'⟩
        case measure => simp [intOf]; omega
    · have HF : Hid (saysT t ns = (a, true, 0)) := Lib.hid (by
        rw [HK.out, List.drop_eq_nil_of_le (by rw [List.length_map, ← HML.out]; omega)]; rfl)
      go_wp2
      go_ret3
      exact ⟨says3 HF.out, drewN_below hb2' _⟩

end Go.Proofs.YtlopccnehgolnabGreatDoor

namespace Go.Proofs.YtlopccnehgolnabGreatDoor
open Go.RowKit Rb

theorem sayLoop_perm (pol : Int) : ∀ {l m : List Int}, l.Perm m → ∀ n, sayLoop pol n l = sayLoop pol n m := by
  intro l m h
  induction h with
  | nil => intro n; rfl
  | cons x _ ih => intro n; simp only [sayLoop, ih]
  | swap x y l =>
    intro n
    simp only [sayLoop]
    by_cases h1 : pol = 1
    · simp [h1]
    by_cases h2 : pol = 2
    · subst h2
      by_cases hx : x = n <;> by_cases hy : y = n <;> simp [hx, hy]
    by_cases h4 : pol = 4
    · subst h4; simp only [show ¬ (4 : Int) = 1 by omega, show ¬ (4 : Int) = 2 by omega, if_true, if_false]; congr 1; omega
    by_cases h5 : pol = 5
    · subst h5; simp only [show ¬ (5 : Int) = 1 by omega, show ¬ (5 : Int) = 2 by omega, show ¬ (5 : Int) = 4 by omega, if_true, if_false]; congr 1; omega
    by_cases h6 : pol = 6
    · subst h6; simp only [show ¬ (6 : Int) = 1 by omega, show ¬ (6 : Int) = 2 by omega, show ¬ (6 : Int) = 4 by omega, show ¬ (6 : Int) = 5 by omega, if_true, if_false]; congr 1; omega
    simp [h1, h2, h4, h5, h6]
  | trans _ _ ih1 ih2 => intro n; rw [ih1, ih2]

def sayO (pol : Int) : List Int → Int × Bool × Int
  | [] => (0, false, 0)
  | o :: os => sayLoop pol o os
theorem sayO_perm {pol : Int} (hp : 1 ≤ pol ∧ pol ≤ 6) (h3 : pol ≠ 3) {l m : List Int} (h : l.Perm m) : sayO pol l = sayO pol m := by
  induction h with
  | nil => rfl
  | cons x h _ => exact sayLoop_perm pol h x
  | swap x y l =>
    show sayLoop pol y (x :: l) = sayLoop pol x (y :: l)
    have : pol = 1 ∨ pol = 2 ∨ pol = 4 ∨ pol = 5 ∨ pol = 6 := by omega
    rcases this with rfl | rfl | rfl | rfl | rfl
    · rfl
    · simp only [sayLoop, show ¬ (2 : Int) = 1 by omega, if_true, if_false]
      by_cases hx : x = y
      · subst hx; rfl
      · rw [if_pos hx, if_pos (Ne.symm hx)]
    · simp only [sayLoop, show ¬ (4 : Int) = 1 by omega, show ¬ (4 : Int) = 2 by omega, if_true, if_false]; congr 1; omega
    · simp only [sayLoop, show ¬ (5 : Int) = 1 by omega, show ¬ (5 : Int) = 2 by omega, show ¬ (5 : Int) = 4 by omega, if_true, if_false]; congr 1; omega
    · simp only [sayLoop, show ¬ (6 : Int) = 1 by omega, show ¬ (6 : Int) = 2 by omega, show ¬ (6 : Int) = 4 by omega, show ¬ (6 : Int) = 5 by omega, if_true, if_false]; congr 1; omega
  | trans _ _ ih1 ih2 => rw [ih1, ih2]

/-- The outs of the rules that hold, in order. -/
def outsL (rs : List Rl) (ns : List Int) : List Int := (rs.filter (ruleHolds · ns)).map (·.out)
theorem outs_eq (rs : List Rl) (ns : List Int) : (matchesL rs ns).map (outAt rs) = outsL rs ns := by
  unfold matchesL matchesTo outsL
  rw [List.map_map]
  have key : ∀ n, n ≤ rs.length → ((List.range n).filter (holdsAt rs ns)).map (outAt rs ∘ fun i => ((i : Nat) : Int)) = ((rs.take n).filter (ruleHolds · ns)).map (·.out) := by
    intro n
    induction n with
    | zero => intro _; rfl
    | succ n ih =>
      intro hn
      have hx : rs[n]? = some rs[n] := List.getElem?_eq_getElem (by omega)
      rw [List.range_succ, List.filter_append, List.map_append, ih (by omega), take_getElem? hx, List.filter_append, List.map_append]
      congr 1
      have hh : holdsAt rs ns n = ruleHolds rs[n] ns := by unfold holdsAt; rw [hx]
      cases h : ruleHolds rs[n] ns
      · simp [hh, h]
      · simp [hh, h, outAt, hx]
  have := key rs.length (Nat.le_refl _)
  rwa [List.take_length] at this
theorem sayL_eq (t : Tb) (ns : List Int) : sayL t (matchesL t.rules ns) = if t.pol = 7 then (((outsL t.rules ns).length : Int), true, 0) else sayO t.pol (outsL t.rules ns) := by
  unfold sayL
  rw [outs_eq, ← outs_eq t.rules ns, List.length_map, outs_eq]
  split
  · rfl
  · cases outsL t.rules ns <;> rfl

theorem says_perm {t u : Tb} {ns : List Int} (h1 : t.name = u.name) (h2 : t.pol = u.pol) (h4 : t.ins = u.ins) (h5 : t.rules.Perm u.rules) (hp : t.pol ≠ 3) (hg : goodT t = true) : saysT t ns = saysT u ns := by
  have hgu : goodT u = goodT t := by
    unfold goodT goodHead
    rw [h1, h2, h4, h5.length_eq]
    congr 1
    rw [Bool.eq_iff_iff, List.all_eq_true, List.all_eq_true]
    exact ⟨fun h x hx => h x (h5.mem_iff.1 hx), fun h x hx => h x (h5.mem_iff.2 hx)⟩
  have hb := goodT_head hg
  have hperm : (outsL t.rules ns).Perm (outsL u.rules ns) := (h5.filter _).map _
  unfold saysT
  rw [hgu, h4, sayL_eq, sayL_eq, ← h2, hperm.length_eq]
  by_cases h7 : t.pol = 7
  · rw [if_pos h7, if_pos h7]
  · rw [if_neg h7, if_neg h7, sayO_perm (by omega) hp hperm]

theorem swap_perm {α : Type} (l : List α) (k : Nat) (x y : α) (hx : l[k]? = some x) (hy : l[k + 1]? = some y) : l.Perm ((l.set k y).set (k + 1) x) := by
  have h1 : l = l.take k ++ x :: y :: l.drop (k + 2) := by
    conv => lhs; rw [← List.take_append_drop k l, drop_cons hx, drop_cons hy]
  have h2 : (l.set k y).set (k + 1) x = l.take k ++ y :: x :: l.drop (k + 2) := by
    have hk : k + 1 < l.length := (List.getElem?_eq_some_iff.1 hy).1
    have hlt : (l.take k).length = k := by rw [List.length_take]; omega
    conv => lhs; rw [h1]
    rw [List.set_append_right _ _ (by omega), hlt, Nat.sub_self, List.set_append_right _ _ (by omega), hlt, Nat.add_sub_cancel_left]
    rfl
  rw [h2]
  conv => lhs; rw [h1]
  exact (List.Perm.swap y x _).append_left _

end Go.Proofs.YtlopccnehgolnabGreatDoor

namespace Go.Proofs.YtlopccnehgolnabGreatDoor

structure Acc3 where
  lo : Int
  hi : Int
  sm : Int
def acc3 (a : Acc3) (x : Int) : Acc3 := ⟨min a.lo x, max a.hi x, a.sm + x⟩
def acc3To (l : List Int) : Acc3 := l.foldl acc3 ⟨l.headD 0, l.headD 0, 0⟩
def pickO (pol o : Int) (a : Acc3) : Int := if pol = 4 then a.lo else if pol = 5 then a.hi else if pol = 6 then a.sm else o
def sayR (pol : Int) (l : List Int) : Int × Bool × Int :=
  if (pol = 1 ∧ 1 < l.length) ∨ (pol = 2 ∧ (acc3To l).lo ≠ (acc3To l).hi) then (0, false, 4) else (pickO pol (l.headD 0) (acc3To l), true, 0)

theorem acc3_lo (l : List Int) (a : Acc3) : (l.foldl acc3 a).lo = l.foldl min a.lo := by
  induction l generalizing a with
  | nil => rfl
  | cons x l ih => rw [List.foldl_cons, ih]; rfl
theorem acc3_hi (l : List Int) (a : Acc3) : (l.foldl acc3 a).hi = l.foldl max a.hi := by
  induction l generalizing a with
  | nil => rfl
  | cons x l ih => rw [List.foldl_cons, ih]; rfl
theorem acc3_sm (l : List Int) (a : Acc3) : (l.foldl acc3 a).sm = l.foldl (· + ·) a.sm := by
  induction l generalizing a with
  | nil => rfl
  | cons x l ih => rw [List.foldl_cons, ih]; rfl
theorem min_le (l : List Int) (a : Int) : l.foldl min a ≤ a := by
  induction l generalizing a with
  | nil => exact Int.le_refl _
  | cons x l ih => rw [List.foldl_cons]; have := ih (min a x); omega
theorem max_ge (l : List Int) (a : Int) : a ≤ l.foldl max a := by
  induction l generalizing a with
  | nil => exact Int.le_refl _
  | cons x l ih => rw [List.foldl_cons]; have := ih (max a x); omega

theorem loop4 (l : List Int) (n : Int) : sayLoop 4 n l = (l.foldl min n, true, 0) := by
  induction l generalizing n with
  | nil => rfl
  | cons x l ih => rw [sayLoop]; simp [ih]
theorem loop5 (l : List Int) (n : Int) : sayLoop 5 n l = (l.foldl max n, true, 0) := by
  induction l generalizing n with
  | nil => rfl
  | cons x l ih => rw [sayLoop]; simp [ih]
theorem loop6 (l : List Int) (n : Int) : sayLoop 6 n l = (l.foldl (· + ·) n, true, 0) := by
  induction l generalizing n with
  | nil => rfl
  | cons x l ih => rw [sayLoop]; simp [ih]
theorem loop3 (l : List Int) (n : Int) : sayLoop 3 n l = (n, true, 0) := by
  induction l generalizing n with
  | nil => rfl
  | cons x l ih => rw [sayLoop]; simp [ih]
theorem loop2 (l : List Int) (n : Int) : sayLoop 2 n l = if l.foldl min n ≠ l.foldl max n then (0, false, 4) else (n, true, 0) := by
  induction l generalizing n with
  | nil => simp [sayLoop]
  | cons x l ih =>
    rw [sayLoop]
    simp only [List.foldl_cons]
    by_cases h : x = n
    · subst h
      simp [ih]
    · have h1 := min_le l (min n x)
      have h2 := max_ge l (max n x)
      have h3 : l.foldl min (min n x) ≠ l.foldl max (max n x) := by omega
      simp [h, h3]

theorem sayR_eq {pol : Int} (h1 : 1 ≤ pol) (h6 : pol ≤ 6) (o : Int) (l : List Int) : sayLoop pol o l = sayR pol (o :: l) := by
  have hlo : (acc3To (o :: l)).lo = l.foldl min o := by unfold acc3To; rw [acc3_lo]; simp
  have hhi : (acc3To (o :: l)).hi = l.foldl max o := by unfold acc3To; rw [acc3_hi]; simp
  have hsm : (acc3To (o :: l)).sm = l.foldl (· + ·) o := by unfold acc3To; rw [acc3_sm]; simp
  unfold sayR pickO
  rw [hlo, hhi, hsm]
  have hp : pol = 1 ∨ pol = 2 ∨ pol = 3 ∨ pol = 4 ∨ pol = 5 ∨ pol = 6 := by omega
  rcases hp with rfl | rfl | rfl | rfl | rfl | rfl
  · cases l with
    | nil => simp [sayLoop]
    | cons x l => rw [sayLoop]; simp
  · rw [loop2]; simp
  · rw [loop3]; simp
  · rw [loop4]; simp
  · rw [loop5]; simp
  · rw [loop6]; simp

theorem acc3_snoc {l : List Int} {k : Nat} {x : Int} (h : l[k]? = some x) (a : Acc3) : (l.take (k + 1)).foldl acc3 a = acc3 ((l.take k).foldl acc3 a) x := by
  rw [List.take_add_one, h, Option.toList_some, List.foldl_append]
  rfl

end Go.Proofs.YtlopccnehgolnabGreatDoor
