
/- The contract of Good of tables. -/
import Derived.Test.YtlopccnehgolnabDoorTabM
namespace Go.Proofs.YtlopccnehgolnabDoor
open Go.RowKit Rb

theorem rSl.take {α : Type} {R : Rd α} {w : World} {S : Nat → Prop} {A : Option Addr} {n c : Nat} {l : List α} (h : (rSl R).rel w S [.slice A n c] l) (k : Nat) (hk : k ≤ l.length) : (rSl R).rel w S [.slice A k c] (l.take k) := by
  obtain ⟨A', c', hv, h1, h2, h3, h4⟩ := h
  simp only [List.cons.injEq, and_true] at hv
  injection hv with e1 e2 e3
  subst e1; subst e3
  have hl : (l.take k).length = k := by rw [List.length_take]; omega
  refine ⟨A, c, by rw [hl], by omega, h2, Nat.le_trans (Nat.mul_le_mul_right _ (by omega)) h3, fun i x hx => h4 i x ?_⟩
  rw [List.getElem?_take] at hx
  split at hx
  · exact hx
  · cases hx

theorem all_take {α : Type} {p : α → Bool} {l : List α} {k : Nat} {x : α} (h : l[k]? = some x) : (l.take (k + 1)).all p = ((l.take k).all p && p x) := by
  rw [take_getElem? h]; simp
theorem all_no {α : Type} {p : α → Bool} {l : List α} {k : Nat} {x : α} (h : l[k]? = some x) (hp : p x = false) : l.all p = false := by
  rw [List.all_eq_false]
  exact ⟨x, List.mem_of_getElem? h, by simp [hp]⟩

theorem goodIns_at {l : List Txt} {k : Nat} {s : Txt} (h : l[k]? = some s) : goodIns (l.take k) (l.drop k) = (named s && !(l.take k).contains s && goodIns (l.take (k + 1)) (l.drop (k + 1))) := by
  rw [drop_cons h, goodIns, take_getElem? h]

theorem head_no {t : Tb} (h : goodHead t = false) (hn : named t.name = true) : t.pol < 1 ∨ 7 < t.pol ∨ (t.ins.length : Int) < 1 ∨ 3 < (t.ins.length : Int) ∨ (t.rules.length : Int) < 1 ∨ 6 < (t.rules.length : Int) := by
  unfold goodHead at h
  rw [hn] at h
  by_cases h1 : t.pol < 1
  · exact .inl h1
  by_cases h2 : 7 < t.pol
  · exact .inr (.inl h2)
  simp only [Bool.true_and, Bool.and_eq_false_iff, decide_eq_false_iff_not] at h
  omega
theorem head_yes {t : Tb} (h : goodHead t = true) : named t.name = true ∧ 1 ≤ t.pol ∧ t.pol ≤ 7 ∧ 1 ≤ t.ins.length ∧ t.ins.length ≤ 3 ∧ 1 ≤ t.rules.length ∧ t.rules.length ≤ 6 := by
  unfold goodHead at h
  simp only [Bool.and_eq_true, decide_eq_true_iff] at h
  exact ⟨h.1.1.1.1.1.1, h.1.1.1.1.1.2, h.1.1.1.1.2, h.1.1.1.2, h.1.1.2, h.1.2, h.2⟩

theorem Named_b {s : Txt} {b : Bool} (h : named s = b) (w : World) (hs : s.length ≤ 140737488355328) : Calls Tryd.prog 45 #[.string ⟨s.toArray⟩] w fun e w' => e = .returned (.bool b) ∧ w = w' := h ▸ Named_any s w hs

set_option maxRecDepth 100000 in
set_option maxHeartbeats 1000000 in
theorem TGood_any {S : Nat → Prop} {cs : List Value} {t : Tb} (w : World) (hl : rTb.rel w S cs t) :
    Calls Tryd.prog 17 #[.agg cs.toArray] w fun e w' => e = .returned (.bool (goodT t)) ∧ Below w.heap.size w w' := by
  obtain ⟨vi, vr, rfl, hnm, hp, hi, hr⟩ := hl
  obtain ⟨A, c, rfl, hi1, hi2, hi3, hE⟩ := rSl.elems hi
  obtain ⟨B, d, rfl, hr1, hr2, hr3, hF⟩ := rSl.elems hr
  have hT : goodT t = (goodHead t && goodIns [] t.ins && t.rules.all (goodRule t.ins.length)) := rfl
  have HT := Lib.hid hT
  obtain ⟨W0, e0, hb0, hi', hE', hF', c3, c4, hs0⟩ : ∃ W0, w.alloc (.cells #[.string ⟨t.name.toArray⟩, .int .i64 t.pol, .bool t.comp, .slice A t.ins.length c, .slice B t.rules.length d] 25) = W0 ∧ Below w.heap.size w W0 ∧
      (rSl rStr).rel W0 S [.slice A t.ins.length c] t.ins ∧ Elems rStr W0 S A t.ins ∧ Elems rRl W0 S B t.rules ∧ W0.cell? ⟨w.heap.size, 3, none⟩ = some (.slice A t.ins.length c) ∧ W0.cell? ⟨w.heap.size, 4, none⟩ = some (.slice B t.rules.length d) ∧ w.heap.size < W0.heap.size :=
    ⟨_, rfl, (Below.refl _ _).alloc (Nat.le_refl _) _, Rd.alloc hi _, hE.keep (.alloc _), hF.keep (.alloc _), World.cell?_alloc_new _ _ _ _, World.cell?_alloc_new _ _ _ _, by simp⟩
  have c0 : W0.cell? ⟨w.heap.size, 0, none⟩ = some (.string ⟨t.name.toArray⟩) := by rw [← e0]; exact World.cell?_alloc_new _ _ _ _
  have c1 : W0.cell? ⟨w.heap.size, 1, none⟩ = some (.int .i64 t.pol) := by rw [← e0]; exact World.cell?_alloc_new _ _ _ _
  clear hi hr hE hF hT hi3 hr3
  cases hN : named t.name
  · have HN := Lib.hid hN
    have HF : Hid (goodT t = false) := Lib.hid (by rw [HT.out, goodHead, hN]; rfl)
    clear hN
    go_enter Tryd.func17, Tryd.ntmps17
    go_wp2_with (first | (go_at_call 45; refine (Named_b HN.out _ hnm).mono ?_; rintro e w' ⟨rfl, rfl⟩))
    go_ret
    exact ⟨ret_bool HF.out.symm, hb0⟩
  have HN := Lib.hid hN
  cases hH : goodHead t
  · have HF : Hid (goodT t = false) := Lib.hid (by rw [HT.out, hH]; rfl)
    have hx := head_no hH hN
    clear hN hH
    rcases hx with hx | hx | hx | hx | hx | hx
    all_goals
      go_enter Tryd.func17, Tryd.ntmps17
      go_wp2_with (first | (go_at_call 45; refine (Named_b HN.out _ hnm).mono ?_; rintro e w' ⟨rfl, rfl⟩))
      all_goals
        go_ret
        exact ⟨ret_bool HF.out.symm, hb0⟩
  obtain ⟨_, k1, k2, k3, k4, k5, k6⟩ := head_yes hH
  have k3' : (1 : Int) ≤ (t.ins.length : Int) := by omega
  have k4' : (t.ins.length : Int) ≤ 3 := by omega
  have k5' : (1 : Int) ≤ (t.rules.length : Int) := by omega
  have k6' : (t.rules.length : Int) ≤ 6 := by omega
  have HT2 : Hid (goodT t = (goodIns [] t.ins && t.rules.all (goodRule t.ins.length))) := Lib.hid (by rw [HT.out, hH]; simp)
  clear hN hH HT
  go_enter Tryd.func17, Tryd.ntmps17
  go_wp2_with (first | (go_at_call 45; refine (Named_b HN.out _ hnm).mono ?_; rintro e w' ⟨rfl, rfl⟩))
  go_loop [50] (fun i => ∃ k : Nat, k ≤ t.ins.length ∧ i = .int .i64 k ∧ Hid (goodIns [] t.ins = goodIns (t.ins.take k) (t.ins.drop k))) (fun i => t.ins.length - (intOf i).toNat)
  case atStart => exact ⟨0, Nat.zero_le _, rfl, Lib.hid rfl⟩
  case round =>
    obtain ⟨k, hk, rfl, HK⟩ := hrel
    by_cases hlt : k < t.ins.length
    · obtain ⟨b, off, s, rfl, _, hb, hx, hsl, h1⟩ := hE'.str hlt
      have hik : (k : Int) < (t.ins.length : Int) := by omega
      have HX := Lib.hid hx
      have hsplit := goodIns_at hx
      have HC := Lib.hid (Contains_any s W0 (rSl.take hi' k hk))
      have HK2 := Lib.hid (HK.out.trans hsplit)
      clear hsplit hx hE'
      cases hns : named s
      · have HNS := Lib.hid hns
        have HF : Hid (goodT t = false) := Lib.hid (by rw [HT2.out, HK2.out, hns]; rfl)
        clear hns
        go_wp2_with (first | (go_at_call 45; refine (Named_b HNS.out _ hsl).mono ?_; rintro e w' ⟨rfl, rfl⟩))
        go_ret
        exact ⟨ret_bool HF.out.symm, hb0⟩
      · have HNS := Lib.hid hns
        rw [hns] at HK2
        cases hcs : (t.ins.take k).contains s
        · have HK3 : Hid (goodIns [] t.ins = goodIns (t.ins.take (k + 1)) (t.ins.drop (k + 1))) := Lib.hid (by rw [HK2.out, hcs]; rfl)
          rw [hcs] at HC
          clear hns hcs HK2 HK
          go_wp2_with (first | (go_at_call 45; refine (Named_b HNS.out _ hsl).mono ?_; rintro e w' ⟨rfl, rfl⟩) | (go_at_call 46; refine HC.out.mono ?_; rintro e w' ⟨rfl, rfl⟩))
          go_round
          case rel => exact ⟨k + 1, by omega, by go_num, HK3⟩
          case measure => simp [intOf]; omega
        · have HF : Hid (goodT t = false) := Lib.hid (by rw [HT2.out, HK2.out, hcs]; rfl)
          rw [hcs] at HC
          clear hns hcs HK2 HK
          go_wp2_with (first | (go_at_call 45; refine (Named_b HNS.out _ hsl).mono ?_; rintro e w' ⟨rfl, rfl⟩) | (go_at_call 46; refine HC.out.mono ?_; rintro e w' ⟨rfl, rfl⟩))
          go_ret
          exact ⟨ret_bool HF.out.symm, hb0⟩
    · have HI : Hid (goodT t = t.rules.all (goodRule t.ins.length)) := Lib.hid (by
        rw [HT2.out, HK.out, List.drop_eq_nil_of_le (by omega)]; rfl)
      clear HK HT2 hE' hi'
      go_wp2
      go_loopw [70] (fun i wr => ∃ k : Nat, k ≤ t.rules.length ∧ i = .int .i64 k ∧ Hid ((t.rules.take k).all (goodRule t.ins.length) = true) ∧ Below W0.heap.size W0 wr) (fun i _ => t.rules.length - (intOf i).toNat)
      case atStart => exact ⟨0, Nat.zero_le _, rfl, Lib.hid rfl, Below.refl _ _⟩
      case round =>
        obtain ⟨k, hk, rfl, HK, hbl⟩ := hrel
        by_cases hlt : k < t.rules.length
        · obtain ⟨b, off, r, q, rfl, _, hb, hx, _, hq, h1, h2⟩ := hF'.rl hlt
          rw [← hbl.cell (p := ⟨b, _, none⟩) hb] at h1 h2
          have hq' := Rd.below hq hbl
          obtain ⟨A2, c2, rfl, _, _, hl2, hE2⟩ := rSl.elems hq'
          have hik : (k : Int) < (t.rules.length : Int) := by omega
          have HX := Lib.hid hx
          have g3 := c3
          rw [← hbl.cell (p := ⟨w.heap.size, _, none⟩) hs0] at g3
          have hl2' : r.cells.length ≤ 4398046511104 := by simp only [rCl] at hl2; omega
          have HF1 : Hid (goodRule t.ins.length r = false → goodT t = false) := Lib.hid (fun h => by rw [HI.out, all_no hx h])
          have HS1 : Hid (goodRule t.ins.length r = true → (t.rules.take (k + 1)).all (goodRule t.ins.length) = true) := Lib.hid (fun h => by rw [all_take hx, HK.out, h]; rfl)
          obtain ⟨W1, e1, hb1, hE3, d0, d1, d3, hs1⟩ : ∃ W1, wr.alloc (.cells #[.slice A2 r.cells.length c2, .int .i64 r.out] 43) = W1 ∧ Below W0.heap.size W0 W1 ∧
              Elems rCl W1 S A2 r.cells ∧ W1.cell? ⟨wr.heap.size, 0, none⟩ = some (.slice A2 r.cells.length c2) ∧ W1.cell? ⟨wr.heap.size, 1, none⟩ = some (.int .i64 r.out) ∧ W1.cell? ⟨w.heap.size, 3, none⟩ = some (.slice A t.ins.length c) ∧ wr.heap.size < W1.heap.size :=
            ⟨_, rfl, hbl.alloc hbl.size _, hE2.keep (.alloc _), World.cell?_alloc_new _ _ _ _, World.cell?_alloc_new _ _ _ _, (World.cell?_alloc_lt _ _ _ (World.block_lt_of_cell? _ _ g3)).trans g3, by simp⟩
          have hbW := hb0.trans (hb1.mono hb0.size)
          clear hx hq hq' hE2 g3 hl2 HK
          cases hnr : isNum r.out
          · have HNR := Lib.hid (tnumber_any r.out W1)
            rw [hnr] at HNR
            have HF : Hid (goodT t = false) := Lib.hid (HF1.out (by unfold goodRule; rw [hnr]; rfl))
            clear hnr
            go_wp2_with (first | (go_at_call 47; refine HNR.out.mono ?_; rintro e w' ⟨rfl, rfl⟩))
            go_ret
            exact ⟨ret_bool HF.out.symm, hbW⟩
          have HNR := Lib.hid (tnumber_any r.out W1)
          rw [hnr] at HNR
          by_cases hlen : r.cells.length = t.ins.length
          · have hne : ((r.cells.length : Int) != (t.ins.length : Int)) = false := by rw [bne_eq_false_iff_eq]; omega
            have HL := Lib.hid hlen
            have HR : Hid (goodRule t.ins.length r = r.cells.all goodCell) := Lib.hid (by unfold goodRule; rw [hnr, hlen]; simp)
            clear hnr hlen
            go_wp2_with (first | (go_at_call 47; refine HNR.out.mono ?_; rintro e w' ⟨rfl, rfl⟩))
            clear e1 hne h1 h2 d1 d3
            generalize wr.heap.size = p at *
            go_loopw [90] (fun i wr => ∃ j : Nat, j ≤ r.cells.length ∧ i = .int .i64 j ∧ Hid ((r.cells.take j).all goodCell = true) ∧ Below W1.heap.size W1 wr) (fun i _ => r.cells.length - (intOf i).toNat)
            case atStart => exact ⟨0, Nat.zero_le _, rfl, Lib.hid rfl, Below.refl _ _⟩
            case round =>
              obtain ⟨j, hj, rfl, HJ, hbi⟩ := hrel
              by_cases hlj : j < r.cells.length
              · obtain ⟨b1, off1, cl, q1, rfl, _, hb2, hx1, hq1, g1, g2⟩ := hE3.cl hlj
                rw [← hbi.cell (p := ⟨b1, _, none⟩) hb2] at g1 g2
                have hj1 : (j : Int) < (r.cells.length : Int) := by omega
                have hq2 := Rd.below hq1 hbi
                obtain ⟨A5, c5, rfl, _, _, hl5, _⟩ := rSl.elems hq1
                have hl5' : cl.rs.length ≤ 8796093022208 := by simp only [rRg] at hl5; omega
                clear hl5
                have HF2 : Hid (goodCell cl = false → goodT t = false) := Lib.hid (fun h => HF1.out (by rw [HR.out]; exact all_no hx1 h))
                have HS2 : Hid (goodCell cl = true → (r.cells.take (j + 1)).all goodCell = true) := Lib.hid (fun h => by rw [all_take hx1, HJ.out, h]; rfl)
                generalize hm : cl.rs.length = m at *
                generalize hno : cl.no = no at *
                obtain ⟨W2, e2, hbj, hq3, f0, f1⟩ : ∃ W2, wr.alloc (.cells #[.bool no, .slice A5 m c5] 53) = W2 ∧ Below W1.heap.size W1 W2 ∧ (rSl rRg).rel W2 S [.slice A5 m c5] cl.rs ∧
                    W2.cell? ⟨wr.heap.size, 0, none⟩ = some (.bool no) ∧ W2.cell? ⟨wr.heap.size, 1, none⟩ = some (.slice A5 m c5) :=
                  ⟨_, rfl, hbi.alloc hbi.size _, Rd.alloc hq2 _, World.cell?_alloc_new _ _ _ _, World.cell?_alloc_new _ _ _ _⟩
                have HG := Lib.hid (Good_any W2 hq3)
                clear hx1 hq1 hq2 hq3 HJ
                have hgc : goodCell cl = (decide (m ≤ 4) && isSet cl.rs && !(no && decide (m = 0))) := by rw [← hm, ← hno]; rfl
                have HGC := Lib.hid hgc
                clear hgc hm hno
                have h5 : 4 < (m : Int) ∨ ((m : Int) ≤ 4 ∧ isSet cl.rs = false) ∨ ((m : Int) ≤ 4 ∧ isSet cl.rs = true ∧ no = false) ∨ ((m : Int) ≤ 4 ∧ isSet cl.rs = true ∧ no = true ∧ m = 0) ∨ ((m : Int) ≤ 4 ∧ isSet cl.rs = true ∧ no = true ∧ ((m : Int) == 0) = false) := by
                  cases isSet cl.rs <;> cases no <;> simp <;> omega
                rcases h5 with h5 | ⟨h5, h6⟩ | ⟨h5, h6, rfl⟩ | ⟨h5, h6, rfl, rfl⟩ | ⟨h5, h6, rfl, h7⟩
                · have hd5 : decide (4 < (m : Int)) = true := by simp; omega
                  have HF : Hid (goodT t = false) := Lib.hid (HF2.out (by rw [HGC.out, show decide (m ≤ 4) = false by simp; omega]; rfl))
                  go_wp2
                  go_ret
                  exact ⟨ret_bool HF.out.symm, hbW.trans (hbj.mono hbW.size)⟩
                · have hd5 : decide (4 < (m : Int)) = false := by simp; omega
                  have HF : Hid (goodT t = false) := Lib.hid (HF2.out (by rw [HGC.out, h6]; simp))
                  rw [h6] at HG
                  clear h6
                  go_wp2_with (first | (go_at_call 48; refine HG.out.mono ?_; rintro e w3 ⟨rfl, hb3⟩))
                  go_ret
                  exact ⟨ret_bool HF.out.symm, (hbW.trans (hbj.mono hbW.size)).trans (hb3.mono (Nat.le_trans hbW.size hbj.size))⟩
                · have hd5 : decide (4 < (m : Int)) = false := by simp; omega
                  have HS : Hid (goodCell cl = true) := Lib.hid (by rw [HGC.out, h6, show decide (m ≤ 4) = true by simp; omega]; rfl)
                  rw [h6] at HG
                  clear h6
                  go_wp2_with (first | (go_at_call 48; refine HG.out.mono ?_; rintro e w3 ⟨rfl, hb3⟩; (try have f0' := (hb3.cell (p := ⟨wr.heap.size, 0, none⟩) (World.block_lt_of_cell? _ _ f0)).trans f0); (try have f1' := (hb3.cell (p := ⟨wr.heap.size, 1, none⟩) (World.block_lt_of_cell? _ _ f1)).trans f1)))
                  go_roundw
                  case rel => exact ⟨j + 1, by omega, by go_num, Lib.hid (HS2.out HS.out), hbj.trans (hb3.mono hbj.size)⟩
                  case measure => simp [intOf]; omega
                · have hd5 : decide (4 < (((0 : Nat) : Int) : Int)) = false := by simp
                  have HF : Hid (goodT t = false) := Lib.hid (HF2.out (by rw [HGC.out]; simp))
                  rw [h6] at HG
                  clear h6
                  go_wp2_with (first | (go_at_call 48; refine HG.out.mono ?_; rintro e w3 ⟨rfl, hb3⟩; (try have f0' := (hb3.cell (p := ⟨wr.heap.size, 0, none⟩) (World.block_lt_of_cell? _ _ f0)).trans f0); (try have f1' := (hb3.cell (p := ⟨wr.heap.size, 1, none⟩) (World.block_lt_of_cell? _ _ f1)).trans f1)))
                  go_ret
                  exact ⟨ret_bool HF.out.symm, (hbW.trans (hbj.mono hbW.size)).trans (hb3.mono (Nat.le_trans hbW.size hbj.size))⟩
                · have hd5 : decide (4 < (m : Int)) = false := by simp; omega
                  have HS : Hid (goodCell cl = true) := Lib.hid (by
                    have : ¬ m = 0 := by rintro rfl; simp at h7
                    rw [HGC.out, h6, show decide (m ≤ 4) = true by simp; omega]; simp [this])
                  rw [h6] at HG
                  clear h6
                  go_wp2_with (first | (go_at_call 48; refine HG.out.mono ?_; rintro e w3 ⟨rfl, hb3⟩; (try have f0' := (hb3.cell (p := ⟨wr.heap.size, 0, none⟩) (World.block_lt_of_cell? _ _ f0)).trans f0); (try have f1' := (hb3.cell (p := ⟨wr.heap.size, 1, none⟩) (World.block_lt_of_cell? _ _ f1)).trans f1)))
                  go_roundw
                  case rel => exact ⟨j + 1, by omega, by go_num, Lib.hid (HS2.out HS.out), hbj.trans (hb3.mono hbj.size)⟩
                  case measure => simp [intOf]; omega
              · have HS : Hid ((t.rules.take (k + 1)).all (goodRule t.ins.length) = true) := Lib.hid (HS1.out (by
                  have := HJ.out
                  rw [List.take_of_length_le (by omega)] at this
                  rw [HR.out, this]))
                go_wp2
                go_roundw
                case rel => exact ⟨k + 1, by omega, by go_num, HS, hb1.trans (hbi.mono hb1.size)⟩
                case measure => simp [intOf]; omega
          · have hne : ((r.cells.length : Int) != (t.ins.length : Int)) = true := by rw [bne_iff_ne]; omega
            have HF : Hid (goodT t = false) := Lib.hid (HF1.out (by unfold goodRule; simp [hlen]))
            clear hnr hlen
            go_wp2_with (first | (go_at_call 47; refine HNR.out.mono ?_; rintro e w' ⟨rfl, rfl⟩))
            go_ret
            exact ⟨ret_bool HF.out.symm, hbW⟩
        · have HF : Hid (goodT t = true) := Lib.hid (by
            have := HK.out
            rw [List.take_of_length_le (by omega)] at this
            rw [HI.out, this])
          go_wp2
          go_ret
          exact ⟨ret_bool HF.out.symm, hb0.trans (hbl.mono hb0.size)⟩

end Go.Proofs.YtlopccnehgolnabDoor
