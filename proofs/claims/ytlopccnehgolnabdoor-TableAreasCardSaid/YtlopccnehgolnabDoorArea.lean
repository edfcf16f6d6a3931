
/- The contract of Area: the box of a rule's inputs within domains. -/
import Derived.Test.YtlopccnehgolnabDoorBoxSplits
import Derived.Test.YtlopccnehgolnabDoorTabS
namespace Go.Proofs.YtlopccnehgolnabDoor
open Go.RowKit Rb

/-- The numbers of a set that a cell holds of. -/
def cellArea (c : Cl) (s : List Rg) : List Rg := if c.no then lessS s (normS c.rs) else if 0 < c.rs.length then bothS s (normS c.rs) else s
def areaGo : List Cl → Bx → Option Bx
  | c :: cs, s :: all => if (cellArea c s).length = 0 then none else (areaGo cs all).map (cellArea c s :: ·)
  | _, _ => some []
def areaB (r : Rl) (all : Bx) : Option Bx := if decide (r.cells.length = all.length) && goodBx all (all.length : Int) then areaGo r.cells all else none

def SameLen (r : Rl) (all : Bx) : Prop := r.cells.length = all.length
theorem areaGo_at {cs : List Cl} {all : Bx} {k : Nat} {c : Cl} {s : List Rg} (hc : cs[k]? = some c) (hs : all[k]? = some s) :
    areaGo (cs.drop k) (all.drop k) = if (cellArea c s).length = 0 then none else (areaGo (cs.drop (k + 1)) (all.drop (k + 1))).map (cellArea c s :: ·) := by
  rw [drop_cons hc, drop_cons hs]; rfl

theorem Norm_at {S : Nat → Prop} {v : Value} {l L : List Rg} (w : World) (hl : (rSl rRg).rel w S [v] l) (h : normS l = L) :
    Calls Tryd.prog 36 #[v] w fun e w' => ∃ u, e = .returned u ∧ Own rRg 72 w' w.heap.size S u L ∧ Below w.heap.size w w' := h ▸ Norm_any w hl
theorem Both_at {S T : Nat → Prop} {v u : Value} {a b L : List Rg} (w : World) (hl : (rSl rRg).rel w S [v] a) (hm : (rSl rRg).rel w T [u] b) (ga : GoodS a) (gb : GoodS b) (h : bothS a b = L) :
    Calls Tryd.prog 37 #[v, u] w fun e w' => ∃ x, e = .returned x ∧ Own rRg 72 w' w.heap.size (fun _ => False) x L ∧ Below w.heap.size w w' := h ▸ Both_any w hl hm ga gb
theorem Less_at {S T : Nat → Prop} {v u : Value} {a b L : List Rg} (w : World) (hl : (rSl rRg).rel w S [v] a) (hm : (rSl rRg).rel w T [u] b) (ga : GoodS a) (gb : GoodS b) (h : lessS a b = L) :
    Calls Tryd.prog 35 #[v, u] w fun e w' => ∃ x, e = .returned x ∧ Own rRg 72 w' w.heap.size (fun _ => False) x L ∧ Below w.heap.size w w' := h ▸ Less_any w hl hm ga gb

set_option maxRecDepth 100000 in
set_option maxHeartbeats 800000 in
theorem Area_any {S T : Nat → Prop} {v u : Value} {r : Rl} {all : Bx} (w : World) (hl : (rSl rCl).rel w S [v] r.cells) (hm : rBx.rel w T [u] all) :
    Calls Tryd.prog 13 #[.agg #[v, .int .i64 r.out], u] w fun e w' => ∃ z, e = .returned (.tuple #[z, .bool (someBx (areaB r all))]) ∧ Own (rSl rRg) 51 w' w.heap.size T z (optBx (areaB r all)) ∧ Below w.heap.size w w' := by
  have hal := rSl.lenle hm (by decide)
  obtain ⟨A, c, rfl, _, _, hbA, hE⟩ := rSl.elems hl
  obtain ⟨B, d, rfl, _, _, _, hF⟩ := rSl.elems hm
  have hcl : r.cells.length ≤ 4398046511104 := by simp only [rCl] at hbA; omega
  obtain ⟨W0, e0, hB0, c0, hB0s⟩ : ∃ W0, w.alloc (.cells #[.slice A r.cells.length c, .int .i64 r.out] 43) = W0 ∧ Below w.heap.size w W0 ∧ W0.cell? ⟨w.heap.size, 0, none⟩ = some (.slice A r.cells.length c) ∧ w.heap.size < W0.heap.size :=
    ⟨_, rfl, (Below.refl _ _).alloc (Nat.le_refl _) _, World.cell?_alloc_new _ _ _ _, by simp⟩
  have HG := Lib.hid (BGood_any (all.length : Int) W0 (Rd.below hm hB0))
  clear hl hm hbA
  by_cases hlen : r.cells.length = all.length
  case neg =>
    have hn : ((r.cells.length : Int) == (all.length : Int)) = false := by rw [beq_eq_false_iff_ne]; omega
    have HF : Hid (areaB r all = none) := Lib.hid (by unfold areaB; rw [decide_eq_false hlen]; rfl)
    go_enter Tryd.func13, Tryd.ntmps13
    go_wp2
    go_ret2
    exact ⟨_, by rw [HF.out]; rfl, by rw [HF.out]; exact Own.nil _ _ _ _ _, hB0⟩
  have HLEN : SameLen r all := hlen
  have HLB : Hid (areaB r all = if goodBx all (all.length : Int) then (areaGo (r.cells.drop 0) (all.drop 0)).map ([] ++ ·) else none) := Lib.hid (by unfold areaB; rw [decide_eq_true hlen]; simp)
  generalize r.cells.length = m at *
  subst hlen
  cases hg : goodBx all (all.length : Int)
  · rw [hg] at HG
    have HF : Hid (areaB r all = none) := Lib.hid (by rw [HLB.out, hg]; rfl)
    clear hg
    go_enter Tryd.func13, Tryd.ntmps13
    go_wp2_with (first | (go_at_call 34; go_must (((with_reducible refine HG.out.mono ?_); rintro e w1 ⟨rfl, hb1⟩))))
    go_ret2
    exact ⟨_, by rw [HF.out]; rfl, by rw [HF.out]; exact Own.nil _ _ _ _ _, hB0.trans (hb1.mono hB0.size)⟩
  rw [hg] at HG
  have HAR : Hid (areaB r all = (areaGo (r.cells.drop 0) (all.drop 0)).map ([] ++ ·)) := Lib.hid (by rw [HLB.out, hg]; rfl)
  have HGS := Lib.hid (goodBx_iff.1 hg).1
  have ha3 := (goodBx_iff.1 hg).2.2
  clear hg HLB
  go_enter Tryd.func13, Tryd.ntmps13
  go_wp2_with (first | (go_at_call 34; ((with_reducible refine HG.out.mono ?_); rintro e w1 ⟨rfl, hb1⟩; have hc1 := (hb1.cell (p := ⟨w.heap.size, 0, none⟩) hB0s).trans c0)))
  have hbw := hB0.trans (hb1.mono hB0.size)
  clear e0 c0 hb1 hc1
  go_loopw [6, 26] (fun o i wr => ∃ (k : Nat) (pre : Bx), k ≤ all.length ∧ i = .int .i64 k ∧ Own (rSl rRg) 51 wr w.heap.size T o pre ∧ pre.length = k ∧ Hid (areaB r all = (areaGo (r.cells.drop k) (all.drop k)).map (pre ++ ·)) ∧ Below w.heap.size w wr) (fun _ i _ => all.length - (intOf i).toNat)
  case atStart => exact ⟨0, [], Nat.zero_le _, rfl, Own.nil _ _ _ _ _, rfl, HAR, hbw⟩
  case round =>
    clear HG HAR hbw
    obtain ⟨k, pre, hk, rfl, hown, hpl, HI, hb⟩ := hrel
    by_cases hlt : k < all.length
    · obtain ⟨bA, off, cl, q, rfl, _, hbA, hx, hq, g1, g2⟩ := hE.cl (show k < r.cells.length by rw [HLEN]; exact hlt)
      obtain ⟨bB, off', v', s, rfl, _, hbB, hx', hs', g3⟩ := hF.sl hlt
      rw [← hb.cell (p := ⟨bA, _, none⟩) hbA] at g1 g2
      rw [← hb.cell (p := ⟨bB, _, none⟩) hbB] at g3
      have hgs := (HGS.out s (List.mem_of_getElem? hx')).2
      have HAT := Lib.hid (areaGo_at hx hx')
      have hik : (k : Int) < (all.length : Int) := by omega
      obtain ⟨no, rs⟩ := cl
      dsimp only at g1 g2 hq
      obtain ⟨W1, e1, hown1, hb1, hq1, hs1, c0, c1, g31, hs1z⟩ : ∃ W1, wr.alloc (.cells #[.bool no, q] 53) = W1 ∧ Own (rSl rRg) 51 W1 w.heap.size T u6 pre ∧ Below w.heap.size w W1 ∧ (rSl rRg).rel W1 S [q] rs ∧ (rSl rRg).rel W1 (fun b => T b ∧ b < w.heap.size) [v'] s ∧
          W1.cell? ⟨wr.heap.size, 0, none⟩ = some (.bool no) ∧ W1.cell? ⟨wr.heap.size, 1, none⟩ = some q ∧ W1.cell? ⟨bB, off' + k, none⟩ = some v' ∧ wr.heap.size < W1.heap.size :=
        ⟨_, rfl, hown.alloc _, hb.alloc hb.size _, Rd.below hq (hb.alloc hb.size _), Rd.below ((rSl rRg).mono hs' fun b h h' => ⟨h, h'⟩) (hb.alloc hb.size _), World.cell?_alloc_new _ _ _ _, World.cell?_alloc_new _ _ _ _, (World.cell?_alloc_lt _ _ _ (Nat.lt_of_lt_of_le hbB hb.size)).trans g3, by simp⟩
      clear hown hq hs' hx hx' hE hF g3
      obtain ⟨A2, c2, rfl, _⟩ := rSl.elems hq1
      obtain ⟨A3, c3, rfl, _⟩ := rSl.elems hs1
      have hbase := hb1.size
      have hlt6 := Lib.hid hown1.lt
      have HUP : Hid (∀ w4, Below W1.heap.size W1 w4 → ∀ b, Up (fun _ => False) w4.heap.size b → Up T w.heap.size b ∧ u6.ownBlock ≠ some b) := Lib.hid (by
        rintro w4 h4 b (h | h)
        · exact h.elim
        · exact ⟨.inr (Nat.le_trans hbase (Nat.le_trans h4.size h)), fun e => by have := hlt6.out _ e; have := h4.size; omega⟩)
      have HUP3 : Hid (∀ b, T b ∧ b < w.heap.size → Up T w.heap.size b ∧ u6.ownBlock ≠ some b) := Lib.hid fun b h => ⟨.inl h.1, fun e => by have := hlt6.out _ e; omega⟩
      have HBY : Hid ((pre.length + 1) * (rSl rRg).bytes ≤ 140737488355328) := Lib.hid (by rw [hpl]; show (_ + _) * 24 ≤ _; omega)
      cases no
      · by_cases hr0 : rs.length = 0
        · have hca : cellArea ⟨false, rs⟩ s = s := by unfold cellArea; rw [if_neg (by simp), if_neg (by simp [hr0])]
          have HCA := Lib.hid hca
          clear hca hq1
          generalize rs.length = m0 at *
          subst hr0
          by_cases hz : s.length = 0
          · have HF : Hid (areaB r all = none) := Lib.hid (by rw [HI.out, HAT.out, HCA.out, if_pos hz]; rfl)
            go_wp2
            go_ret2
            exact ⟨_, by rw [HF.out]; rfl, by rw [HF.out]; exact Own.nil _ _ _ _ _, hb1.trans ((Below.refl _ _).mono hb1.size)⟩
          · have HF : Hid (areaB r all = (areaGo (r.cells.drop (k + 1)) (all.drop (k + 1))).map ((pre ++ [s]) ++ ·)) := Lib.hid (by rw [HI.out, HAT.out, HCA.out, if_neg hz]; simp [Option.map_map, Function.comp_def])
            have hz2 : ((s.length : Int) == 0) = false := by rw [beq_eq_false_iff_ne]; omega
            go_wp2_with (first | (at_builtin; go_must (refine wpList_append_new (R := rSl rRg) (x := s) el_Rgs rfl (.tmp 56) (.tmp 58) rfl rfl (hown1) [.slice A3 s.length c3] rfl rfl (fun b => T b ∧ b < w.heap.size) (hs1) (fun b h _ => HUP3.out b h) HBY.out (Nat.le_trans hbase (Below.refl W1.heap.size W1).size) ?_); intro v9 w9 hown9 hb9 _ _))
            go_roundw
            case rel => exact ⟨k + 1, pre ++ [s], by omega, by go_num, hown9, by simp [hpl], HF, (hb1.trans ((Below.refl _ _).mono hb1.size)).trans hb9⟩
            case measure => simp [intOf]; omega
        · have hr1 : (0 : Int) < (rs.length : Int) := by omega
          have hca : cellArea ⟨false, rs⟩ s = bothS s (normS rs) := by unfold cellArea; rw [if_neg (by simp), if_pos (by show 0 < rs.length; omega)]
          generalize hnr : normS rs = nr at *
          have HNR := Lib.hid hnr
          have HNG : Hid (GoodS nr) := Lib.hid (hnr ▸ (normS_good rs).1)
          clear hnr
          generalize hcs : bothS s nr = cs at *
          have HCS := Lib.hid hcs
          have HCA := Lib.hid hca
          have hcl2 : cs.length ≤ 2000002 := hcs ▸ GoodS_length (bothS_good s nr).1
          clear hcs hca
          by_cases hz : cs.length = 0
          · have HF : Hid (areaB r all = none) := Lib.hid (by rw [HI.out, HAT.out, HCA.out, if_pos hz]; rfl)
            go_wp2_with (first | (go_at_call 36; go_must ((with_reducible refine (Norm_at W1 hq1 HNR.out).mono ?_); rintro e w4 ⟨z4, rfl, how4, hb4⟩; obtain ⟨A4, c4, rfl⟩ := how4.value; have hr4 := how4.rel (by decide); have hs4 := Rd.below hs1 hb4)) | (go_at_call 37; go_must ((with_reducible refine (Both_at w4 hs4 hr4 hgs HNG.out HCS.out).mono ?_); rintro e w5 ⟨z5, rfl, how5, hb5⟩; obtain ⟨A5, c5, rfl⟩ := how5.value)))
            go_ret2
            exact ⟨_, by rw [HF.out]; rfl, by rw [HF.out]; exact Own.nil _ _ _ _ _, hb1.trans ((hb4.trans (hb5.mono hb4.size)).mono hb1.size)⟩
          · have HF : Hid (areaB r all = (areaGo (r.cells.drop (k + 1)) (all.drop (k + 1))).map ((pre ++ [cs]) ++ ·)) := Lib.hid (by rw [HI.out, HAT.out, HCA.out, if_neg hz]; simp [Option.map_map, Function.comp_def])
            have hz2 : ((cs.length : Int) == 0) = false := by rw [beq_eq_false_iff_ne]; omega
            go_wp2_with (first | (go_at_call 36; go_must ((with_reducible refine (Norm_at W1 hq1 HNR.out).mono ?_); rintro e w4 ⟨z4, rfl, how4, hb4⟩; obtain ⟨A4, c4, rfl⟩ := how4.value; have hr4 := how4.rel (by decide); have hs4 := Rd.below hs1 hb4)) | (go_at_call 37; go_must ((with_reducible refine (Both_at w4 hs4 hr4 hgs HNG.out HCS.out).mono ?_); rintro e w5 ⟨z5, rfl, how5, hb5⟩; obtain ⟨A5, c5, rfl⟩ := how5.value)) | (at_builtin; go_must (refine wpList_append_new (R := rSl rRg) (x := cs) el_Rgs rfl (.tmp 56) (.tmp 58) rfl rfl ((hown1.below hb4).below hb5) [.slice A5 cs.length c5] rfl rfl (Up (fun _ => False) w4.heap.size) (how5.rel (by decide)) (fun b h _ => HUP.out w4 hb4 b h) HBY.out (Nat.le_trans hbase (hb4.trans (hb5.mono hb4.size)).size) ?_); intro v9 w9 hown9 hb9 _ _))
            go_roundw
            case rel => exact ⟨k + 1, pre ++ [cs], by omega, by go_num, hown9, by simp [hpl], HF, (hb1.trans ((hb4.trans (hb5.mono hb4.size)).mono hb1.size)).trans hb9⟩
            case measure => simp [intOf]; omega
      · have hca : cellArea ⟨true, rs⟩ s = lessS s (normS rs) := rfl
        generalize hnr : normS rs = nr at *
        have HNR := Lib.hid hnr
        have HNG : Hid (GoodS nr) := Lib.hid (hnr ▸ (normS_good rs).1)
        clear hnr
        generalize hcs : lessS s nr = cs at *
        have HCS := Lib.hid hcs
        have HCA := Lib.hid hca
        have hcl2 : cs.length ≤ 2000002 := hcs ▸ GoodS_length (lessS_good s nr).1
        clear hcs hca
        by_cases hz : cs.length = 0
        · have HF : Hid (areaB r all = none) := Lib.hid (by rw [HI.out, HAT.out, HCA.out, if_pos hz]; rfl)
          go_wp2_with (first | (go_at_call 36; go_must ((with_reducible refine (Norm_at W1 hq1 HNR.out).mono ?_); rintro e w4 ⟨z4, rfl, how4, hb4⟩; obtain ⟨A4, c4, rfl⟩ := how4.value; have hr4 := how4.rel (by decide); have hs4 := Rd.below hs1 hb4)) | (go_at_call 35; go_must ((with_reducible refine (Less_at w4 hs4 hr4 hgs HNG.out HCS.out).mono ?_); rintro e w5 ⟨z5, rfl, how5, hb5⟩; obtain ⟨A5, c5, rfl⟩ := how5.value)))
          go_ret2
          exact ⟨_, by rw [HF.out]; rfl, by rw [HF.out]; exact Own.nil _ _ _ _ _, hb1.trans ((hb4.trans (hb5.mono hb4.size)).mono hb1.size)⟩
        · have HF : Hid (areaB r all = (areaGo (r.cells.drop (k + 1)) (all.drop (k + 1))).map ((pre ++ [cs]) ++ ·)) := Lib.hid (by rw [HI.out, HAT.out, HCA.out, if_neg hz]; simp [Option.map_map, Function.comp_def])
          have hz2 : ((cs.length : Int) == 0) = false := by rw [beq_eq_false_iff_ne]; omega
          go_wp2_with (first | (go_at_call 36; go_must ((with_reducible refine (Norm_at W1 hq1 HNR.out).mono ?_); rintro e w4 ⟨z4, rfl, how4, hb4⟩; obtain ⟨A4, c4, rfl⟩ := how4.value; have hr4 := how4.rel (by decide); have hs4 := Rd.below hs1 hb4)) | (go_at_call 35; go_must ((with_reducible refine (Less_at w4 hs4 hr4 hgs HNG.out HCS.out).mono ?_); rintro e w5 ⟨z5, rfl, how5, hb5⟩; obtain ⟨A5, c5, rfl⟩ := how5.value)) | (at_builtin; go_must (refine wpList_append_new (R := rSl rRg) (x := cs) el_Rgs rfl (.tmp 56) (.tmp 58) rfl rfl ((hown1.below hb4).below hb5) [.slice A5 cs.length c5] rfl rfl (Up (fun _ => False) w4.heap.size) (how5.rel (by decide)) (fun b h _ => HUP.out w4 hb4 b h) HBY.out (Nat.le_trans hbase (hb4.trans (hb5.mono hb4.size)).size) ?_); intro v9 w9 hown9 hb9 _ _))
          go_roundw
          case rel => exact ⟨k + 1, pre ++ [cs], by omega, by go_num, hown9, by simp [hpl], HF, (hb1.trans ((hb4.trans (hb5.mono hb4.size)).mono hb1.size)).trans hb9⟩
          case measure => simp [intOf]; omega
    · have hke : k = all.length := by omega
      have HF : Hid (areaB r all = some pre) := Lib.hid (by
        rw [HI.out, List.drop_eq_nil_of_le (by rw [HLEN]; omega), List.drop_eq_nil_of_le (by omega)]; simp [areaGo])
      obtain ⟨A9, c9, rfl⟩ := hown.value
      go_wp2
      go_ret2
      exact ⟨_, by rw [HF.out]; rfl, by rw [HF.out]; exact hown, hb⟩

end Go.Proofs.YtlopccnehgolnabDoor
