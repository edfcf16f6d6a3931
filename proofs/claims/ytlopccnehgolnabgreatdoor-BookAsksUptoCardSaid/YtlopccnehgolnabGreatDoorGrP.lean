/- Contracts of count and Rest. BoxSplits returns true, for every two boxes and every input. No condition. The contract of Area: the box of a rule's inputs within domains. The contract of Rest of boxes. -/
import Derived.Test.YtlopccnehgolnabGreatDoorGrO
import Derived.Test.YtlopccnehgolnabGreatDoorGrE
namespace Go.Proofs.YtlopccnehgolnabGreatDoor
open Go.RowKit Rb

theorem sumSz_nonneg (l : List Bx) : 0 ≤ sumSz l := by
  induction l with
  | nil => exact Int.le_refl _
  | cons b l ih =>
    have := (sizeBx_bd b).1
    show 0 ≤ sizeBx b + sumSz l
    omega
theorem sumSz_take {l : List Bx} {k : Nat} {x : Bx} (h : l[k]? = some x) : sumSz (l.take (k + 1)) = sumSz (l.take k) + sizeBx x ∧ sumSz (l.take (k + 1)) ≤ sumSz l := by
  have h1 : sumSz (l.take (k + 1)) = sumSz (l.take k) + sizeBx x := by rw [take_getElem? h, sumSz_append]; simp [sumSz]
  refine ⟨h1, ?_⟩
  have h2 := sumSz_append (l.take (k + 1)) (l.drop (k + 1))
  rw [List.take_append_drop] at h2
  have := sumSz_nonneg (l.drop (k + 1))
  omega
theorem cntIn_take {l : List Bx} {k : Nat} {x : Bx} (ns : List Int) (h : l[k]? = some x) : cntIn (l.take (k + 1)) ns = cntIn (l.take k) ns + (if inBx x ns then 1 else 0) := by
  rw [take_getElem? h, cntIn_append, cntIn_cons, cntIn_nil, Nat.add_zero]
theorem cntIn_le (l : List Bx) (ns : List Int) : cntIn l ns ≤ l.length := List.length_filter_le _ _

/-- What Rest leaves. -/
def restStep (n : Nat) (out : List Bx) (b : Bx) : List Bx := if goodBx b (n : Int) then out.flatMap (lessB · b) else out
def restB (a : Bx) (l : List Bx) : List Bx := if goodBx a (a.length : Int) then l.foldl (restStep a.length) [a] else []

theorem lessGo_len : ∀ (a b pre : Bx), (lessGo pre a b).length ≤ a.length
  | s :: a, t :: b, pre => by
    rw [lessGo, List.length_append]
    have := lessGo_len a b (pre ++ [bothS s t])
    split <;> split <;> simp <;> omega
  | [], [], _ => by simp [lessGo]
  | [], _ :: _, _ => by simp [lessGo]
  | _ :: _, [], _ => by simp [lessGo]
theorem lessB_len (a b : Bx) : (lessB a b).length ≤ 3 := by
  unfold lessB
  split
  · rename_i h
    simp only [Bool.and_eq_true] at h
    have := (goodBx_iff.1 h.1).2.2
    have := lessGo_len a b []
    omega
  · simp
theorem flatMap_len (out : List Bx) (b : Bx) : (out.flatMap (lessB · b)).length ≤ 3 * out.length := by
  induction out with
  | nil => simp
  | cons x t ih =>
    rw [List.flatMap_cons, List.length_append]
    have := lessB_len x b
    simp only [List.length_cons]
    omega

end Go.Proofs.YtlopccnehgolnabGreatDoor

namespace Go.Proofs.YtlopccnehgolnabGreatDoor
open Go.RowKit Rb

theorem BGood_b {S : Nat → Prop} {v : Value} {b : Bx} {n : Int} {r : Bool} (w : World) (hl : rBx.rel w S [v] b) (h : goodBx b n = r) :
    Calls Tryz.prog 52 #[v, .int .i64 n] w fun e w' => e = .returned (.bool r) ∧ Below w.heap.size w w' := h ▸ BGood_any n w hl
theorem BLess_at {S T : Nat → Prop} {v u : Value} {a b : Bx} {L : List Bx} (w : World) (hl : rBx.rel w S [v] a) (hm : rBx.rel w T [u] b) (h : lessB a b = L) :
    Calls Tryz.prog 114 #[v, u] w fun e w' => ∃ z, e = .returned z ∧ Own rBx 59 w' w.heap.size S z L ∧ Below w.heap.size w w' := h ▸ BLess_any w hl hm
theorem BBoth_at {S T : Nat → Prop} {v u : Value} {a b o : Bx} {r : Bool} (w : World) (hl : rBx.rel w S [v] a) (hm : rBx.rel w T [u] b) (h1 : someBx (bothBx a b) = r) (h2 : optBx (bothBx a b) = o) :
    Calls Tryz.prog 62 #[v, u] w fun e w' => ∃ z, e = .returned (.tuple #[z, .bool r]) ∧ Own (rSl rRg) 95 w' w.heap.size (fun _ => False) z o ∧ Below w.heap.size w w' := h1 ▸ h2 ▸ BBoth_any w hl hm
theorem lessB_good {a b : Bx} (ha : goodBx a (a.length : Int) = true) (hb : goodBx b (a.length : Int) = true) : ∀ x ∈ lessB a b, Sets x ∧ x.length = a.length := by
  intro x hx
  obtain ⟨h1, _, h3⟩ := goodBx_iff.1 ha
  obtain ⟨h4, h5, _⟩ := goodBx_iff.1 hb
  unfold lessB at hx
  rw [ha, hb] at hx
  have := lessGo_sets (pre := []) (fun y hy => by simp at hy) h1 x (by simpa using hx)
  exact ⟨this.1, by have := this.2 (by omega); simpa using this⟩
theorem inBx_no {x : Bx} {ns : List Int} (h : x.length ≠ ns.length) : inBx x ns = false := hasBx_no h
theorem lessB_count {a b : Bx} (ha : goodBx a (a.length : Int) = true) (hb : goodBx b (a.length : Int) = true) (ns : List Int) : cntIn (lessB a b) ns = if inBx a ns && !inBx b ns then 1 else 0 := by
  obtain ⟨h1, _, h3⟩ := goodBx_iff.1 ha
  obtain ⟨h4, h5, _⟩ := goodBx_iff.1 hb
  by_cases hl : a.length = ns.length
  · have := lessGo_count (pre := []) (ms := []) (ns := ns) h1 h4 (by omega) hl rfl
    unfold lessB
    rw [ha, hb]
    simpa [inBx] using this
  · have hz : cntIn (lessB a b) ns = 0 := by
      unfold cntIn
      rw [List.length_eq_zero_iff, List.filter_eq_nil_iff]
      intro x hx
      rw [inBx_no (by rw [(lessB_good ha hb x hx).2]; exact hl)]
      simp
    rw [hz, inBx_no hl]; rfl
theorem lessB_sum {a b : Bx} (ha : goodBx a (a.length : Int) = true) (hb : goodBx b (a.length : Int) = true) : sumSz (lessB a b) + (if someBx (bothBx a b) then sizeBx (optBx (bothBx a b)) else 0) = sizeBx a := by
  obtain ⟨h1, _, h3⟩ := goodBx_iff.1 ha
  obtain ⟨h4, h5, _⟩ := goodBx_iff.1 hb
  have hs := lessGo_size (a := a) (b := b) (pre := []) h1 (by omega)
  have hz := zipBoth_size a b
  have hg := lessB_good ha hb
  rw [sumSz_of fun x hx => ⟨(hg x hx).1, by have := (hg x hx).2; omega⟩, sizeBx_of h1 (by omega)]
  have hlb : lessB a b = lessGo [] a b := by unfold lessB; rw [ha, hb]; rfl
  have hbb : bothBx a b = zipBoth a b := by unfold bothBx; rw [ha, hb]; rfl
  rw [hlb, hbb]
  simp only [prodS, Int.one_mul] at hs
  rw [← hs, ← hz.1]
  cases hc : zipBoth a b with
  | none => simp [someBx]
  | some x =>
    have := hz.2 x hc
    simp only [someBx, optBx, if_true]
    rw [sizeBx_of this.1 (by have := this.2 (by omega); omega)]

end Go.Proofs.YtlopccnehgolnabGreatDoor

namespace Go.Proofs.YtlopccnehgolnabGreatDoor
open Go.RowKit Rb

/-- The numbers of a set that a cell holds of. -/
def cellArea (c : Cl) (s : List Rg) : List Rg := if c.no then lessS s (normS c.rs) else if 0 < c.rs.length then bothS s (normS c.rs) else s
def areaGo : List Cl → Bx → Option Bx
  | c :: cs, s :: all => if (cellArea c s).length = 0 then none else (areaGo cs all).map (cellArea c s :: ·)
  | _, _ => some []
def areaB (r : Rl) (all : Bx) : Option Bx := if decide (r.cells.length = all.length) && goodBx all (all.length : Int) then areaGo r.cells all else none

def SameLen (r : Rl) (all : Bx) : Prop := r.cells.length = all.length
theorem areaGo_at {cs : List Cl} {all : Bx} {k : Nat} {c : Cl} {s : List Rg} (hc : cs[k]? = some c) (hs : all[k]? = some s) :
    areaGo (cs.drop k) (all.drop k) = if (cellArea c s).length = 0 then none else (areaGo (cs.drop (k + 1)) (all.drop (k + 1))).map (cellArea c s :: ·) := by
  rw [drop_cons hc, drop_cons hs]; rfl

theorem Norm_at {S : Nat → Prop} {v : Value} {l L : List Rg} (w : World) (hl : (rSl rRg).rel w S [v] l) (h : normS l = L) :
    Calls Tryz.prog 123 #[v] w fun e w' => ∃ u, e = .returned u ∧ Own rRg 123 w' w.heap.size S u L ∧ Below w.heap.size w w' := h ▸ Norm_any w hl
theorem Both_at {S T : Nat → Prop} {v u : Value} {a b L : List Rg} (w : World) (hl : (rSl rRg).rel w S [v] a) (hm : (rSl rRg).rel w T [u] b) (ga : GoodS a) (gb : GoodS b) (h : bothS a b = L) :
    Calls Tryz.prog 124 #[v, u] w fun e w' => ∃ x, e = .returned x ∧ Own rRg 123 w' w.heap.size (fun _ => False) x L ∧ Below w.heap.size w w' := h ▸ Both_any w hl hm ga gb
theorem Less_at {S T : Nat → Prop} {v u : Value} {a b L : List Rg} (w : World) (hl : (rSl rRg).rel w S [v] a) (hm : (rSl rRg).rel w T [u] b) (ga : GoodS a) (gb : GoodS b) (h : lessS a b = L) :
    Calls Tryz.prog 122 #[v, u] w fun e w' => ∃ x, e = .returned x ∧ Own rRg 123 w' w.heap.size (fun _ => False) x L ∧ Below w.heap.size w w' := h ▸ Less_any w hl hm ga gb

set_option maxRecDepth 100000 in
set_option maxHeartbeats 800000 in
theorem Area_any {S T : Nat → Prop} {v u : Value} {r : Rl} {all : Bx} (w : World) (hl : (rSl rCl).rel w S [v] r.cells) (hm : rBx.rel w T [u] all) :
    Calls Tryz.prog 61 #[.agg #[v, .int .i64 r.out], u] w fun e w' => ∃ z, e = .returned (.tuple #[z, .bool (someBx (areaB r all))]) ∧ Own (rSl rRg) 95 w' w.heap.size T z (optBx (areaB r all)) ∧ Below w.heap.size w w' := by
  have hal := rSl.lenle hm (by decide)
  obtain ⟨A, c, rfl, _, _, hbA, hE⟩ := rSl.elems hl
  obtain ⟨B, d, rfl, _, _, _, hF⟩ := rSl.elems hm
  have hcl : r.cells.length ≤ 4398046511104 := by simp only [rCl] at hbA; omega
  obtain ⟨W0, e0, hB0, c0, hB0s⟩ : ∃ W0, w.alloc (.cells #[.slice A r.cells.length c, .int .i64 r.out] 93) = W0 ∧ Below w.heap.size w W0 ∧ W0.cell? ⟨w.heap.size, 0, none⟩ = some (.slice A r.cells.length c) ∧ w.heap.size < W0.heap.size :=
    ⟨_, rfl, (Below.refl _ _).alloc (Nat.le_refl _) _, World.cell?_alloc_new _ _ _ _, by simp⟩
  have HG := Lib.hid (BGood_any (all.length : Int) W0 (Rd.below hm hB0))
  clear hl hm hbA
  by_cases hlen : r.cells.length = all.length
  case neg =>
    have hn : ((r.cells.length : Int) == (all.length : Int)) = false := by rw [beq_eq_false_iff_ne]; omega
    have HF : Hid (areaB r all = none) := Lib.hid (by unfold areaB; rw [decide_eq_false hlen]; rfl)
    go_enter Tryz.func61, Tryz.ntmps61
    go_wp2
    go_ret2
    exact ⟨_, by rw [HF.out]; rfl, by rw [HF.out]; exact Own.nil _ _ _ _ _, hB0⟩
  have HLEN : SameLen r all := hlen
  have HLB : Hid (areaB r all = if goodBx all (all.length : Int) then (areaGo (r.cells.drop 0) (all.drop 0)).map ([] ++ ·) else none) := Lib.hid (by unfold areaB; rw [decide_eq_true hlen]; simp)
  generalize r.cells.length = m at *
  subst hlen
  cases hg : goodBx all (all.length : Int)
  · rw [hg] at HG
    have HF : Hid (areaB r all = none) := Lib.hid (by rw [HLB.out, hg]; rfl)
    clear hg
    go_enter Tryz.func61, Tryz.ntmps61
    go_wp2_with (first | (go_at_call 52; go_must (((with_reducible refine HG.out.mono ?_); rintro e w1 ⟨rfl, hb1⟩))))
    go_ret2
    exact ⟨_, by rw [HF.out]; rfl, by rw [HF.out]; exact Own.nil _ _ _ _ _, hB0.trans (hb1.mono hB0.size)⟩
  rw [hg] at HG
  have HAR : Hid (areaB r all = (areaGo (r.cells.drop 0) (all.drop 0)).map ([] ++ ·)) := Lib.hid (by rw [HLB.out, hg]; rfl)
  have HGS := Lib.hid (goodBx_iff.1 hg).1
  have ha3 := (goodBx_iff.1 hg).2.2
  clear hg HLB
  go_enter Tryz.func61, Tryz.ntmps61
  go_wp2_with (first | (go_at_call 52; ((with_reducible refine HG.out.mono ?_); rintro e w1 ⟨rfl, hb1⟩; have hc1 := (hb1.cell (p := ⟨w.heap.size, 0, none⟩) hB0s).trans c0)))
  have hbw := hB0.trans (hb1.mono hB0.size)
  clear e0 c0 hb1 hc1
  go_loopw [6, 26] (fun o i wr => ∃ (k : Nat) (pre : Bx), k ≤ all.length ∧ i = .int .i64 k ∧ Own (rSl rRg) 95 wr w.heap.size T o pre ∧ pre.length = k ∧ Hid (areaB r all = (areaGo (r.cells.drop k) (all.drop k)).map (pre ++ ·)) ∧ Below w.heap.size w wr) (fun _ i _ => all.length - (intOf i).toNat)
  case atStart => exact ⟨0, [], Nat.zero_le _, rfl, Own.nil _ _ _ _ _, rfl, HAR, hbw⟩
  case round =>
    clear HG HAR hbw
    obtain ⟨k, pre, hk, rfl, hown, hpl, HI, hb⟩ := hrel
    by_cases hlt : k < all.length
    · obtain ⟨bA, off, cl, q, rfl, _, hbA, hx, hq, g1, g2⟩ := hE.cl (show k < r.cells.length by rw [HLEN]; exact hlt)
      obtain ⟨bB, off', v', s, rfl, _, hbB, hx', hs', g3⟩ := hF.sl hlt
      rw [← hb.cell (p := ⟨bA, _, none⟩) hbA] at g1 g2
      rw [← hb.cell (p := ⟨bB, _, none⟩) hbB] at g3
      have hgs := (HGS.out s (List.mem_of_getElem? hx')).2
      have HAT := Lib.hid (areaGo_at hx hx')
      have hik : (k : Int) < (all.length : Int) := by omega
      obtain ⟨no, rs⟩ := cl
      dsimp only at g1 g2 hq
      obtain ⟨W1, e1, hown1, hb1, hq1, hs1, c0, c1, g31, hs1z⟩ : ∃ W1, wr.alloc (.cells #[.bool no, q] 97) = W1 ∧ Own (rSl rRg) 95 W1 w.heap.size T u6 pre ∧ Below w.heap.size w W1 ∧ (rSl rRg).rel W1 S [q] rs ∧ (rSl rRg).rel W1 (fun b => T b ∧ b < w.heap.size) [v'] s ∧
          W1.cell? ⟨wr.heap.size, 0, none⟩ = some (.bool no) ∧ W1.cell? ⟨wr.heap.size, 1, none⟩ = some q ∧ W1.cell? ⟨bB, off' + k, none⟩ = some v' ∧ wr.heap.size < W1.heap.size :=
        ⟨_, rfl, hown.alloc _, hb.alloc hb.size _, Rd.below hq (hb.alloc hb.size _), Rd.below ((rSl rRg).mono hs' fun b h h' => ⟨h, h'⟩) (hb.alloc hb.size _), World.cell?_alloc_new _ _ _ _, World.cell?_alloc_new _ _ _ _, (World.cell?_alloc_lt _ _ _ (Nat.lt_of_lt_of_le hbB hb.size)).trans g3, by simp⟩
      clear hown hq hs' hx hx' hE hF g3
      obtain ⟨A2, c2, rfl, _⟩ := rSl.elems hq1
      obtain ⟨A3, c3, rfl, _⟩ := rSl.elems hs1
      have hbase := hb1.size
      have hlt6 := Lib.hid hown1.lt
      have HUP : Hid (∀ w4, Below W1.heap.size W1 w4 → ∀ b, Up (fun _ => False) w4.heap.size b → Up T w.heap.size b ∧ u6.ownBlock ≠ some b) := Lib.hid (by
        rintro w4 h4 b (h | h)
        · exact h.elim
        · exact ⟨.inr (Nat.le_trans hbase (Nat.le_trans h4.size h)), fun e => by have := hlt6.out _ e; have := h4.size; omega⟩)
      have HUP3 : Hid (∀ b, T b ∧ b < w.heap.size → Up T w.heap.size b ∧ u6.ownBlock ≠ some b) := Lib.hid fun b h => ⟨.inl h.1, fun e => by have := hlt6.out _ e; omega⟩
      have HBY : Hid ((pre.length + 1) * (rSl rRg).bytes ≤ 140737488355328) := Lib.hid (by rw [hpl]; show (_ + _) * 24 ≤ _; omega)
      cases no
      · by_cases hr0 : rs.length = 0
        · have hca : cellArea ⟨false, rs⟩ s = s := by unfold cellArea; rw [if_neg (by simp), if_neg (by simp [hr0])]
          have HCA := Lib.hid hca
          clear hca hq1
          generalize rs.length = m0 at *
          subst hr0
          by_cases hz : s.length = 0
          · have HF : Hid (areaB r all = none) := Lib.hid (by rw [HI.out, HAT.out, HCA.out, if_pos hz]; rfl)
            go_wp2
            go_ret2
            exact ⟨_, by rw [HF.out]; rfl, by rw [HF.out]; exact Own.nil _ _ _ _ _, hb1.trans ((Below.refl _ _).mono hb1.size)⟩
          · have HF : Hid (areaB r all = (areaGo (r.cells.drop (k + 1)) (all.drop (k + 1))).map ((pre ++ [s]) ++ ·)) := Lib.hid (by rw [HI.out, HAT.out, HCA.out, if_neg hz]; simp [Option.map_map, Function.comp_def])
            have hz2 : ((s.length : Int) == 0) = false := by rw [beq_eq_false_iff_ne]; omega
            go_wp2_with (first | (at_builtin; go_must (refine wpList_append_new (R := rSl rRg) (x := s) el_Rgs rfl (.tmp 56) (.tmp 58) rfl rfl (hown1) [.slice A3 s.length c3] rfl rfl (fun b => T b ∧ b < w.heap.size) (hs1) (fun b h _ => HUP3.out b h) HBY.out (Nat.le_trans hbase (Below.refl W1.heap.size W1).size) ?_); intro v9 w9 hown9 hb9 _ _))
            go_roundw
            case rel => exact ⟨k + 1, pre ++ [s], by omega, by go_num, hown9, by simp [hpl], HF, (hb1.trans ((Below.refl _ _).mono hb1.size)).trans hb9⟩
            case measure => simp [intOf]; omega
        · have hr1 : (0 : Int) < (rs.length : Int) := by omega
          have hca : cellArea ⟨false, rs⟩ s = bothS s (normS rs) := by unfold cellArea; rw [if_neg (by simp), if_pos (by show 0 < rs.length; omega)]
          generalize hnr : normS rs = nr at *
          have HNR := Lib.hid hnr
          have HNG : Hid (GoodS nr) := Lib.hid (hnr ▸ (normS_good rs).1)
          clear hnr
          generalize hcs : bothS s nr = cs at *
          have HCS := Lib.hid hcs
          have HCA := Lib.hid hca
          have hcl2 : cs.length ≤ 2000002 := hcs ▸ GoodS_length (bothS_good s nr).1
          clear hcs hca
          by_cases hz : cs.length = 0
          · have HF : Hid (areaB r all = none) := Lib.hid (by rw [HI.out, HAT.out, HCA.out, if_pos hz]; rfl)
            go_wp2_with (first | (go_at_call 123; go_must ((with_reducible refine (Norm_at W1 hq1 HNR.out).mono ?_); rintro e w4 ⟨z4, rfl, how4, hb4⟩; obtain ⟨A4, c4, rfl⟩ := how4.value; have hr4 := how4.rel (by decide); have hs4 := Rd.below hs1 hb4)) | (go_at_call 124; go_must ((with_reducible refine (Both_at w4 hs4 hr4 hgs HNG.out HCS.out).mono ?_); rintro e w5 ⟨z5, rfl, how5, hb5⟩; obtain ⟨A5, c5, rfl⟩ := how5.value)))
            go_ret2
            exact ⟨_, by rw [HF.out]; rfl, by rw [HF.out]; exact Own.nil _ _ _ _ _, hb1.trans ((hb4.trans (hb5.mono hb4.size)).mono hb1.size)⟩
          · have HF : Hid (areaB r all = (areaGo (r.cells.drop (k + 1)) (all.drop (k + 1))).map ((pre ++ [cs]) ++ ·)) := Lib.hid (by rw [HI.out, HAT.out, HCA.out, if_neg hz]; simp [Option.map_map, Function.comp_def])
            have hz2 : ((cs.length : Int) == 0) = false := by rw [beq_eq_false_iff_ne]; omega
            go_wp2_with (first | (go_at_call 123; go_must ((with_reducible refine (Norm_at W1 hq1 HNR.out).mono ?_); rintro e w4 ⟨z4, rfl, how4, hb4⟩; obtain ⟨A4, c4, rfl⟩ := how4.value; have hr4 := how4.rel (by decide); have hs4 := Rd.below hs1 hb4)) | (go_at_call 124; go_must ((with_reducible refine (Both_at w4 hs4 hr4 hgs HNG.out HCS.out).mono ?_); rintro e w5 ⟨z5, rfl, how5, hb5⟩; obtain ⟨A5, c5, rfl⟩ := how5.value)) | (at_builtin; go_must (refine wpList_append_new (R := rSl rRg) (x := cs) el_Rgs rfl (.tmp 56) (.tmp 58) rfl rfl ((hown1.below hb4).below hb5) [.slice A5 cs.length c5] rfl rfl (Up (fun _ => False) w4.heap.size) (how5.rel (by decide)) (fun b h _ => HUP.out w4 hb4 b h) HBY.out (Nat.le_trans hbase (hb4.trans (hb5.mono hb4.size)).size) ?_); intro v9 w9 hown9 hb9 _ _))
            go_roundw
            case rel => exact ⟨k + 1, pre ++ [cs], by omega, by go_num, hown9, by simp [hpl], HF, (hb1.trans ((hb4.trans (hb5.mono hb4.size)).mono hb1.size)).trans hb9⟩
            case measure => simp [intOf]; omega
      · have hca : cellArea ⟨true, rs⟩ s = lessS s (normS rs) := rfl
        generalize hnr : normS rs = nr at *
        have HNR := Lib.hid hnr
        have HNG : Hid (GoodS nr) := Lib.hid (hnr ▸ (normS_good rs).1)
        clear hnr
        generalize hcs : lessS s nr = cs at *
        have HCS := Lib.hid hcs
        have HCA := Lib.hid hca
        have hcl2 : cs.length ≤ 2000002 := hcs ▸ GoodS_length (lessS_good s nr).1
        clear hcs hca
        by_cases hz : cs.length = 0
        · have HF : Hid (areaB r all = none) := Lib.hid (by rw [HI.out, HAT.out, HCA.out, if_pos hz]; rfl)
          go_wp2_with (first | (go_at_call 123; go_must ((with_reducible refine (Norm_at W1 hq1 HNR.out).mono ?_); rintro e w4 ⟨z4, rfl, how4, hb4⟩; obtain ⟨A4, c4, rfl⟩ := how4.value; have hr4 := how4.rel (by decide); have hs4 := Rd.below hs1 hb4)) | (go_at_call 122; go_must ((with_reducible refine (Less_at w4 hs4 hr4 hgs HNG.out HCS.out).mono ?_); rintro e w5 ⟨z5, rfl, how5, hb5⟩; obtain ⟨A5, c5, rfl⟩ := how5.value)))
          go_ret2
          exact ⟨_, by rw [HF.out]; rfl, by rw [HF.out]; exact Own.nil _ _ _ _ _, hb1.trans ((hb4.trans (hb5.mono hb4.size)).mono hb1.size)⟩
        · have HF : Hid (areaB r all = (areaGo (r.cells.drop (k + 1)) (all.drop (k + 1))).map ((pre ++ [cs]) ++ ·)) := Lib.hid (by rw [HI.out, HAT.out, HCA.out, if_neg hz]; simp [Option.map_map, Function.comp_def])
          have hz2 : ((cs.length : Int) == 0) = false := by rw [beq_eq_false_iff_ne]; omega
          go_wp2_with (first | (go_at_call 123; go_must ((with_reducible refine (Norm_at W1 hq1 HNR.out).mono ?_); rintro e w4 ⟨z4, rfl, how4, hb4⟩; obtain ⟨A4, c4, rfl⟩ := how4.value; have hr4 := how4.rel (by decide); have hs4 := Rd.below hs1 hb4)) | (go_at_call 122; go_must ((with_reducible refine (Less_at w4 hs4 hr4 hgs HNG.out HCS.out).mono ?_); rintro e w5 ⟨z5, rfl, how5, hb5⟩; obtain ⟨A5, c5, rfl⟩ := how5.value)) | (at_builtin; go_must (refine wpList_append_new (R := rSl rRg) (x := cs) el_Rgs rfl (.tmp 56) (.tmp 58) rfl rfl ((hown1.below hb4).below hb5) [.slice A5 cs.length c5] rfl rfl (Up (fun _ => False) w4.heap.size) (how5.rel (by decide)) (fun b h _ => HUP.out w4 hb4 b h) HBY.out (Nat.le_trans hbase (hb4.trans (hb5.mono hb4.size)).size) ?_); intro v9 w9 hown9 hb9 _ _))
          go_roundw
          case rel => exact ⟨k + 1, pre ++ [cs], by omega, by go_num, hown9, by simp [hpl], HF, (hb1.trans ((hb4.trans (hb5.mono hb4.size)).mono hb1.size)).trans hb9⟩
          case measure => simp [intOf]; omega
    · have hke : k = all.length := by omega
      have HF : Hid (areaB r all = some pre) := Lib.hid (by
        rw [HI.out, List.drop_eq_nil_of_le (by rw [HLEN]; omega), List.drop_eq_nil_of_le (by omega)]; simp [areaGo])
      obtain ⟨A9, c9, rfl⟩ := hown.value
      go_wp2
      go_ret2
      exact ⟨_, by rw [HF.out]; rfl, by rw [HF.out]; exact hown, hb⟩

end Go.Proofs.YtlopccnehgolnabGreatDoor

namespace Go.Proofs.YtlopccnehgolnabGreatDoor
open Go.RowKit Rb

theorem restStep_len (n : Nat) (out : List Bx) (b : Bx) : (restStep n out b).length ≤ 3 * out.length := by
  unfold restStep
  split
  · exact flatMap_len out b
  · omega
theorem pow3 (k : Nat) (h : k ≤ 6) : 3 ^ k ≤ 729 := by
  have : k = 0 ∨ k = 1 ∨ k = 2 ∨ k = 3 ∨ k = 4 ∨ k = 5 ∨ k = 6 := by omega
  rcases this with rfl | rfl | rfl | rfl | rfl | rfl | rfl <;> decide

theorem restB_take {l : List Bx} {k : Nat} {x : Bx} {n : Nat} {i : List Bx} (h : l[k]? = some x) : (l.take (k + 1)).foldl (restStep n) i = restStep n ((l.take k).foldl (restStep n) i) x := by
  rw [take_getElem? h, List.foldl_append]; rfl

set_option maxRecDepth 100000 in
set_option maxHeartbeats 800000 in
theorem Rest_any {S T : Nat → Prop} {v u : Value} {a : Bx} {l : List Bx} (w : World) (hl : rBx.rel w S [v] a) (hm : (rSl rBx).rel w T [u] l) (hl6 : l.length ≤ 6) :
    Calls Tryz.prog 54 #[v, u] w fun e w' => ∃ z S', e = .returned z ∧ (rSl rBx).rel w' S' [z] (restB a l) ∧ Below w.heap.size w w' := by
  have hal := rSl.lenle hl (by decide)
  have HG := Lib.hid (BGood_any (a.length : Int) w hl)
  have hla := hl
  obtain ⟨A, c, rfl, _⟩ := rSl.elems hl
  obtain ⟨B, d, rfl, _, _, _, hF⟩ := rSl.elems hm
  clear hl hm
  cases hg : goodBx a (a.length : Int)
  · rw [hg] at HG
    have HF : Hid (restB a l = []) := Lib.hid (by unfold restB; rw [hg]; rfl)
    clear hg hla
    go_enter Tryz.func54, Tryz.ntmps54
    go_wp2_with (first | (go_at_call 52; ((with_reducible refine HG.out.mono ?_); rintro e w1 ⟨rfl, hb1⟩)))
    go_ret
    exact ⟨_, fun _ => True, rfl, by rw [HF.out]; exact ⟨none, 0, rfl, Nat.le_refl _, by decide, by decide, fun i x hx => by simp at hx⟩, hb1⟩
  rw [hg] at HG
  have HR : Hid (restB a l = l.foldl (restStep a.length) [a]) := Lib.hid (by unfold restB; rw [hg]; rfl)
  clear hg
  have HLA := Lib.hid hla
  clear hla
  go_enter Tryz.func54, Tryz.ntmps54
  go_wp2_with (first | (go_at_call 52; ((with_reducible refine HG.out.mono ?_); rintro e w1 ⟨rfl, hb1⟩; have h1a := Rd.lit1 (R := rBx) (w := w1) (S := S) (x := a) (cells := [.slice A a.length c]) 59 rfl (by decide) (by decide) (Rd.below HLA.out hb1); have hb1a := hb1.alloc hb1.size (.cells #[.slice A a.length c] 59))))
  go_loopw [5, 20] (fun o i wr => ∃ (k : Nat) (out : List Bx) (Ao : Option Addr) (co : Nat), k ≤ l.length ∧ i = .int .i64 k ∧ o = .slice Ao out.length co ∧ Hid (out.length ≤ 3 ^ k) ∧ Hid (out = (l.take k).foldl (restStep a.length) [a]) ∧ Hid (∃ S9, (rSl rBx).rel wr S9 [.slice Ao out.length co] out) ∧ Below w.heap.size w wr) (fun _ i _ => l.length - (intOf i).toNat)
  case atStart => exact ⟨0, [a], _, _, Nat.zero_le _, rfl, rfl, Lib.hid (by simp), Lib.hid rfl, Lib.hid ⟨_, h1a⟩, hb1a⟩
  case round =>
    obtain ⟨k, out, Ao, co, hk, rfl, rfl, HL3, HO, HS, hb⟩ := hrel
    by_cases hlt : k < l.length
    · obtain ⟨p, off, v, x, rfl, _, hp, hx, hs, h1⟩ := Elems.sl (R := rSl rRg) hF hlt
      rw [← hb.cell (p := ⟨p, _, none⟩) hp] at h1
      have hik : (k : Int) < (l.length : Int) := by omega
      have HX := Lib.hid (show rBx.rel _ _ _ _ from Rd.below hs hb)
      have HT := Lib.hid (restB_take (n := a.length) (i := [a]) hx)
      have hpw := pow3 k (by omega)
      have hol : out.length ≤ 729 := Nat.le_trans HL3.out hpw
      have HPW : Hid (∀ o : List Bx, o.length ≤ 3 * out.length → o.length ≤ 3 ^ (k + 1)) := Lib.hid fun o h => by have := HL3.out; rw [Nat.pow_succ]; omega
      obtain ⟨Av, cv, rfl, _⟩ := rSl.elems hs
      clear hx hs hpw
      cases hgx : goodBx x (a.length : Int)
      · have hgX := Lib.hid hgx
        have HS' : Hid ((l.take (k + 1)).foldl (restStep a.length) [a] = out) := Lib.hid (by rw [HT.out, ← HO.out]; unfold restStep; rw [hgx]; rfl)
        clear hgx
        go_wp2_with (first | (go_at_call 52; ((with_reducible refine (BGood_b _ HX.out hgX.out).mono ?_); rintro e w2 ⟨rfl, hb2⟩)))
        go_roundw
        case rel =>
          obtain ⟨So, hSo⟩ := HS.out
          exact ⟨k + 1, out, Ao, co, by omega, by go_num, rfl, Lib.hid (HPW.out out (by omega)), Lib.hid HS'.out.symm, Lib.hid ⟨So, Rd.below hSo hb2⟩, hb.trans (hb2.mono hb.size)⟩
        case measure => simp [intOf]; omega
      · have hgX := Lib.hid hgx
        have HS' : Hid ((l.take (k + 1)).foldl (restStep a.length) [a] = out.flatMap (lessB · x)) := Lib.hid (by rw [HT.out, ← HO.out]; unfold restStep; rw [hgx]; rfl)
        clear hgx
        obtain ⟨So, hSo⟩ := HS.out
        have HSo := Lib.hid hSo
        clear hSo
        go_wp2_with (first | (go_at_call 52; ((with_reducible refine (BGood_b _ HX.out hgX.out).mono ?_); rintro e w2 ⟨rfl, hb2⟩)))
        have hb2w := hb.trans (hb2.mono hb.size)
        have HSo2 := Lib.hid (show (rSl rBx).rel w2 (fun b => So b ∧ b < w2.heap.size) [.slice Ao out.length co] out from (rSl rBx).mono (Rd.below HSo.out hb2) fun b hb hlt => ⟨hb, hlt⟩)
        have HX2 := Lib.hid (show rBx.rel w2 _ _ _ from Rd.below HX.out hb2)
        obtain ⟨_, _, _, _, _, _, hE2⟩ := rSl.elems HSo2.out
        clear HSo HX hb2
        go_loopw [8, 31] (fun o i wr => ∃ (j : Nat) (nxt : List Bx), j ≤ out.length ∧ i = .int .i64 j ∧ Own rBx 59 wr w2.heap.size (fun b => So b ∧ b < w2.heap.size) o nxt ∧ Hid (nxt = (out.take j).flatMap (lessB · x)) ∧ Hid (nxt.length ≤ 3 * j) ∧ Below w2.heap.size w2 wr) (fun _ i _ => out.length - (intOf i).toNat)
        case atStart => exact ⟨0, [], Nat.zero_le _, rfl, Own.nil _ _ _ _ _, Lib.hid (by simp), Lib.hid (by simp), Below.refl _ _⟩
        case round =>
          obtain ⟨j, nxt, hj, rfl, hown, HN, HNL, hb3⟩ := hrel
          by_cases hltj : j < out.length
          · obtain ⟨q, off', v', y, rfl, _, hq, hy, hs', h2⟩ := Elems.sl (R := rSl rRg) hE2 hltj
            rw [← hb3.cell (p := ⟨q, _, none⟩) hq] at h2
            have hij : (j : Int) < (out.length : Int) := by omega
            have HY := Lib.hid hy
            have HYR := Lib.hid (show rBx.rel wr _ _ _ from Rd.below hs' hb3)
            have HXR := Lib.hid (show rBx.rel wr _ _ _ from Rd.below HX2.out hb3)
            obtain ⟨Ay, cy, rfl, _⟩ := rSl.elems hs'
            clear hs' hy
            have HNBS : Hid (w2.heap.size ≤ wr.heap.size) := Lib.hid hb3.size
            have hol3 : nxt.length ≤ 2187 := by have := HNL.out; omega
            have hLL := Lib.hid (lessB_len y x)
            have hHT : Hid ((out.take (j + 1)).flatMap (lessB · x) = nxt ++ lessB y x) := Lib.hid (by rw [take_getElem? HY.out, List.flatMap_append, ← HN.out]; simp)
            generalize hL : lessB y x = L at *
            have HLE := Lib.hid hL
            clear hL
            have hlt8 := hown.lt
            have hsz8 := hb3.size
            have HSS : Hid (∀ b, Up (fun b => So b ∧ b < w2.heap.size) wr.heap.size b → Up (fun b => So b ∧ b < w2.heap.size) w2.heap.size b ∧ u8.ownBlock ≠ some b) := Lib.hid (by
              intro b h
              rcases h with h | h
              · exact ⟨.inl h, fun e => by have := hlt8 _ e; omega⟩
              · exact ⟨.inr (Nat.le_trans hsz8 h), fun e => by have := hlt8 _ e; omega⟩)
            have HBY : Hid ((nxt.length + L.length) * rBx.bytes ≤ 140737488355328) := Lib.hid (by have := hLL.out; show (_ + _) * 24 ≤ _; omega)
            clear hlt8
            go_wp2_with (first | (go_at_call 114; ((with_reducible refine (BLess_at wr HYR.out HXR.out HLE.out).mono ?_); rintro e w4 ⟨z4, rfl, how4, hb4⟩; obtain ⟨A4, c4, rfl⟩ := how4.value; have hown4 := hown.below hb4; have hE4 := (how4.elems (by decide) rfl).2)) | (at_builtin; go_must (refine wpList_append_many (R := rBx) el_Bxs rfl (.tmp 35) (.tmp 38) rfl rfl hown4 rfl (Up (fun b => So b ∧ b < w2.heap.size) wr.heap.size) rfl hE4 (fun _ _ h => h) (fun b h h' => HSS.out b h) HBY.out (Nat.le_trans hsz8 hb4.size) ?_); intro v5 w5 hown5 hb5 _ _))
            go_roundw
            case rel => exact ⟨j + 1, _, by omega, by go_num, hown5, Lib.hid hHT.out.symm, Lib.hid (by have := HNL.out; have := hLL.out; rw [List.length_append]; omega), hb3.trans (hb4.mono hsz8) |>.trans hb5⟩
            case measure => simp [intOf]; omega
          · have hje : j = out.length := by omega
            have HQ : Hid (nxt = (l.take (k + 1)).foldl (restStep a.length) [a]) := Lib.hid (by rw [HN.out, hje, List.take_length, HS'.out])
            have hol3 : nxt.length ≤ 3 * out.length := by have := HNL.out; omega
            have hown9 := hown
            obtain ⟨A9, c9, rfl⟩ := hown.value
            clear hown hE2
            go_wp2
            go_roundw
            case rel => exact ⟨k + 1, nxt, A9, c9, by omega, by go_num, rfl, Lib.hid (HPW.out nxt hol3), Lib.hid HQ.out, Lib.hid ⟨_, hown9.rel (by decide)⟩, hb2w.trans (hb3.mono hb2w.size)⟩
            case measure => simp [intOf]; omega
    · have hke : k = l.length := by omega
      have HQ : Hid (restB a l = out) := Lib.hid (by rw [HR.out, HO.out, hke, List.take_length])
      obtain ⟨S9, hS9⟩ := HS.out
      go_wp2
      go_ret
      exact ⟨_, S9, rfl, by rw [HQ.out]; exact hS9, hb⟩

end Go.Proofs.YtlopccnehgolnabGreatDoor
