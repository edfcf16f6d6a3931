
/- The contract of Check. -/
import Derived.Laws.Cover1
import Derived.Test.YtlopccnehgolnabGreatDoorGrI
import Derived.Test.YtlopccnehgolnabGreatDoorGrG
import Derived.Test.YtlopccnehgolnabGreatDoorBookB
import Derived.Test.YtlopccnehgolnabGreatDoorGrR
import Derived.Test.YtlopccnehgolnabGreatDoorGrQ
namespace Go.Proofs.YtlopccnehgolnabGreatDoor
open Go.RowKit Rb

def nameD (l : List Dm) (k : Nat) : Txt := match l[k]? with | some d => d.name | none => []
def nameT (l : List Tb) (k : Nat) : Txt := match l[k]? with | some d => d.name | none => []
def domOk (l : List Dm) (k : Nat) : Bool := match l[k]? with | some d => goodD d && (decide (k = 0) || Op.bytesLess (nameD l (k - 1)) d.name) | none => true
def domsOk (l : List Dm) : Bool := (List.range l.length).all (domOk l)
def tabOk (b : Bk) (k : Nat) : Bool := match b.tabs[k]? with | some t => goodT t && !(findD b.doms t.name).isSome && (decide (k = 0) || Op.bytesLess (nameT b.tabs (k - 1)) t.name) | none => true
def tabsOk (b : Bk) : Bool := (List.range b.tabs.length).all (tabOk b)
def bxOf (b : Bk) (t : Tb) : Bx := optBx (boxOf b t)
/-- Of the first gap or clash: the table's name, the input, the error. -/
def clashGap (b : Bk) : List Tb → Txt × List Int × Int
  | [] => ([], [], 0)
  | t :: l => if 0 < (clashB t (bxOf b t)).length then (t.name, leastB (clashB t (bxOf b t)), 8)
    else if 0 < (gapB t (bxOf b t)).length ∧ t.comp = true then (t.name, leastB (gapB t (bxOf b t)), 7) else clashGap b l
def checkB (b : Bk) : Txt × List Int × Int :=
  if 4 < b.doms.length ∨ 4 < b.tabs.length then ([], [], 11)
  else if domsOk b.doms = false then ([], [], 1)
  else if tabsOk b = false then ([], [], 1)
  else match b.tabs.find? fun t => !someBx (boxOf b t) with
    | some t => (t.name, [], 3)
    | none => if (orderB b).isSome = false then ([], [], 6) else clashGap b b.tabs

theorem all_range_false {p : Nat → Bool} {n k : Nat} (hk : k < n) (h : p k = false) : (List.range n).all p = false := by
  rw [List.all_eq_false]
  exact ⟨k, List.mem_range.2 hk, by simp [h]⟩
theorem all_range_true {p : Nat → Bool} {n k : Nat} (hk : ¬ k < n) (h : ∀ j, j < k → p j = true) : (List.range n).all p = true := by
  rw [List.all_eq_true]
  intro x hx
  rw [List.mem_range] at hx
  exact h x (by omega)
theorem upto_step {p : Nat → Bool} {k : Nat} (h : ∀ j, j < k → p j = true) (hk : p k = true) : ∀ j, j < k + 1 → p j = true := by
  intro j hj
  rcases Nat.lt_succ_iff_lt_or_eq.1 hj with h1 | rfl
  · exact h j h1
  · exact hk
theorem domsOk_no {l : List Dm} {k : Nat} (hk : k < l.length) (h : domOk l k = false) : domsOk l = false := all_range_false hk h
theorem tabsOk_no {b : Bk} {k : Nat} (hk : k < b.tabs.length) (h : tabOk b k = false) : tabsOk b = false := all_range_false hk h
theorem SmallT.good {t : Tb} (h : goodT t = true) : SmallT t := ⟨(goodT_head h).2.2.2.2.2, fun _ hr => goodT_out h hr⟩
theorem tabsOk_good {b : Bk} (h : tabsOk b = true) : ∀ t ∈ b.tabs, goodT t = true := by
  intro t ht
  obtain ⟨i, hi, rfl⟩ := List.getElem_of_mem ht
  have := List.all_eq_true.1 h i (List.mem_range.2 hi)
  unfold tabOk at this
  rw [List.getElem?_eq_getElem hi] at this
  simp only [Bool.and_eq_true] at this
  exact this.1.1
theorem SmallB.good {b : Bk} (h : tabsOk b = true) : SmallB b := fun t ht => .good (tabsOk_good h t ht)

theorem GoodDomain_at {d : Dm} {r : Bool} (w : World) (hs : d.name.length ≤ 140737488355328) (h : goodD d = r) :
    Calls Tryz.prog 68 #[.agg #[.string ⟨d.name.toArray⟩, .int .i64 d.lo, .int .i64 d.hi]] w fun e w' => e = .returned (.bool r) ∧ Below w.heap.size w w' := h ▸ GoodDomain_any d w hs
theorem BkBox_at {S T : Nat → Prop} {bs cs : List Value} {b : Bk} {t : Tb} {o : Option Bx} (w : World) (hb : rBk.rel w S bs b) (ht : rTb.rel w T cs t) (hsm : SmallB b) (h3 : t.ins.length ≤ 3) (h : boxOf b t = o) :
    Calls Tryz.prog 70 #[.agg bs.toArray, .agg cs.toArray] w fun e w' => ∃ z, e = .returned (.tuple #[z, .bool (someBx o)]) ∧ Own (rSl rRg) 95 w' w.heap.size (fun _ => False) z (optBx o) ∧ Below w.heap.size w w' := h ▸ BkBox_any w hb ht hsm h3
theorem Order_at {S : Nat → Prop} {bs : List Value} {b : Bk} {o : Option (List Txt)} (w : World) (hl : rBk.rel w S bs b) (h : orderB b = o) :
    Calls Tryz.prog 34 #[.agg bs.toArray] w fun e w' => ∃ z, e = .returned (.tuple #[z, .bool o.isSome]) ∧ (rSl rStr).rel w' (Up (fun _ => False) w.heap.size) [z] (o.getD []) ∧ Below w.heap.size w w' := h ▸ Order_any w hl
theorem Clash_at {S T : Nat → Prop} {cs : List Value} {t : Tb} {u : Value} {all : Bx} {l : List Bx} (w : World) (hl : rTb.rel w S cs t) (hm : rBx.rel w T [u] all) (h : clashB t all = l) :
    Calls Tryz.prog 21 #[.agg cs.toArray, u] w fun e w' => ∃ z S', e = .returned (.tuple #[z, .bool (decide (0 < l.length))]) ∧ (rSl rInt).rel w' S' [z] (leastB l) ∧ Below w.heap.size w w' := h ▸ Clash_any w hl hm
theorem Gap_at {S T : Nat → Prop} {cs : List Value} {t : Tb} {u : Value} {all : Bx} {l : List Bx} (w : World) (hl : rTb.rel w S cs t) (hm : rBx.rel w T [u] all) (h : gapB t all = l) :
    Calls Tryz.prog 19 #[.agg cs.toArray, u] w fun e w' => ∃ z S', e = .returned (.tuple #[z, .bool (decide (0 < l.length))]) ∧ (rSl rInt).rel w' S' [z] (leastB l) ∧ Below w.heap.size w w' := h ▸ Gap_any w hl hm
theorem ints_nil (w : World) : (rSl rInt).rel w (fun _ => True) [.slice none 0 0] [] := ⟨none, 0, rfl, Nat.le_refl _, by decide, by simp, fun i x hx => by simp at hx⟩

def checkPost (b : Bk) (w : World) (e : Ending) (w' : World) : Prop := ∃ z S', e = .returned (.tuple #[.string ⟨(checkB b).1.toArray⟩, z, .int .i64 (checkB b).2.2]) ∧ (rSl rInt).rel w' S' [z] (checkB b).2.1 ∧ Below w.heap.size w w'

set_option maxRecDepth 100000 in
set_option maxHeartbeats 1600000 in
theorem Check_any {S : Nat → Prop} {bs : List Value} {b : Bk} (w : World) (hl : rBk.rel w S bs b) :
    Calls Tryz.prog 28 #[.agg bs.toArray] w fun e w' => checkPost b w e w' := by
  have hl' := hl
  obtain ⟨v0, u0, rfl, hd, htb⟩ := hl
  obtain ⟨A, c, rfl, _, _, hbd, hD⟩ := rSl.elems hd
  obtain ⟨B, d, rfl, _, _, hbt, hF⟩ := rSl.elems htb
  have hld : b.doms.length ≤ 4398046511104 := by simp only [rDm] at hbd; omega
  have hlt5 : b.tabs.length ≤ 1759218604441 := by simp only [rTb] at hbt; omega
  obtain ⟨W0, e0, HB0, c0, c1, hs0, HBK⟩ : ∃ W0, w.alloc (.cells #[.slice A b.doms.length c, .slice B b.tabs.length d] 33) = W0 ∧ Hid (Below w.heap.size w W0) ∧ W0.cell? ⟨w.heap.size, 0, none⟩ = some (.slice A b.doms.length c) ∧ W0.cell? ⟨w.heap.size, 1, none⟩ = some (.slice B b.tabs.length d) ∧ w.heap.size < W0.heap.size ∧ Hid (rBk.rel W0 S [.slice A b.doms.length c, .slice B b.tabs.length d] b) :=
    ⟨_, rfl, Lib.hid ((Below.refl _ _).alloc (Nat.le_refl _) _), World.cell?_alloc_new _ _ _ _, World.cell?_alloc_new _ _ _ _, by simp, Lib.hid (Rd.alloc hl' _)⟩
  clear hl' hd htb hbd hbt
  have HD := Lib.hid hD
  have HF := Lib.hid hF
  clear hD hF
  have HZ : Hid (∀ (e : Ending) (w' : World) (r : Txt × List Int × Int), checkB b = r → e = .returned (.tuple #[.string ⟨r.1.toArray⟩, .slice none 0 0, .int .i64 r.2.2]) → r.2.1 = [] → Below W0.heap.size W0 w' → checkPost b w e w') := Lib.hid (by
    rintro e w' r rfl rfl h h2
    exact ⟨_, _, rfl, by rw [h]; exact ints_nil _, HB0.out.trans (h2.mono HB0.out.size)⟩)
  go_enter Tryz.func28, Tryz.ntmps28
  by_cases hm1 : 4 < b.doms.length
  · have hi1 : (4 : Int) < (b.doms.length : Int) := by omega
    have HC : Hid (checkB b = ([], [], 11)) := Lib.hid (by unfold checkB; rw [if_pos (.inl hm1)])
    go_wp2
    go_ret3
    exact HZ.out _ _ _ HC.out rfl rfl (Below.refl _ _)
  have hi1 : ¬ (4 : Int) < (b.doms.length : Int) := by omega
  by_cases hm2 : 4 < b.tabs.length
  · have hi2 : (4 : Int) < (b.tabs.length : Int) := by omega
    have HC : Hid (checkB b = ([], [], 11)) := Lib.hid (by unfold checkB; rw [if_pos (.inr hm2)])
    go_wp2
    go_ret3
    exact HZ.out _ _ _ HC.out rfl rfl (Below.refl _ _)
  have hi2 : ¬ (4 : Int) < (b.tabs.length : Int) := by omega
  have HC1 : Hid (checkB b = if domsOk b.doms = false then ([], [], 1) else if tabsOk b = false then ([], [], 1) else match b.tabs.find? fun t => !someBx (boxOf b t) with
    | some t => (t.name, [], 3) | none => if (orderB b).isSome = false then ([], [], 6) else clashGap b b.tabs) := Lib.hid (by unfold checkB; rw [if_neg (by omega)])
  clear hm1 hm2
  go_wp2
  clear e0 hi1 hi2
  go_loopw [38] (fun i wr => ∃ k : Nat, k ≤ b.doms.length ∧ i = .int .i64 k ∧ Hid (∀ j, j < k → domOk b.doms j = true) ∧ Hid (Below W0.heap.size W0 wr)) (fun i _ => b.doms.length - (intOf i).toNat)
  case atStart => exact ⟨0, Nat.zero_le _, rfl, Lib.hid (by omega), Lib.hid (Below.refl _ _)⟩
  case round =>
    obtain ⟨k, hk, rfl, HK, HB⟩ := hrel
    by_cases hlt : k < b.doms.length
    · obtain ⟨bB, off, x, rfl, hbB, hx, ⟨hxl, _⟩, g0, g1, g2⟩ := HD.out.dm hlt
      have hbw := HB0.out.trans (HB.out.mono HB0.out.size)
      rw [← hbw.cell (p := ⟨bB, _, none⟩) hbB] at g0 g1 g2
      have hik : (k : Int) < (b.doms.length : Int) := by omega
      have HDK : Hid (domOk b.doms k = (goodD x && (decide (k = 0) || Op.bytesLess (nameD b.doms (k - 1)) x.name))) := Lib.hid (by unfold domOk; rw [hx])
      have HX := Lib.hid hx
      obtain ⟨gd, hgd⟩ : ∃ r, goodD x = r := ⟨_, rfl⟩
      have HGD := Lib.hid hgd
      obtain ⟨W3, e3, HB3, j0, j1, j2, q0, q3⟩ : ∃ W3, wr.alloc (.cells #[.string ⟨x.name.toArray⟩, .int .i64 x.lo, .int .i64 x.hi] 44) = W3 ∧ Hid (Below W0.heap.size W0 W3) ∧ W3.cell? ⟨wr.heap.size, 0, none⟩ = some (.string ⟨x.name.toArray⟩) ∧ W3.cell? ⟨wr.heap.size, 1, none⟩ = some (.int .i64 x.lo) ∧ W3.cell? ⟨wr.heap.size, 2, none⟩ = some (.int .i64 x.hi) ∧ W3.cell? ⟨w.heap.size, 0, none⟩ = some (.slice (some ⟨bB, off, none⟩) b.doms.length c) ∧ wr.heap.size < W3.heap.size :=
        ⟨_, rfl, Lib.hid (HB.out.alloc HB.out.size _), World.cell?_alloc_new _ _ _ _, World.cell?_alloc_new _ _ _ _, World.cell?_alloc_new _ _ _ _, ((HB.out.alloc HB.out.size _).cell (p := ⟨w.heap.size, 0, none⟩) hs0).trans c0, by simp⟩
      have hq0 : w.heap.size < W3.heap.size := Nat.lt_of_lt_of_le hs0 HB3.out.size
      have HCG := Lib.hid fun w' (_ : Below W3.heap.size W3 w') => GoodDomain_at w' hxl hgd
      clear hx hgd hbw
      cases gd
      · have HC : Hid (checkB b = ([], [], 1)) := Lib.hid (by rw [HC1.out, if_pos (domsOk_no hlt (by rw [HDK.out, HGD.out]; rfl))])
        go_wp2
        refine wp_region_quiet_below (by kernel_rfl) (by kernel_rfl) ?_
        repeat (go_big_quiet_step (exact Calls.inBelow HCG.out _ _))
        refine wpQuiet_nil ?_
        intro _ hw'
        obtain ⟨⟨dq, osq⟩, hw''⟩ := hw'
        subst hw''
        go_wp2
        go_ret3
        exact HZ.out _ _ _ HC.out rfl rfl (HB3.out.trans ((below_regrown _ _ _).mono HB3.out.size))
      · by_cases hk0 : k = 0
        · have hz : decide ((0 : Int) < (k : Int)) = false := decide_eq_false (by omega)
          have hz2 : decide (0 < k) = false := decide_eq_false (by omega)
          have HS := Lib.hid (upto_step HK.out (by rw [HDK.out, HGD.out, decide_eq_true hk0]; rfl))
          clear hk0
          go_wp2
          refine wp_region_quiet_below (by kernel_rfl) (by kernel_rfl) ?_
          repeat (go_big_quiet_step (exact Calls.inBelow HCG.out _ _))
          refine wpQuiet_nil ?_
          intro _ hw'
          obtain ⟨⟨dq, osq⟩, hw''⟩ := hw'
          subst hw''
          go_wp2
          go_roundw
          case rel => exact ⟨k + 1, by omega, by go_num, HS, Lib.hid (HB3.out.trans ((below_regrown _ _ _).mono HB3.out.size))⟩
          case measure => simp [intOf]; omega
        · have hz : decide ((0 : Int) < (k : Int)) = true := decide_eq_true (by omega)
          have hz2 : decide (0 < k) = true := decide_eq_true (by omega)
          obtain ⟨m, hm⟩ : ∃ m, k = m + 1 := ⟨k - 1, by omega⟩
          have HM := Lib.hid hm
          have him : (k : Int) - 1 = (m : Int) := by omega
          have hml : (m : Int) < (b.doms.length : Int) := by omega
          obtain ⟨bB', off', y, hA', hbB', hy, _, y0, _, _⟩ := HD.out.dm (show m < b.doms.length by omega)
          obtain ⟨rfl, rfl⟩ : bB = bB' ∧ off = off' := by simpa using hA'
          rw [← (HB0.out.trans (HB3.out.mono HB0.out.size)).cell (p := ⟨bB, _, none⟩) hbB] at y0
          have hbb : bB < W3.heap.size := Nat.lt_of_lt_of_le (Nat.lt_of_lt_of_le hbB HB0.out.size) HB3.out.size
          obtain ⟨lt, hlt'⟩ : ∃ r, Op.bytesLess y.name x.name = r := ⟨_, rfl⟩
          have HDK' : Hid (domOk b.doms k = lt) := Lib.hid (by
            rw [HDK.out, HGD.out, decide_eq_false hk0, show k - 1 = m by omega]
            simp [nameD, hy, hlt'])
          clear hm hy hA' hk0
          cases lt
          · have HC : Hid (checkB b = ([], [], 1)) := Lib.hid (by rw [HC1.out, if_pos (domsOk_no hlt HDK'.out)])
            go_wp2
            refine wp_region_quiet_below (by kernel_rfl) (by kernel_rfl) ?_
            repeat (go_big_quiet_step (exact Calls.inBelow HCG.out _ _))
            refine wpQuiet_nil ?_
            intro _ hw'
            obtain ⟨⟨dq, osq⟩, hw''⟩ := hw'
            subst hw''
            go_wp2
            go_ret3
            exact HZ.out _ _ _ HC.out rfl rfl (HB3.out.trans ((below_regrown _ _ _).mono HB3.out.size))
          · have HS := Lib.hid (upto_step HK.out HDK'.out)
            go_wp2
            refine wp_region_quiet_below (by kernel_rfl) (by kernel_rfl) ?_
            repeat (go_big_quiet_step (exact Calls.inBelow HCG.out _ _))
            refine wpQuiet_nil ?_
            intro _ hw'
            obtain ⟨⟨dq, osq⟩, hw''⟩ := hw'
            subst hw''
            go_wp2
            go_roundw
            case rel => exact ⟨k + 1, by omega, by go_num, HS, Lib.hid (HB3.out.trans ((below_regrown _ _ _).mono HB3.out.size))⟩
            case measure => simp [intOf]; omega
    · have HC2 := Lib.hid (HC1.out.trans (if_neg (by rw [show domsOk b.doms = true from all_range_true hlt HK.out]; decide)))
      clear HK HC1 hk
      obtain ⟨w1, hw1⟩ : ∃ x, x = wr := ⟨_, rfl⟩
      subst hw1
      have c11 := (HB.out.cell (p := ⟨w.heap.size, 1, none⟩) hs0).trans c1
      go_wp2
      clear c11 hlt
      have HBw1 := HB
      clear HB
      go_loopw [66] (fun i wr => ∃ k : Nat, k ≤ b.tabs.length ∧ i = .int .i64 k ∧ Hid (∀ j, j < k → tabOk b j = true) ∧ Hid (Below W0.heap.size W0 wr)) (fun i _ => b.tabs.length - (intOf i).toNat)
      case atStart => exact ⟨0, Nat.zero_le _, rfl, Lib.hid (by omega), HBw1⟩
      case round =>
        obtain ⟨k, hk, rfl, HK, HB⟩ := hrel
        by_cases hlt : k < b.tabs.length
        · obtain ⟨bB, off, x, A1, ca, A2, cb, rfl, hbB, hx, hr, g0, g1, g2, g3, g4⟩ := HF.out.tb hlt
          have hbw := HB0.out.trans (HB.out.mono HB0.out.size)
          rw [← hbw.cell (p := ⟨bB, _, none⟩) hbB] at g0 g1 g2 g3 g4
          have hik : (k : Int) < (b.tabs.length : Int) := by omega
          have HX := Lib.hid hx
          have hxl : x.name.length ≤ 140737488355328 := by obtain ⟨_, _, _, h, _⟩ := hr; exact h
          have HTK : Hid (tabOk b k = (goodT x && !(findD b.doms x.name).isSome && (decide (k = 0) || Op.bytesLess (nameT b.tabs (k - 1)) x.name))) := Lib.hid (by unfold tabOk; rw [hx])
          obtain ⟨gt, hgt⟩ : ∃ r, goodT x = r := ⟨_, rfl⟩
          obtain ⟨fd, hfd⟩ : ∃ r, (findD b.doms x.name).isSome = r := ⟨_, rfl⟩
          obtain ⟨dm, hdm⟩ : ∃ r, dmOf (findD b.doms x.name) = r := ⟨_, rfl⟩
          have HGT := Lib.hid hgt
          have HD1 := Lib.hid hdm
          have HD2 := Lib.hid hfd
          obtain ⟨W3, e3, HB3, j0, j1, j2, j3, j4, q0, q1, HR3, HK3, hw3s⟩ : ∃ W3, wr.alloc (.cells #[.string ⟨x.name.toArray⟩, .int .i64 x.pol, .bool x.comp, .slice A1 x.ins.length ca, .slice A2 x.rules.length cb] 42) = W3 ∧ Hid (Below W0.heap.size W0 W3) ∧ W3.cell? ⟨wr.heap.size, 0, none⟩ = some (.string ⟨x.name.toArray⟩) ∧ W3.cell? ⟨wr.heap.size, 1, none⟩ = some (.int .i64 x.pol) ∧ W3.cell? ⟨wr.heap.size, 2, none⟩ = some (.bool x.comp) ∧ W3.cell? ⟨wr.heap.size, 3, none⟩ = some (.slice A1 x.ins.length ca) ∧ W3.cell? ⟨wr.heap.size, 4, none⟩ = some (.slice A2 x.rules.length cb) ∧
              W3.cell? ⟨w.heap.size, 0, none⟩ = some (.slice A b.doms.length c) ∧ W3.cell? ⟨w.heap.size, 1, none⟩ = some (.slice (some ⟨bB, off, none⟩) b.tabs.length d) ∧ Hid (rTb.rel W3 S [.string ⟨x.name.toArray⟩, .int .i64 x.pol, .bool x.comp, .slice A1 x.ins.length ca, .slice A2 x.rules.length cb] x) ∧ Hid (rBk.rel W3 S [.slice A b.doms.length c, .slice (some ⟨bB, off, none⟩) b.tabs.length d] b) ∧ wr.heap.size < W3.heap.size :=
            ⟨_, rfl, Lib.hid (HB.out.alloc HB.out.size _), World.cell?_alloc_new _ _ _ _, World.cell?_alloc_new _ _ _ _, World.cell?_alloc_new _ _ _ _, World.cell?_alloc_new _ _ _ _, World.cell?_alloc_new _ _ _ _,
              ((HB.out.alloc HB.out.size _).cell (p := ⟨w.heap.size, 0, none⟩) hs0).trans c0, ((HB.out.alloc HB.out.size _).cell (p := ⟨w.heap.size, 1, none⟩) hs0).trans c1, Lib.hid (Rd.below hr (hbw.alloc hbw.size _)), Lib.hid (Rd.below HBK.out (HB.out.alloc HB.out.size _)), by simp⟩
          have HS3 := Lib.hid (Nat.lt_of_lt_of_le hs0 HB3.out.size)
          clear hx hr hgt hdm hfd hbw
          cases gt
          · have HC : Hid (checkB b = ([], [], 1)) := Lib.hid (by rw [HC2.out, if_pos (tabsOk_no hlt (by rw [HTK.out, HGT.out]; rfl))])
            go_wp2_with (first | (go_at_call 69; go_must ((with_reducible refine (FindDomain_at W3 HK3.out hxl HD1.out HD2.out).mono ?_); rintro e w4 ⟨rfl, hb4⟩; obtain ⟨W5, e5, HB5, l0, l1, p0, HR5, hw5s, hws5, HB35⟩ : ∃ W5, w4.alloc (.cells #[.string ⟨dm.name.toArray⟩, .int .i64 dm.lo, .int .i64 dm.hi] 44) = W5 ∧ Hid (Below W0.heap.size W0 W5) ∧ W5.cell? ⟨wr.heap.size, 0, none⟩ = some (.string ⟨x.name.toArray⟩) ∧ W5.cell? ⟨w.heap.size, 1, none⟩ = some (.slice (some ⟨bB, off, none⟩) b.tabs.length d) ∧ (W5.cell? ⟨wr.heap.size, 1, none⟩ = some (.int .i64 x.pol) ∧ W5.cell? ⟨wr.heap.size, 2, none⟩ = some (.bool x.comp) ∧ W5.cell? ⟨wr.heap.size, 3, none⟩ = some (.slice A1 x.ins.length ca) ∧ W5.cell? ⟨wr.heap.size, 4, none⟩ = some (.slice A2 x.rules.length cb)) ∧ Hid (rTb.rel W5 S [.string ⟨x.name.toArray⟩, .int .i64 x.pol, .bool x.comp, .slice A1 x.ins.length ca, .slice A2 x.rules.length cb] x) ∧ wr.heap.size < W5.heap.size ∧ w.heap.size < W5.heap.size ∧ Hid (Below W3.heap.size W3 W5) := ⟨_, rfl, Lib.hid (HB3.out.trans ((hb4.alloc hb4.size _).mono HB3.out.size)), ((hb4.alloc hb4.size _).cell (p := ⟨wr.heap.size, 0, none⟩) hw3s).trans j0, ((hb4.alloc hb4.size _).cell (p := ⟨w.heap.size, 1, none⟩) HS3.out).trans q1, ⟨((hb4.alloc hb4.size _).cell (p := ⟨wr.heap.size, 1, none⟩) hw3s).trans j1, ((hb4.alloc hb4.size _).cell (p := ⟨wr.heap.size, 2, none⟩) hw3s).trans j2, ((hb4.alloc hb4.size _).cell (p := ⟨wr.heap.size, 3, none⟩) hw3s).trans j3, ((hb4.alloc hb4.size _).cell (p := ⟨wr.heap.size, 4, none⟩) hw3s).trans j4⟩, Lib.hid (Rd.below HR3.out (hb4.alloc hb4.size _)), Nat.lt_of_lt_of_le hw3s (by simp; exact Nat.le_trans hb4.size (Nat.le_succ _)), Nat.lt_of_lt_of_le HS3.out (by simp; exact Nat.le_trans hb4.size (Nat.le_succ _)), Lib.hid (hb4.alloc hb4.size _)⟩; obtain ⟨p1, p2, p3, p4⟩ := p0; have HCG := Lib.hid fun w' (hb : Below W5.heap.size W5 w') => TGood_b w' (Rd.below HR5.out hb) HGT.out; clear hb4)))
            refine wp_region_quiet_below (by kernel_rfl) (by kernel_rfl) ?_
            repeat (go_big_quiet_step (exact Calls.inBelow HCG.out _ _))
            refine wpQuiet_nil ?_
            intro _ hw'
            obtain ⟨⟨dq, osq⟩, hw''⟩ := hw'
            subst hw''
            go_wp2
            go_ret3
            exact HZ.out _ _ _ HC.out rfl rfl (HB5.out.trans ((below_regrown _ _ _).mono HB5.out.size))
          · cases fd
            · by_cases hk0 : k = 0
              · have hz : decide ((0 : Int) < (k : Int)) = false := decide_eq_false (by omega)
                have hz2 : decide (0 < k) = false := decide_eq_false (by omega)
                have HS := Lib.hid (upto_step HK.out (by rw [HTK.out, HGT.out, HD2.out, decide_eq_true hk0]; rfl))
                clear hk0
                go_wp2_with (first | (go_at_call 69; go_must ((with_reducible refine (FindDomain_at W3 HK3.out hxl HD1.out HD2.out).mono ?_); rintro e w4 ⟨rfl, hb4⟩; obtain ⟨W5, e5, HB5, l0, l1, p0, HR5, hw5s, hws5, HB35⟩ : ∃ W5, w4.alloc (.cells #[.string ⟨dm.name.toArray⟩, .int .i64 dm.lo, .int .i64 dm.hi] 44) = W5 ∧ Hid (Below W0.heap.size W0 W5) ∧ W5.cell? ⟨wr.heap.size, 0, none⟩ = some (.string ⟨x.name.toArray⟩) ∧ W5.cell? ⟨w.heap.size, 1, none⟩ = some (.slice (some ⟨bB, off, none⟩) b.tabs.length d) ∧ (W5.cell? ⟨wr.heap.size, 1, none⟩ = some (.int .i64 x.pol) ∧ W5.cell? ⟨wr.heap.size, 2, none⟩ = some (.bool x.comp) ∧ W5.cell? ⟨wr.heap.size, 3, none⟩ = some (.slice A1 x.ins.length ca) ∧ W5.cell? ⟨wr.heap.size, 4, none⟩ = some (.slice A2 x.rules.length cb)) ∧ Hid (rTb.rel W5 S [.string ⟨x.name.toArray⟩, .int .i64 x.pol, .bool x.comp, .slice A1 x.ins.length ca, .slice A2 x.rules.length cb] x) ∧ wr.heap.size < W5.heap.size ∧ w.heap.size < W5.heap.size ∧ Hid (Below W3.heap.size W3 W5) := ⟨_, rfl, Lib.hid (HB3.out.trans ((hb4.alloc hb4.size _).mono HB3.out.size)), ((hb4.alloc hb4.size _).cell (p := ⟨wr.heap.size, 0, none⟩) hw3s).trans j0, ((hb4.alloc hb4.size _).cell (p := ⟨w.heap.size, 1, none⟩) HS3.out).trans q1, ⟨((hb4.alloc hb4.size _).cell (p := ⟨wr.heap.size, 1, none⟩) hw3s).trans j1, ((hb4.alloc hb4.size _).cell (p := ⟨wr.heap.size, 2, none⟩) hw3s).trans j2, ((hb4.alloc hb4.size _).cell (p := ⟨wr.heap.size, 3, none⟩) hw3s).trans j3, ((hb4.alloc hb4.size _).cell (p := ⟨wr.heap.size, 4, none⟩) hw3s).trans j4⟩, Lib.hid (Rd.below HR3.out (hb4.alloc hb4.size _)), Nat.lt_of_lt_of_le hw3s (by simp; exact Nat.le_trans hb4.size (Nat.le_succ _)), Nat.lt_of_lt_of_le HS3.out (by simp; exact Nat.le_trans hb4.size (Nat.le_succ _)), Lib.hid (hb4.alloc hb4.size _)⟩; obtain ⟨p1, p2, p3, p4⟩ := p0; have HCG := Lib.hid fun w' (hb : Below W5.heap.size W5 w') => TGood_b w' (Rd.below HR5.out hb) HGT.out; clear hb4)))
                refine wp_region_quiet_below (by kernel_rfl) (by kernel_rfl) ?_
                repeat (go_big_quiet_step (exact Calls.inBelow HCG.out _ _))
                refine wpQuiet_nil ?_
                intro _ hw'
                obtain ⟨⟨dq, osq⟩, hw''⟩ := hw'
                subst hw''
                go_wp2
                go_roundw
                case rel => exact ⟨k + 1, by omega, by go_num, HS, Lib.hid (HB5.out.trans ((below_regrown _ _ _).mono HB5.out.size))⟩
                case measure => simp [intOf]; omega
              · have hz : decide ((0 : Int) < (k : Int)) = true := decide_eq_true (by omega)
                have hz2 : decide (0 < k) = true := decide_eq_true (by omega)
                obtain ⟨m, hm⟩ : ∃ m, k = m + 1 := ⟨k - 1, by omega⟩
                have him : (k : Int) - 1 = (m : Int) := by omega
                have hml : (m : Int) < (b.tabs.length : Int) := by omega
                obtain ⟨bB', off', y, _, _, _, _, hA', hbB', hy, _, y0, _, _, _, _⟩ := HF.out.tb (show m < b.tabs.length by omega)
                obtain ⟨rfl, rfl⟩ : bB = bB' ∧ off = off' := by simpa using hA'
                rw [← (HB0.out.trans (HB3.out.mono HB0.out.size)).cell (p := ⟨bB, _, none⟩) hbB] at y0
                have HBB := Lib.hid (Nat.lt_of_lt_of_le (Nat.lt_of_lt_of_le hbB HB0.out.size) HB3.out.size)
                obtain ⟨lt, hlt'⟩ : ∃ r, Op.bytesLess y.name x.name = r := ⟨_, rfl⟩
                have HTK' : Hid (tabOk b k = lt) := Lib.hid (by
                  rw [HTK.out, HGT.out, HD2.out, decide_eq_false hk0, show k - 1 = m by omega]
                  simp [nameT, hy, hlt'])
                clear hm hy hA' hk0
                cases lt
                · have HC : Hid (checkB b = ([], [], 1)) := Lib.hid (by rw [HC2.out, if_pos (tabsOk_no hlt HTK'.out)])
                  go_wp2_with (first | (go_at_call 69; go_must ((with_reducible refine (FindDomain_at W3 HK3.out hxl HD1.out HD2.out).mono ?_); rintro e w4 ⟨rfl, hb4⟩; obtain ⟨W5, e5, HB5, l0, l1, p0, HR5, hw5s, hws5, HB35⟩ : ∃ W5, w4.alloc (.cells #[.string ⟨dm.name.toArray⟩, .int .i64 dm.lo, .int .i64 dm.hi] 44) = W5 ∧ Hid (Below W0.heap.size W0 W5) ∧ W5.cell? ⟨wr.heap.size, 0, none⟩ = some (.string ⟨x.name.toArray⟩) ∧ W5.cell? ⟨w.heap.size, 1, none⟩ = some (.slice (some ⟨bB, off, none⟩) b.tabs.length d) ∧ (W5.cell? ⟨wr.heap.size, 1, none⟩ = some (.int .i64 x.pol) ∧ W5.cell? ⟨wr.heap.size, 2, none⟩ = some (.bool x.comp) ∧ W5.cell? ⟨wr.heap.size, 3, none⟩ = some (.slice A1 x.ins.length ca) ∧ W5.cell? ⟨wr.heap.size, 4, none⟩ = some (.slice A2 x.rules.length cb)) ∧ Hid (rTb.rel W5 S [.string ⟨x.name.toArray⟩, .int .i64 x.pol, .bool x.comp, .slice A1 x.ins.length ca, .slice A2 x.rules.length cb] x) ∧ wr.heap.size < W5.heap.size ∧ w.heap.size < W5.heap.size ∧ Hid (Below W3.heap.size W3 W5) := ⟨_, rfl, Lib.hid (HB3.out.trans ((hb4.alloc hb4.size _).mono HB3.out.size)), ((hb4.alloc hb4.size _).cell (p := ⟨wr.heap.size, 0, none⟩) hw3s).trans j0, ((hb4.alloc hb4.size _).cell (p := ⟨w.heap.size, 1, none⟩) HS3.out).trans q1, ⟨((hb4.alloc hb4.size _).cell (p := ⟨wr.heap.size, 1, none⟩) hw3s).trans j1, ((hb4.alloc hb4.size _).cell (p := ⟨wr.heap.size, 2, none⟩) hw3s).trans j2, ((hb4.alloc hb4.size _).cell (p := ⟨wr.heap.size, 3, none⟩) hw3s).trans j3, ((hb4.alloc hb4.size _).cell (p := ⟨wr.heap.size, 4, none⟩) hw3s).trans j4⟩, Lib.hid (Rd.below HR3.out (hb4.alloc hb4.size _)), Nat.lt_of_lt_of_le hw3s (by simp; exact Nat.le_trans hb4.size (Nat.le_succ _)), Nat.lt_of_lt_of_le HS3.out (by simp; exact Nat.le_trans hb4.size (Nat.le_succ _)), Lib.hid (hb4.alloc hb4.size _)⟩; obtain ⟨p1, p2, p3, p4⟩ := p0; have HCG := Lib.hid fun w' (hb : Below W5.heap.size W5 w') => TGood_b w' (Rd.below HR5.out hb) HGT.out; have z0 := (HB35.out.cell (p := ⟨bB, _, none⟩) HBB.out).trans y0; have hbb := Nat.lt_of_lt_of_le HBB.out HB35.out.size; clear hb4)))
                  refine wp_region_quiet_below (by kernel_rfl) (by kernel_rfl) ?_
                  repeat (go_big_quiet_step (exact Calls.inBelow HCG.out _ _))
                  refine wpQuiet_nil ?_
                  intro _ hw'
                  obtain ⟨⟨dq, osq⟩, hw''⟩ := hw'
                  subst hw''
                  go_wp2
                  go_ret3
                  exact HZ.out _ _ _ HC.out rfl rfl (HB5.out.trans ((below_regrown _ _ _).mono HB5.out.size))
                · have HS := Lib.hid (upto_step HK.out HTK'.out)
                  go_wp2_with (first | (go_at_call 69; go_must ((with_reducible refine (FindDomain_at W3 HK3.out hxl HD1.out HD2.out).mono ?_); rintro e w4 ⟨rfl, hb4⟩; obtain ⟨W5, e5, HB5, l0, l1, p0, HR5, hw5s, hws5, HB35⟩ : ∃ W5, w4.alloc (.cells #[.string ⟨dm.name.toArray⟩, .int .i64 dm.lo, .int .i64 dm.hi] 44) = W5 ∧ Hid (Below W0.heap.size W0 W5) ∧ W5.cell? ⟨wr.heap.size, 0, none⟩ = some (.string ⟨x.name.toArray⟩) ∧ W5.cell? ⟨w.heap.size, 1, none⟩ = some (.slice (some ⟨bB, off, none⟩) b.tabs.length d) ∧ (W5.cell? ⟨wr.heap.size, 1, none⟩ = some (.int .i64 x.pol) ∧ W5.cell? ⟨wr.heap.size, 2, none⟩ = some (.bool x.comp) ∧ W5.cell? ⟨wr.heap.size, 3, none⟩ = some (.slice A1 x.ins.length ca) ∧ W5.cell? ⟨wr.heap.size, 4, none⟩ = some (.slice A2 x.rules.length cb)) ∧ Hid (rTb.rel W5 S [.string ⟨x.name.toArray⟩, .int .i64 x.pol, .bool x.comp, .slice A1 x.ins.length ca, .slice A2 x.rules.length cb] x) ∧ wr.heap.size < W5.heap.size ∧ w.heap.size < W5.heap.size ∧ Hid (Below W3.heap.size W3 W5) := ⟨_, rfl, Lib.hid (HB3.out.trans ((hb4.alloc hb4.size _).mono HB3.out.size)), ((hb4.alloc hb4.size _).cell (p := ⟨wr.heap.size, 0, none⟩) hw3s).trans j0, ((hb4.alloc hb4.size _).cell (p := ⟨w.heap.size, 1, none⟩) HS3.out).trans q1, ⟨((hb4.alloc hb4.size _).cell (p := ⟨wr.heap.size, 1, none⟩) hw3s).trans j1, ((hb4.alloc hb4.size _).cell (p := ⟨wr.heap.size, 2, none⟩) hw3s).trans j2, ((hb4.alloc hb4.size _).cell (p := ⟨wr.heap.size, 3, none⟩) hw3s).trans j3, ((hb4.alloc hb4.size _).cell (p := ⟨wr.heap.size, 4, none⟩) hw3s).trans j4⟩, Lib.hid (Rd.below HR3.out (hb4.alloc hb4.size _)), Nat.lt_of_lt_of_le hw3s (by simp; exact Nat.le_trans hb4.size (Nat.le_succ _)), Nat.lt_of_lt_of_le HS3.out (by simp; exact Nat.le_trans hb4.size (Nat.le_succ _)), Lib.hid (hb4.alloc hb4.size _)⟩; obtain ⟨p1, p2, p3, p4⟩ := p0; have HCG := Lib.hid fun w' (hb : Below W5.heap.size W5 w') => TGood_b w' (Rd.below HR5.out hb) HGT.out; have z0 := (HB35.out.cell (p := ⟨bB, _, none⟩) HBB.out).trans y0; have hbb := Nat.lt_of_lt_of_le HBB.out HB35.out.size; clear hb4)))
                  refine wp_region_quiet_below (by kernel_rfl) (by kernel_rfl) ?_
                  repeat (go_big_quiet_step (exact Calls.inBelow HCG.out _ _))
                  refine wpQuiet_nil ?_
                  intro _ hw'
                  obtain ⟨⟨dq, osq⟩, hw''⟩ := hw'
                  subst hw''
                  go_wp2
                  go_roundw
                  case rel => exact ⟨k + 1, by omega, by go_num, HS, Lib.hid (HB5.out.trans ((below_regrown _ _ _).mono HB5.out.size))⟩
                  case measure => simp [intOf]; omega
            · have HC : Hid (checkB b = ([], [], 1)) := Lib.hid (by rw [HC2.out, if_pos (tabsOk_no hlt (by rw [HTK.out, HGT.out, HD2.out]; rfl))])
              go_wp2_with (first | (go_at_call 69; go_must ((with_reducible refine (FindDomain_at W3 HK3.out hxl HD1.out HD2.out).mono ?_); rintro e w4 ⟨rfl, hb4⟩; obtain ⟨W5, e5, HB5, l0, l1, p0, HR5, hw5s, hws5, HB35⟩ : ∃ W5, w4.alloc (.cells #[.string ⟨dm.name.toArray⟩, .int .i64 dm.lo, .int .i64 dm.hi] 44) = W5 ∧ Hid (Below W0.heap.size W0 W5) ∧ W5.cell? ⟨wr.heap.size, 0, none⟩ = some (.string ⟨x.name.toArray⟩) ∧ W5.cell? ⟨w.heap.size, 1, none⟩ = some (.slice (some ⟨bB, off, none⟩) b.tabs.length d) ∧ (W5.cell? ⟨wr.heap.size, 1, none⟩ = some (.int .i64 x.pol) ∧ W5.cell? ⟨wr.heap.size, 2, none⟩ = some (.bool x.comp) ∧ W5.cell? ⟨wr.heap.size, 3, none⟩ = some (.slice A1 x.ins.length ca) ∧ W5.cell? ⟨wr.heap.size, 4, none⟩ = some (.slice A2 x.rules.length cb)) ∧ Hid (rTb.rel W5 S [.string ⟨x.name.toArray⟩, .int .i64 x.pol, .bool x.comp, .slice A1 x.ins.length ca, .slice A2 x.rules.length cb] x) ∧ wr.heap.size < W5.heap.size ∧ w.heap.size < W5.heap.size ∧ Hid (Below W3.heap.size W3 W5) := ⟨_, rfl, Lib.hid (HB3.out.trans ((hb4.alloc hb4.size _).mono HB3.out.size)), ((hb4.alloc hb4.size _).cell (p := ⟨wr.heap.size, 0, none⟩) hw3s).trans j0, ((hb4.alloc hb4.size _).cell (p := ⟨w.heap.size, 1, none⟩) HS3.out).trans q1, ⟨((hb4.alloc hb4.size _).cell (p := ⟨wr.heap.size, 1, none⟩) hw3s).trans j1, ((hb4.alloc hb4.size _).cell (p := ⟨wr.heap.size, 2, none⟩) hw3s).trans j2, ((hb4.alloc hb4.size _).cell (p := ⟨wr.heap.size, 3, none⟩) hw3s).trans j3, ((hb4.alloc hb4.size _).cell (p := ⟨wr.heap.size, 4, none⟩) hw3s).trans j4⟩, Lib.hid (Rd.below HR3.out (hb4.alloc hb4.size _)), Nat.lt_of_lt_of_le hw3s (by simp; exact Nat.le_trans hb4.size (Nat.le_succ _)), Nat.lt_of_lt_of_le HS3.out (by simp; exact Nat.le_trans hb4.size (Nat.le_succ _)), Lib.hid (hb4.alloc hb4.size _)⟩; obtain ⟨p1, p2, p3, p4⟩ := p0; have HCG := Lib.hid fun w' (hb : Below W5.heap.size W5 w') => TGood_b w' (Rd.below HR5.out hb) HGT.out; clear hb4)))
              refine wp_region_quiet_below (by kernel_rfl) (by kernel_rfl) ?_
              repeat (go_big_quiet_step (exact Calls.inBelow HCG.out _ _))
              refine wpQuiet_nil ?_
              intro _ hw'
              obtain ⟨⟨dq, osq⟩, hw''⟩ := hw'
              subst hw''
              go_wp2
              go_ret3
              exact HZ.out _ _ _ HC.out rfl rfl (HB5.out.trans ((below_regrown _ _ _).mono HB5.out.size))
        · have HTO : Hid (tabsOk b = true) := Lib.hid (all_range_true hlt HK.out)
          have HC3 := Lib.hid (HC2.out.trans (if_neg (by rw [HTO.out]; decide)))
          clear HK HC2 hk
          obtain ⟨w2, hw2⟩ : ∃ x, x = wr := ⟨_, rfl⟩
          subst hw2
          have c12 := (HB.out.cell (p := ⟨w.heap.size, 1, none⟩) hs0).trans c1
          go_wp2
          clear c12 hlt
          have HBw2 := HB
          clear HB
          have HSM := Lib.hid (SmallB.good HTO.out)
          go_loopw [104] (fun i wr => ∃ k : Nat, k ≤ b.tabs.length ∧ i = .int .i64 k ∧ Hid ((b.tabs.find? fun t => !someBx (boxOf b t)) = (b.tabs.drop k).find? fun t => !someBx (boxOf b t)) ∧ Hid (Below W0.heap.size W0 wr)) (fun i _ => b.tabs.length - (intOf i).toNat)
          case atStart => exact ⟨0, Nat.zero_le _, rfl, Lib.hid rfl, HBw2⟩
          case round =>
            obtain ⟨k, hk, rfl, HK, HB⟩ := hrel
            by_cases hlt : k < b.tabs.length
            · obtain ⟨bB, off, x, A1, ca, A2, cb, rfl, hbB, hx, hr, g0, g1, g2, g3, g4⟩ := HF.out.tb hlt
              have hbw := HB0.out.trans (HB.out.mono HB0.out.size)
              rw [← hbw.cell (p := ⟨bB, _, none⟩) hbB] at g0 g1 g2 g3 g4
              have hik : (k : Int) < (b.tabs.length : Int) := by omega
              have HX := Lib.hid hx
              have hxl : x.name.length ≤ 140737488355328 := by obtain ⟨_, _, _, h, _⟩ := hr; exact h
              have HFK := Lib.hid (HK.out.trans (find_at (p := fun t : Tb => !someBx (boxOf b t)) hx))
              have HI3 : Hid (x.ins.length ≤ 3) := Lib.hid (goodT_head (tabsOk_good HTO.out x (List.mem_of_getElem? hx))).2.2.2.1
              obtain ⟨ob, hob⟩ : ∃ o, boxOf b x = o := ⟨_, rfl⟩
              have HO := Lib.hid hob
              obtain ⟨W3, e3, HB3, j0, j1, j2, j3, j4, q0, q1, HR3, HK3, hw3s⟩ : ∃ W3, wr.alloc (.cells #[.string ⟨x.name.toArray⟩, .int .i64 x.pol, .bool x.comp, .slice A1 x.ins.length ca, .slice A2 x.rules.length cb] 42) = W3 ∧ Hid (Below W0.heap.size W0 W3) ∧ W3.cell? ⟨wr.heap.size, 0, none⟩ = some (.string ⟨x.name.toArray⟩) ∧ W3.cell? ⟨wr.heap.size, 1, none⟩ = some (.int .i64 x.pol) ∧ W3.cell? ⟨wr.heap.size, 2, none⟩ = some (.bool x.comp) ∧ W3.cell? ⟨wr.heap.size, 3, none⟩ = some (.slice A1 x.ins.length ca) ∧ W3.cell? ⟨wr.heap.size, 4, none⟩ = some (.slice A2 x.rules.length cb) ∧
                  W3.cell? ⟨w.heap.size, 0, none⟩ = some (.slice A b.doms.length c) ∧ W3.cell? ⟨w.heap.size, 1, none⟩ = some (.slice (some ⟨bB, off, none⟩) b.tabs.length d) ∧ Hid (rTb.rel W3 S [.string ⟨x.name.toArray⟩, .int .i64 x.pol, .bool x.comp, .slice A1 x.ins.length ca, .slice A2 x.rules.length cb] x) ∧ Hid (rBk.rel W3 S [.slice A b.doms.length c, .slice (some ⟨bB, off, none⟩) b.tabs.length d] b) ∧ wr.heap.size < W3.heap.size :=
                ⟨_, rfl, Lib.hid (HB.out.alloc HB.out.size _), World.cell?_alloc_new _ _ _ _, World.cell?_alloc_new _ _ _ _, World.cell?_alloc_new _ _ _ _, World.cell?_alloc_new _ _ _ _, World.cell?_alloc_new _ _ _ _,
                  ((HB.out.alloc HB.out.size _).cell (p := ⟨w.heap.size, 0, none⟩) hs0).trans c0, ((HB.out.alloc HB.out.size _).cell (p := ⟨w.heap.size, 1, none⟩) hs0).trans c1, Lib.hid (Rd.below hr (hbw.alloc hbw.size _)), Lib.hid (Rd.below HBK.out (HB.out.alloc HB.out.size _)), by simp⟩
              have HS3 := Lib.hid (Nat.lt_of_lt_of_le hs0 HB3.out.size)
              clear hx hr hob hbw
              cases ob
              · have HC : Hid (checkB b = (x.name, [], 3)) := Lib.hid (by rw [HC3.out, HFK.out, HO.out]; rfl)
                go_wp2_with (first | (go_at_call 70; go_must ((with_reducible refine (BkBox_at W3 HK3.out HR3.out HSM.out HI3.out HO.out).mono ?_); rintro e w4 ⟨z4, rfl, hown4, hb4⟩; have HB4 := Lib.hid (HB3.out.trans (hb4.mono HB3.out.size)); have r0 := (hb4.cell (p := ⟨wr.heap.size, 0, none⟩) hw3s).trans j0; have r1 := (hb4.cell (p := ⟨wr.heap.size, 1, none⟩) hw3s).trans j1; have r2 := (hb4.cell (p := ⟨wr.heap.size, 2, none⟩) hw3s).trans j2; have r3 := (hb4.cell (p := ⟨wr.heap.size, 3, none⟩) hw3s).trans j3; have r4 := (hb4.cell (p := ⟨wr.heap.size, 4, none⟩) hw3s).trans j4; have HR4 := Lib.hid (Rd.below HR3.out hb4); have HS4 := Lib.hid (Nat.lt_of_lt_of_le hw3s hb4.size); clear hb4 hown4)) )
                go_ret3
                exact HZ.out _ _ _ HC.out rfl rfl HB4.out
              · have HK' := Lib.hid (HFK.out.trans (by rw [HO.out]))
                go_wp2_with (first | (go_at_call 70; go_must ((with_reducible refine (BkBox_at W3 HK3.out HR3.out HSM.out HI3.out HO.out).mono ?_); rintro e w4 ⟨z4, rfl, hown4, hb4⟩; have HB4 := Lib.hid (HB3.out.trans (hb4.mono HB3.out.size)); have r0 := (hb4.cell (p := ⟨wr.heap.size, 0, none⟩) hw3s).trans j0; have r1 := (hb4.cell (p := ⟨wr.heap.size, 1, none⟩) hw3s).trans j1; have r2 := (hb4.cell (p := ⟨wr.heap.size, 2, none⟩) hw3s).trans j2; have r3 := (hb4.cell (p := ⟨wr.heap.size, 3, none⟩) hw3s).trans j3; have r4 := (hb4.cell (p := ⟨wr.heap.size, 4, none⟩) hw3s).trans j4; have HR4 := Lib.hid (Rd.below HR3.out hb4); have HS4 := Lib.hid (Nat.lt_of_lt_of_le hw3s hb4.size); clear hb4 hown4)) )
                go_roundw
                case rel => exact ⟨k + 1, by omega, by go_num, HK', HB4⟩
                case measure => simp [intOf]; omega
            · have HFN : Hid ((b.tabs.find? fun t => !someBx (boxOf b t)) = none) := Lib.hid (by rw [HK.out, List.drop_eq_nil_of_le (by omega)]; rfl)
              have HC4 := Lib.hid (HC3.out.trans (by rw [HFN.out]))
              clear HK HC3 hk
              obtain ⟨w3, hw3⟩ : ∃ x, x = wr := ⟨_, rfl⟩
              subst hw3
              have c13 := (HB.out.cell (p := ⟨w.heap.size, 1, none⟩) hs0).trans c1
              have c03 := (HB.out.cell (p := ⟨w.heap.size, 0, none⟩) hs0).trans c0
              have HBKo := Lib.hid (Rd.below HBK.out HB.out)
              obtain ⟨oo, hoo⟩ : ∃ o, orderB b = o := ⟨_, rfl⟩
              have HOO := Lib.hid hoo
              clear hoo
              cases oo
              · have HC : Hid (checkB b = ([], [], 6)) := Lib.hid (by rw [HC4.out, HOO.out]; rfl)
                go_wp2_with (first | (go_at_call 34; go_must ((with_reducible refine (Order_at w3 HBKo.out HOO.out).mono ?_); rintro e wo ⟨zo, rfl, _, hbo⟩; have HBo := Lib.hid (HB.out.trans (hbo.mono HB.out.size)))))
                go_ret3
                exact HZ.out _ _ _ HC.out rfl rfl HBo.out
              have HC5 : Hid (checkB b = clashGap b b.tabs) := Lib.hid (by rw [HC4.out, HOO.out]; rfl)
              clear HC4
              go_wp2_with (first | (go_at_call 34; go_must ((with_reducible refine (Order_at w3 HBKo.out HOO.out).mono ?_); rintro e wo ⟨zo, rfl, _, hbo⟩; have HBo := Lib.hid (HB.out.trans (hbo.mono HB.out.size)); have c14 := (HBo.out.cell (p := ⟨w.heap.size, 1, none⟩) hs0).trans c1; clear hbo c13 c03)))
              clear c14 hlt
              go_loopw [129] (fun i wr => ∃ k : Nat, k ≤ b.tabs.length ∧ i = .int .i64 k ∧ Hid (checkB b = clashGap b (b.tabs.drop k)) ∧ Hid (Below W0.heap.size W0 wr)) (fun i _ => b.tabs.length - (intOf i).toNat)
              case atStart => exact ⟨0, Nat.zero_le _, rfl, Lib.hid HC5.out, HBo⟩
              case round =>
                obtain ⟨k, hk, rfl, HK, HB⟩ := hrel
                by_cases hlt : k < b.tabs.length
                · obtain ⟨bB, off, x, A1, ca, A2, cb, rfl, hbB, hx, hr, g0, g1, g2, g3, g4⟩ := HF.out.tb hlt
                  have hbw := HB0.out.trans (HB.out.mono HB0.out.size)
                  rw [← hbw.cell (p := ⟨bB, _, none⟩) hbB] at g0 g1 g2 g3 g4
                  have hik : (k : Int) < (b.tabs.length : Int) := by omega
                  have HX := Lib.hid hx
                  have hxl : x.name.length ≤ 140737488355328 := by obtain ⟨_, _, _, h, _⟩ := hr; exact h
                  have HKK : Hid (checkB b = if 0 < (clashB x (bxOf b x)).length then (x.name, leastB (clashB x (bxOf b x)), 8) else if 0 < (gapB x (bxOf b x)).length ∧ x.comp = true then (x.name, leastB (gapB x (bxOf b x)), 7) else clashGap b (b.tabs.drop (k + 1))) := Lib.hid (by rw [HK.out, drop_cons hx, clashGap])
                  have HI3 : Hid (x.ins.length ≤ 3) := Lib.hid (goodT_head (tabsOk_good HTO.out x (List.mem_of_getElem? hx))).2.2.2.1
                  obtain ⟨ob, hob⟩ : ∃ o, boxOf b x = o := ⟨_, rfl⟩
                  obtain ⟨bx, hbx⟩ : ∃ o, optBx ob = o := ⟨_, rfl⟩
                  have HBX : Hid (bxOf b x = optBx ob) := Lib.hid (by unfold bxOf; rw [hob])
                  have HO := Lib.hid hob
                  obtain ⟨cl, hcl⟩ : ∃ o, clashB x (optBx ob) = o := ⟨_, rfl⟩
                  obtain ⟨ga, hga⟩ : ∃ o, gapB x (optBx ob) = o := ⟨_, rfl⟩
                  have HCL := Lib.hid hcl
                  have HGA := Lib.hid hga
                  obtain ⟨cm, hcm⟩ : ∃ r, x.comp = r := ⟨_, rfl⟩
                  have HCM := Lib.hid hcm
                  rw [hcm] at hr g2
                  obtain ⟨W3, e3, HB3, j0, j1, j2, j3, j4, q0, q1, HR3, HK3, hw3s⟩ : ∃ W3, wr.alloc (.cells #[.string ⟨x.name.toArray⟩, .int .i64 x.pol, .bool cm, .slice A1 x.ins.length ca, .slice A2 x.rules.length cb] 42) = W3 ∧ Hid (Below W0.heap.size W0 W3) ∧ W3.cell? ⟨wr.heap.size, 0, none⟩ = some (.string ⟨x.name.toArray⟩) ∧ W3.cell? ⟨wr.heap.size, 1, none⟩ = some (.int .i64 x.pol) ∧ W3.cell? ⟨wr.heap.size, 2, none⟩ = some (.bool cm) ∧ W3.cell? ⟨wr.heap.size, 3, none⟩ = some (.slice A1 x.ins.length ca) ∧ W3.cell? ⟨wr.heap.size, 4, none⟩ = some (.slice A2 x.rules.length cb) ∧
                      W3.cell? ⟨w.heap.size, 0, none⟩ = some (.slice A b.doms.length c) ∧ W3.cell? ⟨w.heap.size, 1, none⟩ = some (.slice (some ⟨bB, off, none⟩) b.tabs.length d) ∧ Hid (rTb.rel W3 S [.string ⟨x.name.toArray⟩, .int .i64 x.pol, .bool cm, .slice A1 x.ins.length ca, .slice A2 x.rules.length cb] x) ∧ Hid (rBk.rel W3 S [.slice A b.doms.length c, .slice (some ⟨bB, off, none⟩) b.tabs.length d] b) ∧ wr.heap.size < W3.heap.size :=
                    ⟨_, rfl, Lib.hid (HB.out.alloc HB.out.size _), World.cell?_alloc_new _ _ _ _, World.cell?_alloc_new _ _ _ _, World.cell?_alloc_new _ _ _ _, World.cell?_alloc_new _ _ _ _, World.cell?_alloc_new _ _ _ _,
                      ((HB.out.alloc HB.out.size _).cell (p := ⟨w.heap.size, 0, none⟩) hs0).trans c0, ((HB.out.alloc HB.out.size _).cell (p := ⟨w.heap.size, 1, none⟩) hs0).trans c1, Lib.hid (Rd.below hr (hbw.alloc hbw.size _)), Lib.hid (Rd.below HBK.out (HB.out.alloc HB.out.size _)), by simp⟩
                  have HS3 := Lib.hid (Nat.lt_of_lt_of_le hs0 HB3.out.size)
                  clear hx hr hob hbx hcl hga hbw hcm
                  by_cases hc : 0 < cl.length
                  · have HC : Hid (checkB b = (x.name, leastB cl, 8)) := Lib.hid (by rw [HKK.out, HBX.out, HCL.out, if_pos hc])
                    go_wp2_with (first | (go_at_call 70; go_must ((with_reducible refine (BkBox_at W3 HK3.out HR3.out HSM.out HI3.out HO.out).mono ?_); rintro e w4 ⟨z4, rfl, hown4, hb4⟩; have HB4 := Lib.hid (HB3.out.trans (hb4.mono HB3.out.size)); have r0 := (hb4.cell (p := ⟨wr.heap.size, 0, none⟩) hw3s).trans j0; have r1 := (hb4.cell (p := ⟨wr.heap.size, 1, none⟩) hw3s).trans j1; have r2 := (hb4.cell (p := ⟨wr.heap.size, 2, none⟩) hw3s).trans j2; have r3 := (hb4.cell (p := ⟨wr.heap.size, 3, none⟩) hw3s).trans j3; have r4 := (hb4.cell (p := ⟨wr.heap.size, 4, none⟩) hw3s).trans j4; have HR4 := Lib.hid (Rd.below HR3.out hb4); have HS4 := Lib.hid (Nat.lt_of_lt_of_le hw3s hb4.size); have HOW4 : Hid (rBx.rel w4 (Up (fun _ => False) W3.heap.size) [z4] (optBx ob)) := Lib.hid (hown4.rel (by decide)); obtain ⟨Ab4, cb4, rfl⟩ := hown4.value; clear hb4 hown4)) | (go_at_call 21; go_must ((with_reducible refine (Clash_at w4 HR4.out HOW4.out HCL.out).mono ?_); rintro e w5 ⟨z5, S5, rfl, hz5, hb5⟩; obtain ⟨Az5, cz5, rfl, _⟩ := rSl.elems hz5; have HB5 := Lib.hid (HB4.out.trans (hb5.mono HB4.out.size)); have s0 := (hb5.cell (p := ⟨wr.heap.size, 0, none⟩) HS4.out).trans r0; have s1 := (hb5.cell (p := ⟨wr.heap.size, 1, none⟩) HS4.out).trans r1; have s2 := (hb5.cell (p := ⟨wr.heap.size, 2, none⟩) HS4.out).trans r2; have s3 := (hb5.cell (p := ⟨wr.heap.size, 3, none⟩) HS4.out).trans r3; have s4 := (hb5.cell (p := ⟨wr.heap.size, 4, none⟩) HS4.out).trans r4; have HR5 := Lib.hid (Rd.below HR4.out hb5); have HOW5 := Lib.hid (Rd.below HOW4.out hb5); have HS5 := Lib.hid (Nat.lt_of_lt_of_le HS4.out hb5.size); have HZ5 := Lib.hid hz5; clear hb5 hz5)))
                    go_ret3
                    exact ⟨_, S5, by rw [HC.out]; rfl, by rw [HC.out]; exact HZ5.out, HB0.out.trans (HB5.out.mono HB0.out.size)⟩
                  · by_cases hg : 0 < ga.length
                    · cases cm
                      · have HK' : Hid (checkB b = clashGap b (b.tabs.drop (k + 1))) := Lib.hid (by rw [HKK.out, HBX.out, HCL.out, if_neg hc, HGA.out, if_neg (by rw [HCM.out]; simp)])
                        go_wp2_with (first | (go_at_call 70; go_must ((with_reducible refine (BkBox_at W3 HK3.out HR3.out HSM.out HI3.out HO.out).mono ?_); rintro e w4 ⟨z4, rfl, hown4, hb4⟩; have HB4 := Lib.hid (HB3.out.trans (hb4.mono HB3.out.size)); have r0 := (hb4.cell (p := ⟨wr.heap.size, 0, none⟩) hw3s).trans j0; have r1 := (hb4.cell (p := ⟨wr.heap.size, 1, none⟩) hw3s).trans j1; have r2 := (hb4.cell (p := ⟨wr.heap.size, 2, none⟩) hw3s).trans j2; have r3 := (hb4.cell (p := ⟨wr.heap.size, 3, none⟩) hw3s).trans j3; have r4 := (hb4.cell (p := ⟨wr.heap.size, 4, none⟩) hw3s).trans j4; have HR4 := Lib.hid (Rd.below HR3.out hb4); have HS4 := Lib.hid (Nat.lt_of_lt_of_le hw3s hb4.size); have HOW4 : Hid (rBx.rel w4 (Up (fun _ => False) W3.heap.size) [z4] (optBx ob)) := Lib.hid (hown4.rel (by decide)); obtain ⟨Ab4, cb4, rfl⟩ := hown4.value; clear hb4 hown4)) | (go_at_call 21; go_must ((with_reducible refine (Clash_at w4 HR4.out HOW4.out HCL.out).mono ?_); rintro e w5 ⟨z5, S5, rfl, hz5, hb5⟩; obtain ⟨Az5, cz5, rfl, _⟩ := rSl.elems hz5; have HB5 := Lib.hid (HB4.out.trans (hb5.mono HB4.out.size)); have s0 := (hb5.cell (p := ⟨wr.heap.size, 0, none⟩) HS4.out).trans r0; have s1 := (hb5.cell (p := ⟨wr.heap.size, 1, none⟩) HS4.out).trans r1; have s2 := (hb5.cell (p := ⟨wr.heap.size, 2, none⟩) HS4.out).trans r2; have s3 := (hb5.cell (p := ⟨wr.heap.size, 3, none⟩) HS4.out).trans r3; have s4 := (hb5.cell (p := ⟨wr.heap.size, 4, none⟩) HS4.out).trans r4; have HR5 := Lib.hid (Rd.below HR4.out hb5); have HOW5 := Lib.hid (Rd.below HOW4.out hb5); have HS5 := Lib.hid (Nat.lt_of_lt_of_le HS4.out hb5.size); have HZ5 := Lib.hid hz5; clear hb5 hz5))| (go_at_call 19; go_must ((with_reducible refine (Gap_at w5 HR5.out HOW5.out HGA.out).mono ?_); rintro e w6 ⟨z6, S6, rfl, hz6, hb6⟩; obtain ⟨Az6, cz6, rfl, _⟩ := rSl.elems hz6; have HB6 := Lib.hid (HB5.out.trans (hb6.mono HB5.out.size)); have t0 := (hb6.cell (p := ⟨wr.heap.size, 0, none⟩) HS5.out).trans s0; have t2 := (hb6.cell (p := ⟨wr.heap.size, 2, none⟩) HS5.out).trans s2; have HZ6 := Lib.hid hz6; clear hb6 hz6)))
                        go_roundw
                        case rel => exact ⟨k + 1, by omega, by go_num, HK', HB6⟩
                        case measure => simp [intOf]; omega
                      · have HC : Hid (checkB b = (x.name, leastB ga, 7)) := Lib.hid (by rw [HKK.out, HBX.out, HCL.out, if_neg hc, HGA.out, if_pos ⟨hg, HCM.out⟩])
                        go_wp2_with (first | (go_at_call 70; go_must ((with_reducible refine (BkBox_at W3 HK3.out HR3.out HSM.out HI3.out HO.out).mono ?_); rintro e w4 ⟨z4, rfl, hown4, hb4⟩; have HB4 := Lib.hid (HB3.out.trans (hb4.mono HB3.out.size)); have r0 := (hb4.cell (p := ⟨wr.heap.size, 0, none⟩) hw3s).trans j0; have r1 := (hb4.cell (p := ⟨wr.heap.size, 1, none⟩) hw3s).trans j1; have r2 := (hb4.cell (p := ⟨wr.heap.size, 2, none⟩) hw3s).trans j2; have r3 := (hb4.cell (p := ⟨wr.heap.size, 3, none⟩) hw3s).trans j3; have r4 := (hb4.cell (p := ⟨wr.heap.size, 4, none⟩) hw3s).trans j4; have HR4 := Lib.hid (Rd.below HR3.out hb4); have HS4 := Lib.hid (Nat.lt_of_lt_of_le hw3s hb4.size); have HOW4 : Hid (rBx.rel w4 (Up (fun _ => False) W3.heap.size) [z4] (optBx ob)) := Lib.hid (hown4.rel (by decide)); obtain ⟨Ab4, cb4, rfl⟩ := hown4.value; clear hb4 hown4)) | (go_at_call 21; go_must ((with_reducible refine (Clash_at w4 HR4.out HOW4.out HCL.out).mono ?_); rintro e w5 ⟨z5, S5, rfl, hz5, hb5⟩; obtain ⟨Az5, cz5, rfl, _⟩ := rSl.elems hz5; have HB5 := Lib.hid (HB4.out.trans (hb5.mono HB4.out.size)); have s0 := (hb5.cell (p := ⟨wr.heap.size, 0, none⟩) HS4.out).trans r0; have s1 := (hb5.cell (p := ⟨wr.heap.size, 1, none⟩) HS4.out).trans r1; have s2 := (hb5.cell (p := ⟨wr.heap.size, 2, none⟩) HS4.out).trans r2; have s3 := (hb5.cell (p := ⟨wr.heap.size, 3, none⟩) HS4.out).trans r3; have s4 := (hb5.cell (p := ⟨wr.heap.size, 4, none⟩) HS4.out).trans r4; have HR5 := Lib.hid (Rd.below HR4.out hb5); have HOW5 := Lib.hid (Rd.below HOW4.out hb5); have HS5 := Lib.hid (Nat.lt_of_lt_of_le HS4.out hb5.size); have HZ5 := Lib.hid hz5; clear hb5 hz5))| (go_at_call 19; go_must ((with_reducible refine (Gap_at w5 HR5.out HOW5.out HGA.out).mono ?_); rintro e w6 ⟨z6, S6, rfl, hz6, hb6⟩; obtain ⟨Az6, cz6, rfl, _⟩ := rSl.elems hz6; have HB6 := Lib.hid (HB5.out.trans (hb6.mono HB5.out.size)); have t0 := (hb6.cell (p := ⟨wr.heap.size, 0, none⟩) HS5.out).trans s0; have t2 := (hb6.cell (p := ⟨wr.heap.size, 2, none⟩) HS5.out).trans s2; have HZ6 := Lib.hid hz6; clear hb6 hz6)))
                        go_ret3
                        exact ⟨_, S6, by rw [HC.out]; rfl, by rw [HC.out]; exact HZ6.out, HB0.out.trans (HB6.out.mono HB0.out.size)⟩
                    · have HK' : Hid (checkB b = clashGap b (b.tabs.drop (k + 1))) := Lib.hid (by rw [HKK.out, HBX.out, HCL.out, if_neg hc, HGA.out, if_neg (by simp [hg])])
                      go_wp2_with (first | (go_at_call 70; go_must ((with_reducible refine (BkBox_at W3 HK3.out HR3.out HSM.out HI3.out HO.out).mono ?_); rintro e w4 ⟨z4, rfl, hown4, hb4⟩; have HB4 := Lib.hid (HB3.out.trans (hb4.mono HB3.out.size)); have r0 := (hb4.cell (p := ⟨wr.heap.size, 0, none⟩) hw3s).trans j0; have r1 := (hb4.cell (p := ⟨wr.heap.size, 1, none⟩) hw3s).trans j1; have r2 := (hb4.cell (p := ⟨wr.heap.size, 2, none⟩) hw3s).trans j2; have r3 := (hb4.cell (p := ⟨wr.heap.size, 3, none⟩) hw3s).trans j3; have r4 := (hb4.cell (p := ⟨wr.heap.size, 4, none⟩) hw3s).trans j4; have HR4 := Lib.hid (Rd.below HR3.out hb4); have HS4 := Lib.hid (Nat.lt_of_lt_of_le hw3s hb4.size); have HOW4 : Hid (rBx.rel w4 (Up (fun _ => False) W3.heap.size) [z4] (optBx ob)) := Lib.hid (hown4.rel (by decide)); obtain ⟨Ab4, cb4, rfl⟩ := hown4.value; clear hb4 hown4)) | (go_at_call 21; go_must ((with_reducible refine (Clash_at w4 HR4.out HOW4.out HCL.out).mono ?_); rintro e w5 ⟨z5, S5, rfl, hz5, hb5⟩; obtain ⟨Az5, cz5, rfl, _⟩ := rSl.elems hz5; have HB5 := Lib.hid (HB4.out.trans (hb5.mono HB4.out.size)); have s0 := (hb5.cell (p := ⟨wr.heap.size, 0, none⟩) HS4.out).trans r0; have s1 := (hb5.cell (p := ⟨wr.heap.size, 1, none⟩) HS4.out).trans r1; have s2 := (hb5.cell (p := ⟨wr.heap.size, 2, none⟩) HS4.out).trans r2; have s3 := (hb5.cell (p := ⟨wr.heap.size, 3, none⟩) HS4.out).trans r3; have s4 := (hb5.cell (p := ⟨wr.heap.size, 4, none⟩) HS4.out).trans r4; have HR5 := Lib.hid (Rd.below HR4.out hb5); have HOW5 := Lib.hid (Rd.below HOW4.out hb5); have HS5 := Lib.hid (Nat.lt_of_lt_of_le HS4.out hb5.size); have HZ5 := Lib.hid hz5; clear hb5 hz5))| (go_at_call 19; go_must ((with_reducible refine (Gap_at w5 HR5.out HOW5.out HGA.out).mono ?_); rintro e w6 ⟨z6, S6, rfl, hz6, hb6⟩; obtain ⟨Az6, cz6, rfl, _⟩ := rSl.elems hz6; have HB6 := Lib.hid (HB5.out.trans (hb6.mono HB5.out.size)); have t0 := (hb6.cell (p := ⟨wr.heap.size, 0, none⟩) HS5.out).trans s0; have t2 := (hb6.cell (p := ⟨wr.heap.size, 2, none⟩) HS5.out).trans s2; have HZ6 := Lib.hid hz6; clear hb6 hz6)))
                      go_roundw
                      case rel => exact ⟨k + 1, by omega, by go_num, HK', HB6⟩
                      case measure => simp [intOf]; omega
                · have HC : Hid (checkB b = ([], [], 0)) := Lib.hid (by rw [HK.out, List.drop_eq_nil_of_le (by omega)]; rfl)
                  go_wp2
                  go_ret3
                  exact HZ.out _ _ _ HC.out rfl rfl HB.out

end Go.Proofs.YtlopccnehgolnabGreatDoor
