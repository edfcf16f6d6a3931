/- The contract of the reference's CheckBook. The reference's CheckBook, by its answer. -/
import Derived.Test.YtlopccnehgolnabGreatDoorCheck
import Derived.Test.YtlopccnehgolnabGreatDoorRefBx
import Derived.Test.YtlopccnehgolnabGreatDoorGrS
import Derived.Test.YtlopccnehgolnabGreatDoorGrV
import Derived.Test.YtlopccnehgolnabGreatDoorGrW
namespace Go.Proofs.YtlopccnehgolnabGreatDoor
open Go.RowKit Rb

theorem bytes_tot : ∀ {a b : Txt}, Op.bytesLess a b = false → Op.bytesLess b a = true ∨ (Op.bytesLess b a = false ∧ (b == a) = true)
  | [], [], _ => .inr ⟨rfl, rfl⟩
  | [], _ :: _, h => by cases h
  | _ :: _, [], _ => .inl rfl
  | x :: a, y :: b, h => by
    simp only [Op.bytesLess, Bool.or_eq_false_iff, Bool.and_eq_false_iff, decide_eq_false_iff_not] at h
    obtain ⟨h1, h2⟩ := h
    by_cases e : x = y
    · subst e
      have h3 : Op.bytesLess a b = false := by
        rcases h2 with h2 | h2
        · simp at h2
        · exact h2
      rcases bytes_tot h3 with h4 | ⟨h4, h5⟩
      · exact .inl (by simp [Op.bytesLess, h4])
      · refine .inr ⟨?_, ?_⟩
        · simp only [Op.bytesLess, h4, Bool.and_false, Bool.or_false, decide_eq_false_iff_not]; exact h1
        · simpa using h5
    · have h3 : y < x := by
        rcases UInt8.lt_or_lt_of_ne e with h | h
        · exact absurd h h1
        · exact h
      exact .inl (by simp [Op.bytesLess, h3])
theorem bytes_asym {a b : Txt} (h : Op.bytesLess a b = true) : Op.bytesLess b a = false ∧ (b == a) = false := by
  refine ⟨?_, ?_⟩
  · cases h2 : Op.bytesLess b a
    · rfl
    · have := bytesLess_trans h h2
      rw [bytesLess_irrefl] at this
      cases this
  · rw [beq_eq_false_iff_ne]
    rintro rfl
    rw [bytesLess_irrefl] at h
    cases h

/-- The name before the k-th. -/
def lastD (l : List Dm) : Nat → Txt | 0 => [] | k + 1 => nameD l k
def lastT (l : List Tb) : Nat → Txt | 0 => [] | k + 1 => nameT l k
theorem less_nil {s : Txt} (h : s ≠ []) : Op.bytesLess [] s = true := by cases s with | nil => exact absurd rfl h | cons _ _ => rfl
theorem named_ne {s : Txt} (h : named s = true) : s ≠ [] := by rintro rfl; cases h
theorem goodD_ne {x : Dm} (h : goodD x = true) : x.name ≠ [] := by
  unfold goodD at h
  simp only [Bool.and_eq_true] at h
  exact named_ne h.1
theorem domOk_last {l : List Dm} {k : Nat} {x : Dm} (h : l[k]? = some x) : domOk l k = (goodD x && Op.bytesLess (lastD l k) x.name) := by
  unfold domOk
  rw [h]
  dsimp only
  cases hg : goodD x
  · rfl
  · cases k with
    | zero => rw [show lastD l 0 = [] from rfl, less_nil (goodD_ne hg)]; rfl
    | succ k => rfl
theorem goodT_ne {t : Tb} (h : goodT t = true) : t.name ≠ [] := by
  unfold goodT at h
  simp only [Bool.and_eq_true] at h
  exact named_ne (head_yes h.1.1).1
theorem tabOk_last {b : Bk} {k : Nat} {t : Tb} (h : b.tabs[k]? = some t) : tabOk b k = (goodT t && !(findD b.doms t.name).isSome && Op.bytesLess (lastT b.tabs k) t.name) := by
  unfold tabOk
  rw [h]
  dsimp only
  cases hg : goodT t
  · rfl
  · cases k with
    | zero => rw [show lastT b.tabs 0 = [] from rfl, less_nil (goodT_ne hg)]; simp
    | succ k => rfl

theorem domsOk_good {l : List Dm} (h : domsOk l = true) : ∀ d ∈ l, goodD d = true := by
  intro t ht
  obtain ⟨i, hi, rfl⟩ := List.getElem_of_mem ht
  have := List.all_eq_true.1 h i (List.mem_range.2 hi)
  unfold domOk at this
  rw [List.getElem?_eq_getElem hi] at this
  simp only [Bool.and_eq_true] at this
  exact this.1
theorem tabsOk_nodup {b : Bk} (h : tabsOk b = true) : (b.tabs.map (·.name)).Nodup := by
  refine rise_nodup (f := fun t : Tb => t.name) fun k hk => ?_
  have := List.all_eq_true.1 h (k + 1) (List.mem_range.2 hk)
  unfold tabOk at this
  rw [List.getElem?_eq_getElem hk] at this
  simp only [Bool.and_eq_true, Nat.add_sub_cancel] at this
  have h2 := this.2
  rw [show nameT b.tabs k = b.tabs[k].name by unfold nameT; rw [List.getElem?_eq_getElem (by omega)]] at h2
  simpa using h2
theorem boxOf_b {S T : Nat → Prop} {bs cs : List Value} {b : Bk} {t : Tb} {o : Option Bx} (w : World) (hb : rBk.rel w S bs b) (ht : rTb.rel w T cs t) (hgt : ∀ t ∈ b.tabs, goodT t = true) (hgd : ∀ d ∈ b.doms, goodD d = true) (h3 : t.ins.length ≤ 3) (h : boxOf b t = o) :
    Calls Tryz.prog 73 #[.agg bs.toArray, .agg cs.toArray] w fun e w' => ∃ z, e = .returned (.tuple #[z, .bool (someBx o)]) ∧ Own (rSl rRg) 95 w' w.heap.size (fun _ => False) z (optBx o) ∧ Below w.heap.size w w' := h ▸ boxOf_ref w hb ht hgt hgd h3
theorem OrderOf_b {S : Nat → Prop} {cs : List Value} {b : Bk} {r : Bool} (w : World) (hl : rBk.rel w S cs b) (hn : (b.tabs.map (·.name)).Nodup) (h4 : b.tabs.length ≤ 4) (hne : ∀ t ∈ b.tabs, t.name ≠ []) (h : (orderB b).isSome = r) :
    Calls Tryz.prog 35 #[.agg cs.toArray] w fun e w' => ∃ z, e = .returned (.tuple #[z, .bool r]) ∧ Below w.heap.size w w' := by
  refine (OrderOf_any w hl hn h4 hne).mono ?_
  rintro e w' ⟨z, S', rfl, _, hb⟩
  exact ⟨z, by rw [h], hb⟩
theorem ClashOf_b {S T : Nat → Prop} {cs : List Value} {t : Tb} {u : Value} {all : Bx} {l : List Int} {r : Bool} (w : World) (hl : rTb.rel w S cs t) (hm : rBx.rel w T [u] all) (h1 : leastB (clashB t all) = l) (h2 : decide (0 < (clashB t all).length) = r) :
    Calls Tryz.prog 22 #[.agg cs.toArray, u] w fun e w' => ∃ z S', e = .returned (.tuple #[z, .bool r]) ∧ (rSl rInt).rel w' S' [z] l ∧ Below w.heap.size w w' := h1 ▸ h2 ▸ ClashOf_any w hl hm
theorem GapOf_b {S T : Nat → Prop} {cs : List Value} {t : Tb} {u : Value} {all : Bx} {l : List Int} {r : Bool} (w : World) (hl : rTb.rel w S cs t) (hm : rBx.rel w T [u] all) (h1 : leastB (gapB t all) = l) (h2 : decide (0 < (gapB t all).length) = r) :
    Calls Tryz.prog 20 #[.agg cs.toArray, u] w fun e w' => ∃ z S', e = .returned (.tuple #[z, .bool r]) ∧ (rSl rInt).rel w' S' [z] l ∧ Below w.heap.size w w' := h1 ▸ h2 ▸ GapOf_any w hl hm
theorem clashGap_at {b : Bk} {l : List Tb} {k : Nat} {t : Tb} (h : l[k]? = some t) : clashGap b (l.drop k) = if 0 < (clashB t (bxOf b t)).length then (t.name, leastB (clashB t (bxOf b t)), 8)
    else if 0 < (gapB t (bxOf b t)).length ∧ t.comp = true then (t.name, leastB (gapB t (bxOf b t)), 7) else clashGap b (l.drop (k + 1)) := by
  rw [drop_cons h]; rfl

theorem IsDomain_at {d : Dm} {r : Bool} (w : World) (hs : d.name.length ≤ 140737488355328) (h : goodD d = r) :
    Calls Tryz.prog 71 #[.agg #[.string ⟨d.name.toArray⟩, .int .i64 d.lo, .int .i64 d.hi]] w fun e w' => e = .returned (.bool r) ∧ Below w.heap.size w w' := h ▸ IsDomain_any d w hs

set_option maxRecDepth 100000 in
set_option maxHeartbeats 3200000 in
theorem CheckBook_any {S : Nat → Prop} {bs : List Value} {b : Bk} (w : World) (hl : rBk.rel w S bs b) :
    Calls Tryz.prog 29 #[.agg bs.toArray] w fun e w' => checkPost b w e w' := by
  have hl' := hl
  obtain ⟨v0, u0, rfl, hd, htb⟩ := hl
  obtain ⟨A, c, rfl, _, _, hbd, hD⟩ := rSl.elems hd
  obtain ⟨B, d, rfl, _, _, hbt, hF⟩ := rSl.elems htb
  have hld : b.doms.length ≤ 4398046511104 := by simp only [rDm] at hbd; omega
  have hlt5 : b.tabs.length ≤ 1759218604441 := by simp only [rTb] at hbt; omega
  obtain ⟨W0, e0, HB0, c0, c1, hs0, HBK⟩ : ∃ W0, w.alloc (.cells #[.slice A b.doms.length c, .slice B b.tabs.length d] 33) = W0 ∧ Hid (Below w.heap.size w W0) ∧ W0.cell? ⟨w.heap.size, 0, none⟩ = some (.slice A b.doms.length c) ∧ W0.cell? ⟨w.heap.size, 1, none⟩ = some (.slice B b.tabs.length d) ∧ w.heap.size < W0.heap.size ∧ Hid (rBk.rel W0 S [.slice A b.doms.length c, .slice B b.tabs.length d] b) :=
    ⟨_, rfl, Lib.hid ((Below.refl _ _).alloc (Nat.le_refl _) _), World.cell?_alloc_new _ _ _ _, World.cell?_alloc_new _ _ _ _, by simp, Lib.hid (Rd.alloc hl' _)⟩
  clear hl' hd htb hbd hbt
  have HD := Lib.hid hD
  have HF := Lib.hid hF
  have HS0 := Lib.hid hs0
  have HC0 := Lib.hid c0
  have HC1 := Lib.hid c1
  clear hD hF hs0
  have HZ : Hid (∀ (e : Ending) (w' : World) (r : Txt × List Int × Int), checkB b = r → e = .returned (.tuple #[.string ⟨r.1.toArray⟩, .slice none 0 0, .int .i64 r.2.2]) → r.2.1 = [] → Below W0.heap.size W0 w' → checkPost b w e w') := Lib.hid (by
    rintro e w' r rfl rfl h h2
    exact ⟨_, _, rfl, by rw [h]; exact ints_nil _, HB0.out.trans (h2.mono HB0.out.size)⟩)
  go_enter Tryz.func29, Tryz.ntmps29
  by_cases hm1 : 4 < b.doms.length
  · have hi1 : (4 : Int) < (b.doms.length : Int) := by omega
    have HC : Hid (checkB b = ([], [], 11)) := Lib.hid (by unfold checkB; rw [if_pos (.inl hm1)])
    go_wp2
    go_ret3
    exact HZ.out _ _ _ HC.out rfl rfl (Below.refl _ _)
  have hi1 : ¬ (4 : Int) < (b.doms.length : Int) := by omega
  by_cases hm2 : 4 < b.tabs.length
  · have hi2 : (4 : Int) < (b.tabs.length : Int) := by omega
    have HC : Hid (checkB b = ([], [], 11)) := Lib.hid (by unfold checkB; rw [if_pos (.inr hm2)])
    go_wp2
    go_ret3
    exact HZ.out _ _ _ HC.out rfl rfl (Below.refl _ _)
  have hi2 : ¬ (4 : Int) < (b.tabs.length : Int) := by omega
  have HT4 : Hid (b.tabs.length ≤ 4) := Lib.hid (by omega)
  have HCK1 : Hid (checkB b = if domsOk b.doms = false then ([], [], 1) else if tabsOk b = false then ([], [], 1) else match b.tabs.find? fun t => !someBx (boxOf b t) with
    | some t => (t.name, [], 3) | none => if (orderB b).isSome = false then ([], [], 6) else clashGap b b.tabs) := Lib.hid (by unfold checkB; rw [if_neg (by omega)]; rfl)
  clear hm1 hm2
  go_wp2
  clear e0 hi1 hi2
  go_loopw [5, 39] (fun o i wr => ∃ k : Nat, k ≤ b.doms.length ∧ i = .int .i64 k ∧ o = .string ⟨(lastD b.doms k).toArray⟩ ∧ Hid (∀ j, j < k → domOk b.doms j = true) ∧ Hid (Below W0.heap.size W0 wr)) (fun _ i _ => b.doms.length - (intOf i).toNat)
  case atStart => exact ⟨0, Nat.zero_le _, rfl, rfl, Lib.hid (by omega), Lib.hid (Below.refl _ _)⟩
  case round =>
    clear c0 c1
    obtain ⟨k, hk, rfl, rfl, HK, HB⟩ := hrel
    have HBR : Hid (Below w.heap.size w wr) := Lib.hid (HB0.out.trans (HB.out.mono HB0.out.size))
    by_cases hlt : k < b.doms.length
    · obtain ⟨bB, off, x, rfl, hbB, hx, ⟨hxl, _⟩, g0, g1, g2⟩ := HD.out.dm hlt
      rw [← HBR.out.cell (p := ⟨bB, _, none⟩) hbB] at g0 g1 g2
      have hik : (k : Int) < (b.doms.length : Int) := by omega
      have HDK := Lib.hid (domOk_last hx)
      have HLN : Hid (lastD b.doms (k + 1) = x.name) := Lib.hid (by show nameD b.doms k = _; unfold nameD; rw [hx])
      obtain ⟨gd, hgd⟩ : ∃ r, goodD x = r := ⟨_, rfl⟩
      obtain ⟨ls, hls⟩ : ∃ r, lastD b.doms k = r := ⟨_, rfl⟩
      have HGD := Lib.hid hgd
      rw [hgd, hls] at HDK
      rw [hls]
      obtain ⟨W3, e3, HB3, j0, j1, j2, hs3⟩ : ∃ W3, wr.alloc (.cells #[.string ⟨x.name.toArray⟩, .int .i64 x.lo, .int .i64 x.hi] 44) = W3 ∧ Hid (Below W0.heap.size W0 W3) ∧ W3.cell? ⟨wr.heap.size, 0, none⟩ = some (.string ⟨x.name.toArray⟩) ∧ W3.cell? ⟨wr.heap.size, 1, none⟩ = some (.int .i64 x.lo) ∧ W3.cell? ⟨wr.heap.size, 2, none⟩ = some (.int .i64 x.hi) ∧ wr.heap.size < W3.heap.size :=
        ⟨_, rfl, Lib.hid (HB.out.alloc HB.out.size _), World.cell?_alloc_new _ _ _ _, World.cell?_alloc_new _ _ _ _, World.cell?_alloc_new _ _ _ _, by simp⟩
      clear hx hgd hls
      obtain ⟨bl, hbl⟩ : ∃ r, Op.bytesLess ls x.name = r := ⟨_, rfl⟩
      rw [hbl] at HDK
      cases gd <;> cases bl
      · have HC : Hid (checkB b = ([], [], 1)) := Lib.hid (by rw [HCK1.out, if_pos (domsOk_no hlt HDK.out)])
        clear hbl
        go_wp2_with (first | (go_at_call 71; go_must ((with_reducible refine (IsDomain_at W3 hxl HGD.out).mono ?_); rintro e w4 ⟨rfl, hb4⟩; have k0 := (hb4.cell (p := ⟨wr.heap.size, 0, none⟩) hs3).trans j0; have HB4 := Lib.hid (HB3.out.trans (hb4.mono HB3.out.size)); clear hb4)))
        go_ret3
        exact HZ.out _ _ _ HC.out rfl rfl HB4.out
      · have HC : Hid (checkB b = ([], [], 1)) := Lib.hid (by rw [HCK1.out, if_pos (domsOk_no hlt HDK.out)])
        clear hbl
        go_wp2_with (first | (go_at_call 71; go_must ((with_reducible refine (IsDomain_at W3 hxl HGD.out).mono ?_); rintro e w4 ⟨rfl, hb4⟩; have k0 := (hb4.cell (p := ⟨wr.heap.size, 0, none⟩) hs3).trans j0; have HB4 := Lib.hid (HB3.out.trans (hb4.mono HB3.out.size)); clear hb4)))
        go_ret3
        exact HZ.out _ _ _ HC.out rfl rfl HB4.out
      · have HC : Hid (checkB b = ([], [], 1)) := Lib.hid (by rw [HCK1.out, if_pos (domsOk_no hlt HDK.out)])
        rcases bytes_tot hbl with h1 | ⟨h1, h2⟩
        all_goals
          clear hbl
          go_wp2_with (first | (go_at_call 71; go_must ((with_reducible refine (IsDomain_at W3 hxl HGD.out).mono ?_); rintro e w4 ⟨rfl, hb4⟩; have k0 := (hb4.cell (p := ⟨wr.heap.size, 0, none⟩) hs3).trans j0; have HB4 := Lib.hid (HB3.out.trans (hb4.mono HB3.out.size)); clear hb4)))
          go_ret3
          exact HZ.out _ _ _ HC.out rfl rfl HB4.out
      · have HS := Lib.hid (upto_step HK.out HDK.out)
        obtain ⟨h1, h2⟩ := bytes_asym hbl
        clear hbl
        go_wp2_with (first | (go_at_call 71; go_must ((with_reducible refine (IsDomain_at W3 hxl HGD.out).mono ?_); rintro e w4 ⟨rfl, hb4⟩; have k0 := (hb4.cell (p := ⟨wr.heap.size, 0, none⟩) hs3).trans j0; have HB4 := Lib.hid (HB3.out.trans (hb4.mono HB3.out.size)); clear hb4)))
        go_roundw
        case rel => exact ⟨k + 1, by omega, by go_num, by rw [HLN.out], HS, HB4⟩
        case measure => simp [intOf]; omega
    · have hij : ¬ (k : Int) < (b.doms.length : Int) := by omega
      have hdo : domsOk b.doms = true := all_range_true hlt HK.out
      have HCK2 : Hid (checkB b = if tabsOk b = false then ([], [], 1) else match b.tabs.find? fun t => !someBx (boxOf b t) with
        | some t => (t.name, [], 3) | none => if (orderB b).isSome = false then ([], [], 6) else clashGap b b.tabs) := Lib.hid (by rw [HCK1.out, hdo]; rfl)
      have HDOK := Lib.hid hdo
      have HBw1 := HB
      have d1 := (HB.out.cell (p := ⟨w.heap.size, 1, none⟩) HS0.out).trans HC1.out
      clear hdo HCK1 HK
      go_wp2
      clear d1 HB HBR hij hlt hk
      go_loopw [5, 58] (fun o i wr => ∃ k : Nat, k ≤ b.tabs.length ∧ i = .int .i64 k ∧ o = .string ⟨(lastT b.tabs k).toArray⟩ ∧ Hid (∀ j, j < k → tabOk b j = true) ∧ Hid (Below W0.heap.size W0 wr)) (fun _ i _ => b.tabs.length - (intOf i).toNat)
      case atStart => exact ⟨0, Nat.zero_le _, rfl, rfl, Lib.hid (by omega), HBw1⟩
      case round =>
        clear HBw1
        obtain ⟨k, hk, rfl, rfl, HK, HB⟩ := hrel
        have HBR : Hid (Below w.heap.size w wr) := Lib.hid (HB0.out.trans (HB.out.mono HB0.out.size))
        by_cases hlt : k < b.tabs.length
        · obtain ⟨bB, off, x, A1, c1', A2, c2', rfl, hbB, hx, hr, g0, g1, g2, g3, g4⟩ := HF.out.tb hlt
          rw [← HBR.out.cell (p := ⟨bB, _, none⟩) hbB] at g0 g1 g2 g3 g4
          have hik : (k : Int) < (b.tabs.length : Int) := by omega
          have hxl : x.name.length ≤ 140737488355328 := by obtain ⟨_, _, _, h, _⟩ := hr; exact h
          have HTK := Lib.hid (tabOk_last hx)
          have HLN : Hid (lastT b.tabs (k + 1) = x.name) := Lib.hid (by show nameT b.tabs k = _; unfold nameT; rw [hx])
          obtain ⟨gd, hgd⟩ : ∃ r, goodT x = r := ⟨_, rfl⟩
          obtain ⟨tw, htw⟩ : ∃ r, (findD b.doms x.name).isSome = r := ⟨_, rfl⟩
          obtain ⟨dm, hdm⟩ : ∃ r, dmOf (findD b.doms x.name) = r := ⟨_, rfl⟩
          obtain ⟨ls, hls⟩ : ∃ r, lastT b.tabs k = r := ⟨_, rfl⟩
          obtain ⟨bl, hbl⟩ : ∃ r, Op.bytesLess ls x.name = r := ⟨_, rfl⟩
          have HGT := Lib.hid hgd
          have HTW := Lib.hid htw
          have HDM := Lib.hid hdm
          rw [hgd, htw, hls, hbl] at HTK
          rw [hls]
          obtain ⟨W3, e3, HB3, HR3, j0, j1, j2, j3, j4, q0, q1, hs3⟩ : ∃ W3, wr.alloc (.cells #[.string ⟨x.name.toArray⟩, .int .i64 x.pol, .bool x.comp, .slice A1 x.ins.length c1', .slice A2 x.rules.length c2'] 42) = W3 ∧ Hid (Below W0.heap.size W0 W3) ∧ Hid (rTb.rel W3 S [.string ⟨x.name.toArray⟩, .int .i64 x.pol, .bool x.comp, .slice A1 x.ins.length c1', .slice A2 x.rules.length c2'] x) ∧ W3.cell? ⟨wr.heap.size, 0, none⟩ = some (.string ⟨x.name.toArray⟩) ∧ W3.cell? ⟨wr.heap.size, 1, none⟩ = some (.int .i64 x.pol) ∧ W3.cell? ⟨wr.heap.size, 2, none⟩ = some (.bool x.comp) ∧ W3.cell? ⟨wr.heap.size, 3, none⟩ = some (.slice A1 x.ins.length c1') ∧ W3.cell? ⟨wr.heap.size, 4, none⟩ = some (.slice A2 x.rules.length c2') ∧ W3.cell? ⟨w.heap.size, 0, none⟩ = some (.slice A b.doms.length c) ∧ W3.cell? ⟨w.heap.size, 1, none⟩ = some (.slice (some ⟨bB, off, none⟩) b.tabs.length d) ∧ wr.heap.size < W3.heap.size :=
            ⟨_, rfl, Lib.hid (HB.out.alloc HB.out.size _), Lib.hid (Rd.alloc (Rd.below hr HBR.out) _), World.cell?_alloc_new _ _ _ _, World.cell?_alloc_new _ _ _ _, World.cell?_alloc_new _ _ _ _, World.cell?_alloc_new _ _ _ _, World.cell?_alloc_new _ _ _ _, ((HB.out.alloc HB.out.size _).cell (p := ⟨w.heap.size, 0, none⟩) HS0.out).trans HC0.out, ((HB.out.alloc HB.out.size _).cell (p := ⟨w.heap.size, 1, none⟩) HS0.out).trans HC1.out, by simp⟩
          have HBK3 := Lib.hid (Rd.below HBK.out HB3.out)
          clear hx hgd htw hls hdm hr
          have hfail : tabOk b k = false → Hid (checkB b = ([], [], 1)) := fun h => Lib.hid (by rw [HCK2.out, if_pos (tabsOk_no hlt h)])
          have HFAIL := Lib.hid hfail
          clear hfail
          cases gd <;> cases tw <;> cases bl
          · have HC := HFAIL.out HTK.out
            clear hbl
            go_wp2_with (first | (go_at_call 72; go_must ((with_reducible refine (domainOf_at W3 HBK3.out hxl HDM.out HTW.out).mono ?_); rintro e W4 ⟨rfl, hb4⟩; obtain ⟨W5, e5, HB5, HR5, k0, k1, k2, k3, k4, hs5⟩ : ∃ W5, W4.alloc (.cells #[.string ⟨dm.name.toArray⟩, .int .i64 dm.lo, .int .i64 dm.hi] 44) = W5 ∧ Hid (Below W0.heap.size W0 W5) ∧ Hid (rTb.rel W5 S [.string ⟨x.name.toArray⟩, .int .i64 x.pol, .bool x.comp, .slice A1 x.ins.length c1', .slice A2 x.rules.length c2'] x) ∧ W5.cell? ⟨wr.heap.size, 0, none⟩ = some (.string ⟨x.name.toArray⟩) ∧ W5.cell? ⟨wr.heap.size, 1, none⟩ = some (.int .i64 x.pol) ∧ W5.cell? ⟨wr.heap.size, 2, none⟩ = some (.bool x.comp) ∧ W5.cell? ⟨wr.heap.size, 3, none⟩ = some (.slice A1 x.ins.length c1') ∧ W5.cell? ⟨wr.heap.size, 4, none⟩ = some (.slice A2 x.rules.length c2') ∧ wr.heap.size < W5.heap.size := ⟨_, rfl, Lib.hid (HB3.out.trans ((hb4.alloc hb4.size _).mono HB3.out.size)), Lib.hid (Rd.below HR3.out (hb4.alloc hb4.size _)), ((hb4.alloc hb4.size _).cell (p := ⟨wr.heap.size, 0, none⟩) hs3).trans j0, ((hb4.alloc hb4.size _).cell (p := ⟨wr.heap.size, 1, none⟩) hs3).trans j1, ((hb4.alloc hb4.size _).cell (p := ⟨wr.heap.size, 2, none⟩) hs3).trans j2, ((hb4.alloc hb4.size _).cell (p := ⟨wr.heap.size, 3, none⟩) hs3).trans j3, ((hb4.alloc hb4.size _).cell (p := ⟨wr.heap.size, 4, none⟩) hs3).trans j4, Nat.lt_of_lt_of_le hs3 (hb4.alloc hb4.size _).size⟩; clear hb4)) | (go_at_call 56; go_must ((with_reducible refine (IsTable_g W5 HR5.out HGT.out).mono ?_); rintro e W6 ⟨rfl, hb6⟩; have l0 := (hb6.cell (p := ⟨wr.heap.size, 0, none⟩) hs5).trans k0; have HB6 := Lib.hid (HB5.out.trans (hb6.mono HB5.out.size)); clear hb6)))
            go_ret3
            exact HZ.out _ _ _ HC.out rfl rfl HB6.out
          · have HC := HFAIL.out HTK.out
            clear hbl
            go_wp2_with (first | (go_at_call 72; go_must ((with_reducible refine (domainOf_at W3 HBK3.out hxl HDM.out HTW.out).mono ?_); rintro e W4 ⟨rfl, hb4⟩; obtain ⟨W5, e5, HB5, HR5, k0, k1, k2, k3, k4, hs5⟩ : ∃ W5, W4.alloc (.cells #[.string ⟨dm.name.toArray⟩, .int .i64 dm.lo, .int .i64 dm.hi] 44) = W5 ∧ Hid (Below W0.heap.size W0 W5) ∧ Hid (rTb.rel W5 S [.string ⟨x.name.toArray⟩, .int .i64 x.pol, .bool x.comp, .slice A1 x.ins.length c1', .slice A2 x.rules.length c2'] x) ∧ W5.cell? ⟨wr.heap.size, 0, none⟩ = some (.string ⟨x.name.toArray⟩) ∧ W5.cell? ⟨wr.heap.size, 1, none⟩ = some (.int .i64 x.pol) ∧ W5.cell? ⟨wr.heap.size, 2, none⟩ = some (.bool x.comp) ∧ W5.cell? ⟨wr.heap.size, 3, none⟩ = some (.slice A1 x.ins.length c1') ∧ W5.cell? ⟨wr.heap.size, 4, none⟩ = some (.slice A2 x.rules.length c2') ∧ wr.heap.size < W5.heap.size := ⟨_, rfl, Lib.hid (HB3.out.trans ((hb4.alloc hb4.size _).mono HB3.out.size)), Lib.hid (Rd.below HR3.out (hb4.alloc hb4.size _)), ((hb4.alloc hb4.size _).cell (p := ⟨wr.heap.size, 0, none⟩) hs3).trans j0, ((hb4.alloc hb4.size _).cell (p := ⟨wr.heap.size, 1, none⟩) hs3).trans j1, ((hb4.alloc hb4.size _).cell (p := ⟨wr.heap.size, 2, none⟩) hs3).trans j2, ((hb4.alloc hb4.size _).cell (p := ⟨wr.heap.size, 3, none⟩) hs3).trans j3, ((hb4.alloc hb4.size _).cell (p := ⟨wr.heap.size, 4, none⟩) hs3).trans j4, Nat.lt_of_lt_of_le hs3 (hb4.alloc hb4.size _).size⟩; clear hb4)) | (go_at_call 56; go_must ((with_reducible refine (IsTable_g W5 HR5.out HGT.out).mono ?_); rintro e W6 ⟨rfl, hb6⟩; have l0 := (hb6.cell (p := ⟨wr.heap.size, 0, none⟩) hs5).trans k0; have HB6 := Lib.hid (HB5.out.trans (hb6.mono HB5.out.size)); clear hb6)))
            go_ret3
            exact HZ.out _ _ _ HC.out rfl rfl HB6.out
          · have HC := HFAIL.out HTK.out
            clear hbl
            go_wp2_with (first | (go_at_call 72; go_must ((with_reducible refine (domainOf_at W3 HBK3.out hxl HDM.out HTW.out).mono ?_); rintro e W4 ⟨rfl, hb4⟩; obtain ⟨W5, e5, HB5, HR5, k0, k1, k2, k3, k4, hs5⟩ : ∃ W5, W4.alloc (.cells #[.string ⟨dm.name.toArray⟩, .int .i64 dm.lo, .int .i64 dm.hi] 44) = W5 ∧ Hid (Below W0.heap.size W0 W5) ∧ Hid (rTb.rel W5 S [.string ⟨x.name.toArray⟩, .int .i64 x.pol, .bool x.comp, .slice A1 x.ins.length c1', .slice A2 x.rules.length c2'] x) ∧ W5.cell? ⟨wr.heap.size, 0, none⟩ = some (.string ⟨x.name.toArray⟩) ∧ W5.cell? ⟨wr.heap.size, 1, none⟩ = some (.int .i64 x.pol) ∧ W5.cell? ⟨wr.heap.size, 2, none⟩ = some (.bool x.comp) ∧ W5.cell? ⟨wr.heap.size, 3, none⟩ = some (.slice A1 x.ins.length c1') ∧ W5.cell? ⟨wr.heap.size, 4, none⟩ = some (.slice A2 x.rules.length c2') ∧ wr.heap.size < W5.heap.size := ⟨_, rfl, Lib.hid (HB3.out.trans ((hb4.alloc hb4.size _).mono HB3.out.size)), Lib.hid (Rd.below HR3.out (hb4.alloc hb4.size _)), ((hb4.alloc hb4.size _).cell (p := ⟨wr.heap.size, 0, none⟩) hs3).trans j0, ((hb4.alloc hb4.size _).cell (p := ⟨wr.heap.size, 1, none⟩) hs3).trans j1, ((hb4.alloc hb4.size _).cell (p := ⟨wr.heap.size, 2, none⟩) hs3).trans j2, ((hb4.alloc hb4.size _).cell (p := ⟨wr.heap.size, 3, none⟩) hs3).trans j3, ((hb4.alloc hb4.size _).cell (p := ⟨wr.heap.size, 4, none⟩) hs3).trans j4, Nat.lt_of_lt_of_le hs3 (hb4.alloc hb4.size _).size⟩; clear hb4)) | (go_at_call 56; go_must ((with_reducible refine (IsTable_g W5 HR5.out HGT.out).mono ?_); rintro e W6 ⟨rfl, hb6⟩; have l0 := (hb6.cell (p := ⟨wr.heap.size, 0, none⟩) hs5).trans k0; have HB6 := Lib.hid (HB5.out.trans (hb6.mono HB5.out.size)); clear hb6)))
            go_ret3
            exact HZ.out _ _ _ HC.out rfl rfl HB6.out
          · have HC := HFAIL.out HTK.out
            clear hbl
            go_wp2_with (first | (go_at_call 72; go_must ((with_reducible refine (domainOf_at W3 HBK3.out hxl HDM.out HTW.out).mono ?_); rintro e W4 ⟨rfl, hb4⟩; obtain ⟨W5, e5, HB5, HR5, k0, k1, k2, k3, k4, hs5⟩ : ∃ W5, W4.alloc (.cells #[.string ⟨dm.name.toArray⟩, .int .i64 dm.lo, .int .i64 dm.hi] 44) = W5 ∧ Hid (Below W0.heap.size W0 W5) ∧ Hid (rTb.rel W5 S [.string ⟨x.name.toArray⟩, .int .i64 x.pol, .bool x.comp, .slice A1 x.ins.length c1', .slice A2 x.rules.length c2'] x) ∧ W5.cell? ⟨wr.heap.size, 0, none⟩ = some (.string ⟨x.name.toArray⟩) ∧ W5.cell? ⟨wr.heap.size, 1, none⟩ = some (.int .i64 x.pol) ∧ W5.cell? ⟨wr.heap.size, 2, none⟩ = some (.bool x.comp) ∧ W5.cell? ⟨wr.heap.size, 3, none⟩ = some (.slice A1 x.ins.length c1') ∧ W5.cell? ⟨wr.heap.size, 4, none⟩ = some (.slice A2 x.rules.length c2') ∧ wr.heap.size < W5.heap.size := ⟨_, rfl, Lib.hid (HB3.out.trans ((hb4.alloc hb4.size _).mono HB3.out.size)), Lib.hid (Rd.below HR3.out (hb4.alloc hb4.size _)), ((hb4.alloc hb4.size _).cell (p := ⟨wr.heap.size, 0, none⟩) hs3).trans j0, ((hb4.alloc hb4.size _).cell (p := ⟨wr.heap.size, 1, none⟩) hs3).trans j1, ((hb4.alloc hb4.size _).cell (p := ⟨wr.heap.size, 2, none⟩) hs3).trans j2, ((hb4.alloc hb4.size _).cell (p := ⟨wr.heap.size, 3, none⟩) hs3).trans j3, ((hb4.alloc hb4.size _).cell (p := ⟨wr.heap.size, 4, none⟩) hs3).trans j4, Nat.lt_of_lt_of_le hs3 (hb4.alloc hb4.size _).size⟩; clear hb4)) | (go_at_call 56; go_must ((with_reducible refine (IsTable_g W5 HR5.out HGT.out).mono ?_); rintro e W6 ⟨rfl, hb6⟩; have l0 := (hb6.cell (p := ⟨wr.heap.size, 0, none⟩) hs5).trans k0; have HB6 := Lib.hid (HB5.out.trans (hb6.mono HB5.out.size)); clear hb6)))
            go_ret3
            exact HZ.out _ _ _ HC.out rfl rfl HB6.out
          · have HC := HFAIL.out HTK.out
            rcases bytes_tot hbl with h1 | ⟨h1, h2⟩
            all_goals
              clear hbl
              go_wp2_with (first | (go_at_call 72; go_must ((with_reducible refine (domainOf_at W3 HBK3.out hxl HDM.out HTW.out).mono ?_); rintro e W4 ⟨rfl, hb4⟩; obtain ⟨W5, e5, HB5, HR5, k0, k1, k2, k3, k4, hs5⟩ : ∃ W5, W4.alloc (.cells #[.string ⟨dm.name.toArray⟩, .int .i64 dm.lo, .int .i64 dm.hi] 44) = W5 ∧ Hid (Below W0.heap.size W0 W5) ∧ Hid (rTb.rel W5 S [.string ⟨x.name.toArray⟩, .int .i64 x.pol, .bool x.comp, .slice A1 x.ins.length c1', .slice A2 x.rules.length c2'] x) ∧ W5.cell? ⟨wr.heap.size, 0, none⟩ = some (.string ⟨x.name.toArray⟩) ∧ W5.cell? ⟨wr.heap.size, 1, none⟩ = some (.int .i64 x.pol) ∧ W5.cell? ⟨wr.heap.size, 2, none⟩ = some (.bool x.comp) ∧ W5.cell? ⟨wr.heap.size, 3, none⟩ = some (.slice A1 x.ins.length c1') ∧ W5.cell? ⟨wr.heap.size, 4, none⟩ = some (.slice A2 x.rules.length c2') ∧ wr.heap.size < W5.heap.size := ⟨_, rfl, Lib.hid (HB3.out.trans ((hb4.alloc hb4.size _).mono HB3.out.size)), Lib.hid (Rd.below HR3.out (hb4.alloc hb4.size _)), ((hb4.alloc hb4.size _).cell (p := ⟨wr.heap.size, 0, none⟩) hs3).trans j0, ((hb4.alloc hb4.size _).cell (p := ⟨wr.heap.size, 1, none⟩) hs3).trans j1, ((hb4.alloc hb4.size _).cell (p := ⟨wr.heap.size, 2, none⟩) hs3).trans j2, ((hb4.alloc hb4.size _).cell (p := ⟨wr.heap.size, 3, none⟩) hs3).trans j3, ((hb4.alloc hb4.size _).cell (p := ⟨wr.heap.size, 4, none⟩) hs3).trans j4, Nat.lt_of_lt_of_le hs3 (hb4.alloc hb4.size _).size⟩; clear hb4)) | (go_at_call 56; go_must ((with_reducible refine (IsTable_g W5 HR5.out HGT.out).mono ?_); rintro e W6 ⟨rfl, hb6⟩; have l0 := (hb6.cell (p := ⟨wr.heap.size, 0, none⟩) hs5).trans k0; have HB6 := Lib.hid (HB5.out.trans (hb6.mono HB5.out.size)); clear hb6)))
              go_ret3
              exact HZ.out _ _ _ HC.out rfl rfl HB6.out
          · have HS := Lib.hid (upto_step HK.out HTK.out)
            obtain ⟨h1, h2⟩ := bytes_asym hbl
            clear hbl
            go_wp2_with (first | (go_at_call 72; go_must ((with_reducible refine (domainOf_at W3 HBK3.out hxl HDM.out HTW.out).mono ?_); rintro e W4 ⟨rfl, hb4⟩; obtain ⟨W5, e5, HB5, HR5, k0, k1, k2, k3, k4, hs5⟩ : ∃ W5, W4.alloc (.cells #[.string ⟨dm.name.toArray⟩, .int .i64 dm.lo, .int .i64 dm.hi] 44) = W5 ∧ Hid (Below W0.heap.size W0 W5) ∧ Hid (rTb.rel W5 S [.string ⟨x.name.toArray⟩, .int .i64 x.pol, .bool x.comp, .slice A1 x.ins.length c1', .slice A2 x.rules.length c2'] x) ∧ W5.cell? ⟨wr.heap.size, 0, none⟩ = some (.string ⟨x.name.toArray⟩) ∧ W5.cell? ⟨wr.heap.size, 1, none⟩ = some (.int .i64 x.pol) ∧ W5.cell? ⟨wr.heap.size, 2, none⟩ = some (.bool x.comp) ∧ W5.cell? ⟨wr.heap.size, 3, none⟩ = some (.slice A1 x.ins.length c1') ∧ W5.cell? ⟨wr.heap.size, 4, none⟩ = some (.slice A2 x.rules.length c2') ∧ wr.heap.size < W5.heap.size := ⟨_, rfl, Lib.hid (HB3.out.trans ((hb4.alloc hb4.size _).mono HB3.out.size)), Lib.hid (Rd.below HR3.out (hb4.alloc hb4.size _)), ((hb4.alloc hb4.size _).cell (p := ⟨wr.heap.size, 0, none⟩) hs3).trans j0, ((hb4.alloc hb4.size _).cell (p := ⟨wr.heap.size, 1, none⟩) hs3).trans j1, ((hb4.alloc hb4.size _).cell (p := ⟨wr.heap.size, 2, none⟩) hs3).trans j2, ((hb4.alloc hb4.size _).cell (p := ⟨wr.heap.size, 3, none⟩) hs3).trans j3, ((hb4.alloc hb4.size _).cell (p := ⟨wr.heap.size, 4, none⟩) hs3).trans j4, Nat.lt_of_lt_of_le hs3 (hb4.alloc hb4.size _).size⟩; clear hb4)) | (go_at_call 56; go_must ((with_reducible refine (IsTable_g W5 HR5.out HGT.out).mono ?_); rintro e W6 ⟨rfl, hb6⟩; have l0 := (hb6.cell (p := ⟨wr.heap.size, 0, none⟩) hs5).trans k0; have HB6 := Lib.hid (HB5.out.trans (hb6.mono HB5.out.size)); clear hb6)))
            go_roundw
            case rel => exact ⟨k + 1, by omega, by go_num, by rw [HLN.out], HS, HB6⟩
            case measure => simp [intOf]; omega
          · have HC := HFAIL.out HTK.out
            clear hbl
            go_wp2_with (first | (go_at_call 72; go_must ((with_reducible refine (domainOf_at W3 HBK3.out hxl HDM.out HTW.out).mono ?_); rintro e W4 ⟨rfl, hb4⟩; obtain ⟨W5, e5, HB5, HR5, k0, k1, k2, k3, k4, hs5⟩ : ∃ W5, W4.alloc (.cells #[.string ⟨dm.name.toArray⟩, .int .i64 dm.lo, .int .i64 dm.hi] 44) = W5 ∧ Hid (Below W0.heap.size W0 W5) ∧ Hid (rTb.rel W5 S [.string ⟨x.name.toArray⟩, .int .i64 x.pol, .bool x.comp, .slice A1 x.ins.length c1', .slice A2 x.rules.length c2'] x) ∧ W5.cell? ⟨wr.heap.size, 0, none⟩ = some (.string ⟨x.name.toArray⟩) ∧ W5.cell? ⟨wr.heap.size, 1, none⟩ = some (.int .i64 x.pol) ∧ W5.cell? ⟨wr.heap.size, 2, none⟩ = some (.bool x.comp) ∧ W5.cell? ⟨wr.heap.size, 3, none⟩ = some (.slice A1 x.ins.length c1') ∧ W5.cell? ⟨wr.heap.size, 4, none⟩ = some (.slice A2 x.rules.length c2') ∧ wr.heap.size < W5.heap.size := ⟨_, rfl, Lib.hid (HB3.out.trans ((hb4.alloc hb4.size _).mono HB3.out.size)), Lib.hid (Rd.below HR3.out (hb4.alloc hb4.size _)), ((hb4.alloc hb4.size _).cell (p := ⟨wr.heap.size, 0, none⟩) hs3).trans j0, ((hb4.alloc hb4.size _).cell (p := ⟨wr.heap.size, 1, none⟩) hs3).trans j1, ((hb4.alloc hb4.size _).cell (p := ⟨wr.heap.size, 2, none⟩) hs3).trans j2, ((hb4.alloc hb4.size _).cell (p := ⟨wr.heap.size, 3, none⟩) hs3).trans j3, ((hb4.alloc hb4.size _).cell (p := ⟨wr.heap.size, 4, none⟩) hs3).trans j4, Nat.lt_of_lt_of_le hs3 (hb4.alloc hb4.size _).size⟩; clear hb4)) | (go_at_call 56; go_must ((with_reducible refine (IsTable_g W5 HR5.out HGT.out).mono ?_); rintro e W6 ⟨rfl, hb6⟩; have l0 := (hb6.cell (p := ⟨wr.heap.size, 0, none⟩) hs5).trans k0; have HB6 := Lib.hid (HB5.out.trans (hb6.mono HB5.out.size)); clear hb6)))
            go_ret3
            exact HZ.out _ _ _ HC.out rfl rfl HB6.out
          · have HC := HFAIL.out HTK.out
            clear hbl
            go_wp2_with (first | (go_at_call 72; go_must ((with_reducible refine (domainOf_at W3 HBK3.out hxl HDM.out HTW.out).mono ?_); rintro e W4 ⟨rfl, hb4⟩; obtain ⟨W5, e5, HB5, HR5, k0, k1, k2, k3, k4, hs5⟩ : ∃ W5, W4.alloc (.cells #[.string ⟨dm.name.toArray⟩, .int .i64 dm.lo, .int .i64 dm.hi] 44) = W5 ∧ Hid (Below W0.heap.size W0 W5) ∧ Hid (rTb.rel W5 S [.string ⟨x.name.toArray⟩, .int .i64 x.pol, .bool x.comp, .slice A1 x.ins.length c1', .slice A2 x.rules.length c2'] x) ∧ W5.cell? ⟨wr.heap.size, 0, none⟩ = some (.string ⟨x.name.toArray⟩) ∧ W5.cell? ⟨wr.heap.size, 1, none⟩ = some (.int .i64 x.pol) ∧ W5.cell? ⟨wr.heap.size, 2, none⟩ = some (.bool x.comp) ∧ W5.cell? ⟨wr.heap.size, 3, none⟩ = some (.slice A1 x.ins.length c1') ∧ W5.cell? ⟨wr.heap.size, 4, none⟩ = some (.slice A2 x.rules.length c2') ∧ wr.heap.size < W5.heap.size := ⟨_, rfl, Lib.hid (HB3.out.trans ((hb4.alloc hb4.size _).mono HB3.out.size)), Lib.hid (Rd.below HR3.out (hb4.alloc hb4.size _)), ((hb4.alloc hb4.size _).cell (p := ⟨wr.heap.size, 0, none⟩) hs3).trans j0, ((hb4.alloc hb4.size _).cell (p := ⟨wr.heap.size, 1, none⟩) hs3).trans j1, ((hb4.alloc hb4.size _).cell (p := ⟨wr.heap.size, 2, none⟩) hs3).trans j2, ((hb4.alloc hb4.size _).cell (p := ⟨wr.heap.size, 3, none⟩) hs3).trans j3, ((hb4.alloc hb4.size _).cell (p := ⟨wr.heap.size, 4, none⟩) hs3).trans j4, Nat.lt_of_lt_of_le hs3 (hb4.alloc hb4.size _).size⟩; clear hb4)) | (go_at_call 56; go_must ((with_reducible refine (IsTable_g W5 HR5.out HGT.out).mono ?_); rintro e W6 ⟨rfl, hb6⟩; have l0 := (hb6.cell (p := ⟨wr.heap.size, 0, none⟩) hs5).trans k0; have HB6 := Lib.hid (HB5.out.trans (hb6.mono HB5.out.size)); clear hb6)))
            go_ret3
            exact HZ.out _ _ _ HC.out rfl rfl HB6.out
        · have hij : ¬ (k : Int) < (b.tabs.length : Int) := by omega
          have hto : tabsOk b = true := all_range_true hlt HK.out
          have HCK3 : Hid (checkB b = match b.tabs.find? fun t => !someBx (boxOf b t) with
            | some t => (t.name, [], 3) | none => if (orderB b).isSome = false then ([], [], 6) else clashGap b b.tabs) := Lib.hid (by rw [HCK2.out, hto]; rfl)
          have HGTS := Lib.hid (tabsOk_good hto)
          have HGDS := Lib.hid (domsOk_good HDOK.out)
          have HNOD := Lib.hid (tabsOk_nodup hto)
          have HNES : Hid (∀ t ∈ b.tabs, t.name ≠ []) := Lib.hid fun t ht => goodT_ne (tabsOk_good hto t ht)
          have HBw2 := HB
          have d1 := (HB.out.cell (p := ⟨w.heap.size, 1, none⟩) HS0.out).trans HC1.out
          clear hto HCK2 HK
          go_wp2
          clear d1 HB HBR hij hlt hk
          go_loopw [87] (fun i wr => ∃ k : Nat, k ≤ b.tabs.length ∧ i = .int .i64 k ∧ Hid ((b.tabs.find? fun t => !someBx (boxOf b t)) = (b.tabs.drop k).find? fun t => !someBx (boxOf b t)) ∧ Hid (Below W0.heap.size W0 wr)) (fun i _ => b.tabs.length - (intOf i).toNat)
          case atStart => exact ⟨0, Nat.zero_le _, rfl, Lib.hid rfl, HBw2⟩
          case round =>
            clear HBw2
            obtain ⟨k, hk, rfl, HK, HB⟩ := hrel
            have HBR : Hid (Below w.heap.size w wr) := Lib.hid (HB0.out.trans (HB.out.mono HB0.out.size))
            by_cases hlt : k < b.tabs.length
            · obtain ⟨bB, off, x, A1, c1', A2, c2', rfl, hbB, hx, hr, g0, g1, g2, g3, g4⟩ := HF.out.tb hlt
              rw [← HBR.out.cell (p := ⟨bB, _, none⟩) hbB] at g0 g1 g2 g3 g4
              have hik : (k : Int) < (b.tabs.length : Int) := by omega
              have hgx := HGTS.out x (List.mem_of_getElem? hx)
              have h3 : x.ins.length ≤ 3 := (goodT_head hgx).2.2.2.1
              obtain ⟨W3, e3, HB3, HR3, j0, j1, j2, j3, j4, q0, q1, hs3⟩ : ∃ W3, wr.alloc (.cells #[.string ⟨x.name.toArray⟩, .int .i64 x.pol, .bool x.comp, .slice A1 x.ins.length c1', .slice A2 x.rules.length c2'] 42) = W3 ∧ Hid (Below W0.heap.size W0 W3) ∧ Hid (rTb.rel W3 S [.string ⟨x.name.toArray⟩, .int .i64 x.pol, .bool x.comp, .slice A1 x.ins.length c1', .slice A2 x.rules.length c2'] x) ∧ W3.cell? ⟨wr.heap.size, 0, none⟩ = some (.string ⟨x.name.toArray⟩) ∧ W3.cell? ⟨wr.heap.size, 1, none⟩ = some (.int .i64 x.pol) ∧ W3.cell? ⟨wr.heap.size, 2, none⟩ = some (.bool x.comp) ∧ W3.cell? ⟨wr.heap.size, 3, none⟩ = some (.slice A1 x.ins.length c1') ∧ W3.cell? ⟨wr.heap.size, 4, none⟩ = some (.slice A2 x.rules.length c2') ∧ W3.cell? ⟨w.heap.size, 0, none⟩ = some (.slice A b.doms.length c) ∧ W3.cell? ⟨w.heap.size, 1, none⟩ = some (.slice (some ⟨bB, off, none⟩) b.tabs.length d) ∧ wr.heap.size < W3.heap.size :=
                ⟨_, rfl, Lib.hid (HB.out.alloc HB.out.size _), Lib.hid (Rd.alloc (Rd.below hr HBR.out) _), World.cell?_alloc_new _ _ _ _, World.cell?_alloc_new _ _ _ _, World.cell?_alloc_new _ _ _ _, World.cell?_alloc_new _ _ _ _, World.cell?_alloc_new _ _ _ _, ((HB.out.alloc HB.out.size _).cell (p := ⟨w.heap.size, 0, none⟩) HS0.out).trans HC0.out, ((HB.out.alloc HB.out.size _).cell (p := ⟨w.heap.size, 1, none⟩) HS0.out).trans HC1.out, by simp⟩
              have HBK3 := Lib.hid (Rd.below HBK.out HB3.out)
              have HAT := Lib.hid (find_at (p := fun t => !someBx (boxOf b t)) hx)
              clear hx hr hgx
              cases hbo : boxOf b x with
              | some bx =>
                have HBO := Lib.hid hbo
                have HK' : Hid ((b.tabs.find? fun t => !someBx (boxOf b t)) = (b.tabs.drop (k + 1)).find? fun t => !someBx (boxOf b t)) := Lib.hid (by rw [HK.out, HAT.out, hbo]; rfl)
                clear hbo
                go_wp2_with (first | (go_at_call 73; go_must ((with_reducible refine (boxOf_b W3 HBK3.out HR3.out HGTS.out HGDS.out h3 HBO.out).mono ?_); rintro e w4 ⟨z4, rfl, how4, hb4⟩; obtain ⟨A4, l4, rfl⟩ := how4.value; have hb4' := HB3.out.trans (hb4.mono HB3.out.size); have HB4 := Lib.hid hb4'; have HR4 := Lib.hid (Rd.below HR3.out hb4); have HW4 := Lib.hid (how4.rel (by decide)); have n0 := (hb4.cell (p := ⟨wr.heap.size, 0, none⟩) hs3).trans j0; have n1 := (hb4.cell (p := ⟨wr.heap.size, 1, none⟩) hs3).trans j1; have n2 := (hb4.cell (p := ⟨wr.heap.size, 2, none⟩) hs3).trans j2; have n3 := (hb4.cell (p := ⟨wr.heap.size, 3, none⟩) hs3).trans j3; have n4 := (hb4.cell (p := ⟨wr.heap.size, 4, none⟩) hs3).trans j4; have hs4 : wr.heap.size < w4.heap.size := Nat.lt_of_lt_of_le hs3 hb4.size; clear hb4 hb4' how4)))
                go_roundw
                case rel => exact ⟨k + 1, by omega, by go_num, HK', HB4⟩
                case measure => simp [intOf]; omega
              | none =>
                have HBO := Lib.hid hbo
                have HC : Hid (checkB b = (x.name, [], 3)) := Lib.hid (by rw [HCK3.out, HK.out, HAT.out, hbo]; rfl)
                clear hbo
                go_wp2_with (first | (go_at_call 73; go_must ((with_reducible refine (boxOf_b W3 HBK3.out HR3.out HGTS.out HGDS.out h3 HBO.out).mono ?_); rintro e w4 ⟨z4, rfl, how4, hb4⟩; obtain ⟨A4, l4, rfl⟩ := how4.value; have hb4' := HB3.out.trans (hb4.mono HB3.out.size); have HB4 := Lib.hid hb4'; have HR4 := Lib.hid (Rd.below HR3.out hb4); have HW4 := Lib.hid (how4.rel (by decide)); have n0 := (hb4.cell (p := ⟨wr.heap.size, 0, none⟩) hs3).trans j0; have n1 := (hb4.cell (p := ⟨wr.heap.size, 1, none⟩) hs3).trans j1; have n2 := (hb4.cell (p := ⟨wr.heap.size, 2, none⟩) hs3).trans j2; have n3 := (hb4.cell (p := ⟨wr.heap.size, 3, none⟩) hs3).trans j3; have n4 := (hb4.cell (p := ⟨wr.heap.size, 4, none⟩) hs3).trans j4; have hs4 : wr.heap.size < w4.heap.size := Nat.lt_of_lt_of_le hs3 hb4.size; clear hb4 hb4' how4)))
                go_ret3
                exact HZ.out _ _ _ HC.out rfl rfl HB4.out
            · have hij : ¬ (k : Int) < (b.tabs.length : Int) := by omega
              have HCK4 : Hid (checkB b = if (orderB b).isSome = false then ([], [], 6) else clashGap b b.tabs) := Lib.hid (by rw [HCK3.out, HK.out, List.drop_eq_nil_of_le (show b.tabs.length ≤ k by omega)]; rfl)
              have d0 := (HB.out.cell (p := ⟨w.heap.size, 0, none⟩) HS0.out).trans HC0.out
              have d1 := (HB.out.cell (p := ⟨w.heap.size, 1, none⟩) HS0.out).trans HC1.out
              have HBKR := Lib.hid (Rd.below HBK.out HB.out)
              clear HCK3 HK
              cases ho : (orderB b).isSome
              · have HO := Lib.hid ho
                have HC : Hid (checkB b = ([], [], 6)) := Lib.hid (by rw [HCK4.out, if_pos ho])
                clear ho
                go_wp2_with (first | (go_at_call 35; go_must ((with_reducible refine (OrderOf_b wr HBKR.out HNOD.out HT4.out HNES.out HO.out).mono ?_); rintro e w4 ⟨z4, rfl, hb4⟩; have HB4 := Lib.hid (HB.out.trans (hb4.mono HB.out.size)); clear hb4)))
                go_ret3
                exact HZ.out _ _ _ HC.out rfl rfl HB4.out
              · have HO := Lib.hid ho
                have HCK5 : Hid (checkB b = clashGap b (b.tabs.drop 0)) := Lib.hid (by rw [HCK4.out, if_neg (by rw [ho]; decide)]; rfl)
                clear ho HCK4
                go_wp2_with (first | (go_at_call 35; go_must ((with_reducible refine (OrderOf_b wr HBKR.out HNOD.out HT4.out HNES.out HO.out).mono ?_); rintro e w4 ⟨z4, rfl, hb4⟩; have d3 := (hb4.cell (p := ⟨w.heap.size, 1, none⟩) (World.block_lt_of_cell? wr _ d1)).trans d1; have HBw3 := Lib.hid (HB.out.trans (hb4.mono HB.out.size)); clear hb4)))
                clear d0 d1 HB HBR hij hlt hk d3
                go_loopw [112] (fun i wr => ∃ k : Nat, k ≤ b.tabs.length ∧ i = .int .i64 k ∧ Hid (checkB b = clashGap b (b.tabs.drop k)) ∧ Hid (Below W0.heap.size W0 wr)) (fun i _ => b.tabs.length - (intOf i).toNat)
                case atStart => exact ⟨0, Nat.zero_le _, rfl, HCK5, HBw3⟩
                case round =>
                  clear HBw3 HCK5
                  obtain ⟨k, hk, rfl, HK, HB⟩ := hrel
                  have HBR : Hid (Below w.heap.size w wr) := Lib.hid (HB0.out.trans (HB.out.mono HB0.out.size))
                  by_cases hlt : k < b.tabs.length
                  · obtain ⟨bB, off, x, A1, c1', A2, c2', rfl, hbB, hx, hr, g0, g1, g2, g3, g4⟩ := HF.out.tb hlt
                    rw [← HBR.out.cell (p := ⟨bB, _, none⟩) hbB] at g0 g1 g2 g3 g4
                    have hik : (k : Int) < (b.tabs.length : Int) := by omega
                    have hgx := HGTS.out x (List.mem_of_getElem? hx)
                    have h3 : x.ins.length ≤ 3 := (goodT_head hgx).2.2.2.1
                    obtain ⟨W3, e3, HB3, HR3, j0, j1, j2, j3, j4, q0, q1, hs3⟩ : ∃ W3, wr.alloc (.cells #[.string ⟨x.name.toArray⟩, .int .i64 x.pol, .bool x.comp, .slice A1 x.ins.length c1', .slice A2 x.rules.length c2'] 42) = W3 ∧ Hid (Below W0.heap.size W0 W3) ∧ Hid (rTb.rel W3 S [.string ⟨x.name.toArray⟩, .int .i64 x.pol, .bool x.comp, .slice A1 x.ins.length c1', .slice A2 x.rules.length c2'] x) ∧ W3.cell? ⟨wr.heap.size, 0, none⟩ = some (.string ⟨x.name.toArray⟩) ∧ W3.cell? ⟨wr.heap.size, 1, none⟩ = some (.int .i64 x.pol) ∧ W3.cell? ⟨wr.heap.size, 2, none⟩ = some (.bool x.comp) ∧ W3.cell? ⟨wr.heap.size, 3, none⟩ = some (.slice A1 x.ins.length c1') ∧ W3.cell? ⟨wr.heap.size, 4, none⟩ = some (.slice A2 x.rules.length c2') ∧ W3.cell? ⟨w.heap.size, 0, none⟩ = some (.slice A b.doms.length c) ∧ W3.cell? ⟨w.heap.size, 1, none⟩ = some (.slice (some ⟨bB, off, none⟩) b.tabs.length d) ∧ wr.heap.size < W3.heap.size :=
                      ⟨_, rfl, Lib.hid (HB.out.alloc HB.out.size _), Lib.hid (Rd.alloc (Rd.below hr HBR.out) _), World.cell?_alloc_new _ _ _ _, World.cell?_alloc_new _ _ _ _, World.cell?_alloc_new _ _ _ _, World.cell?_alloc_new _ _ _ _, World.cell?_alloc_new _ _ _ _, ((HB.out.alloc HB.out.size _).cell (p := ⟨w.heap.size, 0, none⟩) HS0.out).trans HC0.out, ((HB.out.alloc HB.out.size _).cell (p := ⟨w.heap.size, 1, none⟩) HS0.out).trans HC1.out, by simp⟩
                    have HBK3 := Lib.hid (Rd.below HBK.out HB3.out)
                    have HAT := Lib.hid (HK.out.trans (clashGap_at hx))
                    obtain ⟨bo, hbo⟩ : ∃ o, boxOf b x = o := ⟨_, rfl⟩
                    have HBO := Lib.hid hbo
                    have hbx : bxOf b x = optBx bo := by unfold bxOf; rw [hbo]
                    rw [hbx] at HAT
                    obtain ⟨L1, hl1⟩ : ∃ l, leastB (clashB x (optBx bo)) = l := ⟨_, rfl⟩
                    obtain ⟨L2, hl2⟩ : ∃ l, leastB (gapB x (optBx bo)) = l := ⟨_, rfl⟩
                    obtain ⟨f1, hf1⟩ : ∃ r, decide (0 < (clashB x (optBx bo)).length) = r := ⟨_, rfl⟩
                    obtain ⟨f2, hf2⟩ : ∃ r, decide (0 < (gapB x (optBx bo)).length) = r := ⟨_, rfl⟩
                    have HL1 := Lib.hid hl1
                    have HL2 := Lib.hid hl2
                    have HF1 := Lib.hid hf1
                    have HF2 := Lib.hid hf2
                    obtain ⟨cm, hcm⟩ : ∃ r, x.comp = r := ⟨_, rfl⟩
                    rw [hcm] at e3 j2 HR3
                    have HA1 : Hid (f1 = true → checkB b = (x.name, L1, 8)) := Lib.hid fun h => by
                      rw [HAT.out, if_pos (of_decide_eq_true (by rw [hf1, h])), hl1]
                    have HA2 : Hid (f1 = false → f2 = true → cm = true → checkB b = (x.name, L2, 7)) := Lib.hid fun h h2 h3 => by
                      rw [HAT.out, if_neg (of_decide_eq_false (by rw [hf1, h])), if_pos ⟨of_decide_eq_true (by rw [hf2, h2]), by rw [hcm, h3]⟩, hl2]
                    have HA3 : Hid (f1 = false → (f2 = false ∨ cm = false) → checkB b = clashGap b (b.tabs.drop (k + 1))) := Lib.hid fun h h2 => by
                      rw [HAT.out, if_neg (of_decide_eq_false (by rw [hf1, h])), if_neg]
                      rintro ⟨a1, a2⟩
                      rcases h2 with h2 | h2
                      · exact of_decide_eq_false (by rw [hf2, h2]) a1
                      · rw [hcm, h2] at a2; cases a2
                    clear hx hr hgx hbo hbx hl1 hl2 hf1 hf2
                    cases f1
                    · cases cm
                      · have HK' := Lib.hid (HA3.out rfl (.inr rfl))
                        go_wp2_with (first | (go_at_call 73; go_must ((with_reducible refine (boxOf_b W3 HBK3.out HR3.out HGTS.out HGDS.out h3 HBO.out).mono ?_); rintro e w4 ⟨z4, rfl, how4, hb4⟩; obtain ⟨A4, l4, rfl⟩ := how4.value; have hb4' := HB3.out.trans (hb4.mono HB3.out.size); have HB4 := Lib.hid hb4'; have HR4 := Lib.hid (Rd.below HR3.out hb4); have HW4 : Hid (rBx.rel w4 (Up (fun _ => False) W3.heap.size) _ _) := Lib.hid (how4.rel (by decide)); have n0 := (hb4.cell (p := ⟨wr.heap.size, 0, none⟩) hs3).trans j0; have n1 := (hb4.cell (p := ⟨wr.heap.size, 1, none⟩) hs3).trans j1; have n2 := (hb4.cell (p := ⟨wr.heap.size, 2, none⟩) hs3).trans j2; have n3 := (hb4.cell (p := ⟨wr.heap.size, 3, none⟩) hs3).trans j3; have n4 := (hb4.cell (p := ⟨wr.heap.size, 4, none⟩) hs3).trans j4; have hs4 : wr.heap.size < w4.heap.size := Nat.lt_of_lt_of_le hs3 hb4.size; clear hb4 hb4' how4)) | (go_at_call 22; go_must ((with_reducible refine (ClashOf_b w4 HR4.out HW4.out HL1.out HF1.out).mono ?_); rintro e w5 ⟨z5, S5, rfl, hz5, hb5⟩; obtain ⟨A5, l5, rfl, _⟩ := rSl.elems hz5; have HZ5 := Lib.hid hz5; have hb5' := HB4.out.trans (hb5.mono HB4.out.size); have HB5 := Lib.hid hb5'; have HR5 := Lib.hid (Rd.below HR4.out hb5); have HW5 := Lib.hid (Rd.below HW4.out hb5); have m0 := (hb5.cell (p := ⟨wr.heap.size, 0, none⟩) hs4).trans n0; have m1 := (hb5.cell (p := ⟨wr.heap.size, 1, none⟩) hs4).trans n1; have m2 := (hb5.cell (p := ⟨wr.heap.size, 2, none⟩) hs4).trans n2; have m3 := (hb5.cell (p := ⟨wr.heap.size, 3, none⟩) hs4).trans n3; have m4 := (hb5.cell (p := ⟨wr.heap.size, 4, none⟩) hs4).trans n4; have hs5 : wr.heap.size < w5.heap.size := Nat.lt_of_lt_of_le hs4 hb5.size; clear hb5 hb5' hz5)))
                        go_roundw
                        case rel => exact ⟨k + 1, by omega, by go_num, HK', HB5⟩
                        case measure => simp [intOf]; omega
                      · cases f2
                        · have HK' := Lib.hid (HA3.out rfl (.inl rfl))
                          go_wp2_with (first | (go_at_call 73; go_must ((with_reducible refine (boxOf_b W3 HBK3.out HR3.out HGTS.out HGDS.out h3 HBO.out).mono ?_); rintro e w4 ⟨z4, rfl, how4, hb4⟩; obtain ⟨A4, l4, rfl⟩ := how4.value; have hb4' := HB3.out.trans (hb4.mono HB3.out.size); have HB4 := Lib.hid hb4'; have HR4 := Lib.hid (Rd.below HR3.out hb4); have HW4 : Hid (rBx.rel w4 (Up (fun _ => False) W3.heap.size) _ _) := Lib.hid (how4.rel (by decide)); have n0 := (hb4.cell (p := ⟨wr.heap.size, 0, none⟩) hs3).trans j0; have n1 := (hb4.cell (p := ⟨wr.heap.size, 1, none⟩) hs3).trans j1; have n2 := (hb4.cell (p := ⟨wr.heap.size, 2, none⟩) hs3).trans j2; have n3 := (hb4.cell (p := ⟨wr.heap.size, 3, none⟩) hs3).trans j3; have n4 := (hb4.cell (p := ⟨wr.heap.size, 4, none⟩) hs3).trans j4; have hs4 : wr.heap.size < w4.heap.size := Nat.lt_of_lt_of_le hs3 hb4.size; clear hb4 hb4' how4)) | (go_at_call 22; go_must ((with_reducible refine (ClashOf_b w4 HR4.out HW4.out HL1.out HF1.out).mono ?_); rintro e w5 ⟨z5, S5, rfl, hz5, hb5⟩; obtain ⟨A5, l5, rfl, _⟩ := rSl.elems hz5; have HZ5 := Lib.hid hz5; have hb5' := HB4.out.trans (hb5.mono HB4.out.size); have HB5 := Lib.hid hb5'; have HR5 := Lib.hid (Rd.below HR4.out hb5); have HW5 := Lib.hid (Rd.below HW4.out hb5); have m0 := (hb5.cell (p := ⟨wr.heap.size, 0, none⟩) hs4).trans n0; have m1 := (hb5.cell (p := ⟨wr.heap.size, 1, none⟩) hs4).trans n1; have m2 := (hb5.cell (p := ⟨wr.heap.size, 2, none⟩) hs4).trans n2; have m3 := (hb5.cell (p := ⟨wr.heap.size, 3, none⟩) hs4).trans n3; have m4 := (hb5.cell (p := ⟨wr.heap.size, 4, none⟩) hs4).trans n4; have hs5 : wr.heap.size < w5.heap.size := Nat.lt_of_lt_of_le hs4 hb5.size; clear hb5 hb5' hz5)) | (go_at_call 20; go_must ((with_reducible refine (GapOf_b w5 HR5.out HW5.out HL2.out HF2.out).mono ?_); rintro e w6 ⟨z6, S6, rfl, hz6, hb6⟩; obtain ⟨A6, l6, rfl, _⟩ := rSl.elems hz6; have HZ6 := Lib.hid hz6; have HB6 := Lib.hid (HB5.out.trans (hb6.mono HB5.out.size)); have o0 := (hb6.cell (p := ⟨wr.heap.size, 0, none⟩) hs5).trans m0; clear hb6 hz6)))
                          go_roundw
                          case rel => exact ⟨k + 1, by omega, by go_num, HK', HB6⟩
                          case measure => simp [intOf]; omega
                        · have HC := Lib.hid (HA2.out rfl rfl rfl)
                          go_wp2_with (first | (go_at_call 73; go_must ((with_reducible refine (boxOf_b W3 HBK3.out HR3.out HGTS.out HGDS.out h3 HBO.out).mono ?_); rintro e w4 ⟨z4, rfl, how4, hb4⟩; obtain ⟨A4, l4, rfl⟩ := how4.value; have hb4' := HB3.out.trans (hb4.mono HB3.out.size); have HB4 := Lib.hid hb4'; have HR4 := Lib.hid (Rd.below HR3.out hb4); have HW4 : Hid (rBx.rel w4 (Up (fun _ => False) W3.heap.size) _ _) := Lib.hid (how4.rel (by decide)); have n0 := (hb4.cell (p := ⟨wr.heap.size, 0, none⟩) hs3).trans j0; have n1 := (hb4.cell (p := ⟨wr.heap.size, 1, none⟩) hs3).trans j1; have n2 := (hb4.cell (p := ⟨wr.heap.size, 2, none⟩) hs3).trans j2; have n3 := (hb4.cell (p := ⟨wr.heap.size, 3, none⟩) hs3).trans j3; have n4 := (hb4.cell (p := ⟨wr.heap.size, 4, none⟩) hs3).trans j4; have hs4 : wr.heap.size < w4.heap.size := Nat.lt_of_lt_of_le hs3 hb4.size; clear hb4 hb4' how4)) | (go_at_call 22; go_must ((with_reducible refine (ClashOf_b w4 HR4.out HW4.out HL1.out HF1.out).mono ?_); rintro e w5 ⟨z5, S5, rfl, hz5, hb5⟩; obtain ⟨A5, l5, rfl, _⟩ := rSl.elems hz5; have HZ5 := Lib.hid hz5; have hb5' := HB4.out.trans (hb5.mono HB4.out.size); have HB5 := Lib.hid hb5'; have HR5 := Lib.hid (Rd.below HR4.out hb5); have HW5 := Lib.hid (Rd.below HW4.out hb5); have m0 := (hb5.cell (p := ⟨wr.heap.size, 0, none⟩) hs4).trans n0; have m1 := (hb5.cell (p := ⟨wr.heap.size, 1, none⟩) hs4).trans n1; have m2 := (hb5.cell (p := ⟨wr.heap.size, 2, none⟩) hs4).trans n2; have m3 := (hb5.cell (p := ⟨wr.heap.size, 3, none⟩) hs4).trans n3; have m4 := (hb5.cell (p := ⟨wr.heap.size, 4, none⟩) hs4).trans n4; have hs5 : wr.heap.size < w5.heap.size := Nat.lt_of_lt_of_le hs4 hb5.size; clear hb5 hb5' hz5)) | (go_at_call 20; go_must ((with_reducible refine (GapOf_b w5 HR5.out HW5.out HL2.out HF2.out).mono ?_); rintro e w6 ⟨z6, S6, rfl, hz6, hb6⟩; obtain ⟨A6, l6, rfl, _⟩ := rSl.elems hz6; have HZ6 := Lib.hid hz6; have HB6 := Lib.hid (HB5.out.trans (hb6.mono HB5.out.size)); have o0 := (hb6.cell (p := ⟨wr.heap.size, 0, none⟩) hs5).trans m0; clear hb6 hz6)))
                          go_ret3
                          exact ⟨_, S6, by rw [HC.out]; rfl, by rw [HC.out]; exact HZ6.out, HB0.out.trans (HB6.out.mono HB0.out.size)⟩
                    · have HC := Lib.hid (HA1.out rfl)
                      go_wp2_with (first | (go_at_call 73; go_must ((with_reducible refine (boxOf_b W3 HBK3.out HR3.out HGTS.out HGDS.out h3 HBO.out).mono ?_); rintro e w4 ⟨z4, rfl, how4, hb4⟩; obtain ⟨A4, l4, rfl⟩ := how4.value; have hb4' := HB3.out.trans (hb4.mono HB3.out.size); have HB4 := Lib.hid hb4'; have HR4 := Lib.hid (Rd.below HR3.out hb4); have HW4 : Hid (rBx.rel w4 (Up (fun _ => False) W3.heap.size) _ _) := Lib.hid (how4.rel (by decide)); have n0 := (hb4.cell (p := ⟨wr.heap.size, 0, none⟩) hs3).trans j0; have n1 := (hb4.cell (p := ⟨wr.heap.size, 1, none⟩) hs3).trans j1; have n2 := (hb4.cell (p := ⟨wr.heap.size, 2, none⟩) hs3).trans j2; have n3 := (hb4.cell (p := ⟨wr.heap.size, 3, none⟩) hs3).trans j3; have n4 := (hb4.cell (p := ⟨wr.heap.size, 4, none⟩) hs3).trans j4; have hs4 : wr.heap.size < w4.heap.size := Nat.lt_of_lt_of_le hs3 hb4.size; clear hb4 hb4' how4)) | (go_at_call 22; go_must ((with_reducible refine (ClashOf_b w4 HR4.out HW4.out HL1.out HF1.out).mono ?_); rintro e w5 ⟨z5, S5, rfl, hz5, hb5⟩; obtain ⟨A5, l5, rfl, _⟩ := rSl.elems hz5; have HZ5 := Lib.hid hz5; have hb5' := HB4.out.trans (hb5.mono HB4.out.size); have HB5 := Lib.hid hb5'; have HR5 := Lib.hid (Rd.below HR4.out hb5); have HW5 := Lib.hid (Rd.below HW4.out hb5); have m0 := (hb5.cell (p := ⟨wr.heap.size, 0, none⟩) hs4).trans n0; have m1 := (hb5.cell (p := ⟨wr.heap.size, 1, none⟩) hs4).trans n1; have m2 := (hb5.cell (p := ⟨wr.heap.size, 2, none⟩) hs4).trans n2; have m3 := (hb5.cell (p := ⟨wr.heap.size, 3, none⟩) hs4).trans n3; have m4 := (hb5.cell (p := ⟨wr.heap.size, 4, none⟩) hs4).trans n4; have hs5 : wr.heap.size < w5.heap.size := Nat.lt_of_lt_of_le hs4 hb5.size; clear hb5 hb5' hz5)))
                      go_ret3
                      exact ⟨_, S5, by rw [HC.out]; rfl, by rw [HC.out]; exact HZ5.out, HB0.out.trans (HB5.out.mono HB0.out.size)⟩
                  · have hij : ¬ (k : Int) < (b.tabs.length : Int) := by omega
                    have HC : Hid (checkB b = ([], [], 0)) := Lib.hid (by rw [HK.out, List.drop_eq_nil_of_le (show b.tabs.length ≤ k by omega)]; rfl)
                    go_wp2
                    go_ret3
                    exact HZ.out _ _ _ HC.out rfl rfl HB.out

end Go.Proofs.YtlopccnehgolnabGreatDoor

namespace Go.Proofs.YtlopccnehgolnabGreatDoor
open Go.RowKit Rb

theorem CheckBook_at {S : Nat → Prop} {bs : List Value} {b : Bk} {nm : Txt} {l : List Int} {r : Int} (w : World) (hl : rBk.rel w S bs b) (h : checkB b = (nm, l, r)) :
    Calls Tryz.prog 29 #[.agg bs.toArray] w fun e w' => ∃ A c S', e = .returned (.tuple #[.string ⟨nm.toArray⟩, .slice A l.length c, .int .i64 r]) ∧ (rSl rInt).rel w' S' [.slice A l.length c] l ∧ Below w.heap.size w w' := by
  refine (CheckBook_any w hl).mono ?_
  rintro e w' ⟨z, S', he, hz, hb⟩
  rw [h] at he hz
  obtain ⟨A, c, rfl, _⟩ := rSl.elems hz
  exact ⟨A, c, S', he, hz, hb⟩

end Go.Proofs.YtlopccnehgolnabGreatDoor
