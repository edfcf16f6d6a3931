
/- The contract of the reference's AskBook. -/
import Derived.Test.YtlopccnehgolnabGreatDoorRefV
import Derived.Test.YtlopccnehgolnabGreatDoorGrX
import Derived.Test.YtlopccnehgolnabGreatDoorGrW
namespace Go.Proofs.YtlopccnehgolnabGreatDoor
open Go.RowKit Rb

section
variable {b : Bk} {ns : List Int} {o : List Txt} (h : CheckOk b) (hin : insOk b.doms ns = true) (ho : orderB b = some o) (hlen : ns.length = b.doms.length) (hns : ∀ x ∈ ns, InI x)
include h hin ho hns
theorem asked_in (s : Txt) : InI (atM (asked b ns o) s).n := by
  by_cases ht : ∃ t ∈ b.tabs, t.name = s
  · obtain ⟨t, ht, rfl⟩ := ht
    rw [asked_says h ho ht]
    exact saysA_in fun ms => saysT_in (h.good ht) ms
  · have hno : ∀ t ∈ b.tabs, t.name ≠ s := fun t h1 h2 => ht ⟨t, h1, h2⟩
    by_cases hd : ∃ d ∈ b.doms, d.name = s
    · obtain ⟨d, hd, rfl⟩ := hd
      obtain ⟨i, hi⟩ := List.getElem?_of_mem hd
      rw [(asked_dom h hin ho hi).1]
      show InI ((ns[i]?).getD 0)
      cases hx : ns[i]? with
      | none => show InI 0; unfold InI; decide
      | some x => exact hns x (List.mem_of_getElem? hx)
    · unfold atM
      rw [asked_eq, asked_other ho hno, knownTo_no fun d h1 h2 => hd ⟨d, h1, h2⟩]
      show InI 0
      unfold InI
      decide
include hlen
theorem vals_to (hbox : ∀ t ∈ b.tabs, ∀ s ∈ t.ins, (findD b.doms s).isSome = true ∨ (findT b.tabs s).isSome = true) (hsl : ∀ t ∈ b.tabs, ∀ s ∈ t.ins, s.length ≤ 140737488355328) :
    ∀ (n : Nat) (s : Txt), s.length ≤ 140737488355328 → ((findD b.doms s).isSome = true ∨ ∃ j, j < n ∧ o[j]? = some s) → ValOk b ns (asked b ns o) s := by
  intro n
  induction n with
  | zero =>
    intro s hs hd
    rcases hd with hd | ⟨j, hj, _⟩
    · exact value_one hs hlen (asked_in h hin ho hns) (fun i d hd => (asked_dom h hin ho hd).1) (fun h0 => by rw [h0] at hd; cases hd)
    · omega
  | succ n ih =>
    intro s hs hd
    refine value_one hs hlen (asked_in h hin ho hns) (fun i d hd => (asked_dom h hin ho hd).1) fun h0 => ?_
    rcases hd with hd | ⟨j, hj, hoj⟩
    · rw [h0] at hd; cases hd
    · obtain ⟨t, ht, hts⟩ := ord_names ho hoj
      refine ⟨t, by rw [← hts]; exact h.findT ht, by rw [← hts]; exact asked_says h ho ht, fun x hx => ?_⟩
      refine ih x (hsl t ht x hx) ?_
      rcases hbox t ht x hx with h1 | h1
      · exact .inl h1
      · have hd : ∀ t ∈ b.tabs, ∀ u ∈ b.tabs, t.name = u.name → t = u := names_inj h.tabNames
        obtain ⟨hn, hl, hp⟩ := order_law hd ho
        obtain ⟨i, hi, hji⟩ := hp t ht
        have e : i = j := nodup_at hn hi (by rw [hoj, hts])
        subst e
        obtain ⟨j2, hj2, ho2⟩ := hji x hx h1
        exact .inr ⟨j2, by omega, ho2⟩
end

/-- How long a book's names are. -/
theorem bk_lens {w : World} {S : Nat → Prop} {cs : List Value} {b : Bk} (h : rBk.rel w S cs b) : ∀ t ∈ b.tabs, t.name.length ≤ 140737488355328 ∧ ∀ s ∈ t.ins, s.length ≤ 140737488355328 := by
  obtain ⟨v0, u0, rfl, hd, htb⟩ := h
  obtain ⟨B, d, rfl, _, _, _, hF⟩ := rSl.elems htb
  intro t ht
  obtain ⟨i, hi, rfl⟩ := List.getElem_of_mem ht
  obtain ⟨_, _, x, A1, ca, A2, cb, _, _, hx, hr, _⟩ := hF.tb hi
  rw [List.getElem?_eq_getElem hi] at hx
  obtain rfl := Option.some.inj hx
  obtain ⟨vi, vr, hcs, hnm, _, hin, _⟩ := hr
  refine ⟨hnm, fun s hs => ?_⟩
  obtain ⟨A3, c3, rfl, _, _, _, hE⟩ := rSl.elems hin
  obtain ⟨j, hj, rfl⟩ := List.getElem_of_mem hs
  obtain ⟨_, _, s', _, _, _, hs', hl, _⟩ := hE.str hj
  rw [List.getElem?_eq_getElem hj] at hs'
  obtain rfl := Option.some.inj hs'
  exact hl
theorem ints_in {w : World} {S : Nat → Prop} {A : Option Addr} {ns : List Int} (h : Elems rInt w S A ns) : ∀ x ∈ ns, InI x := by
  intro x hx
  obtain ⟨i, hi, rfl⟩ := List.getElem_of_mem hx
  obtain ⟨_, _, n, _, _, _, hn, hI, _⟩ := h.intAt hi
  rw [List.getElem?_eq_getElem hi] at hn
  obtain rfl := Option.some.inj hn
  exact hI
theorem box_named {b : Bk} (h : CheckOk b) : ∀ t ∈ b.tabs, ∀ s ∈ t.ins, (findD b.doms s).isSome = true ∨ (findT b.tabs s).isSome = true := by
  intro t ht s hs
  have h1 := h.box t ht
  unfold someBx at h1
  cases hb : boxOf b t with
  | none => rw [hb] at h1; cases h1
  | some x =>
    have h2 := (boxGo_some hb).2 s hs
    unfold okIn allOk at h2
    simp only [Bool.and_eq_true, Bool.or_eq_true] at h2
    exact h2.1
theorem vals_all {b : Bk} {ns : List Int} {o : List Txt} {w : World} {S : Nat → Prop} {cs : List Value} (h : CheckOk b) (hin : insOk b.doms ns = true) (ho : orderB b = some o) (hlen : ns.length = b.doms.length) (hns : ∀ x ∈ ns, InI x) (hr : rBk.rel w S cs b) :
    ∀ t ∈ b.tabs, ValOk b ns (asked b ns o) t.name := by
  intro t ht
  obtain ⟨_, _, hp⟩ := order_law (names_inj h.tabNames) ho
  obtain ⟨i, hi, _⟩ := hp t ht
  exact vals_to h hin ho hlen hns (box_named h) (fun t ht => (bk_lens hr t ht).2) (i + 1) t.name (bk_lens hr t ht).1 (.inr ⟨i, Nat.lt_succ_self i, hi⟩)
set_option maxRecDepth 100000 in
set_option maxHeartbeats 6400000 in
theorem AskBook_any {S T : Nat → Prop} {bs : List Value} {b : Bk} {u : Value} {ns : List Int} (w : World) (hl : rBk.rel w S bs b) (hn : (rSl rInt).rel w T [u] ns) :
    Calls Tryz.prog 32 #[.agg bs.toArray, u] w fun e w' => askPost b ns w e w' := by
  have hl' := hl
  have hn' := hn
  obtain ⟨v0, u0, rfl, hd, htb⟩ := hl
  obtain ⟨A, c, rfl, _, _, hbd, hD⟩ := rSl.elems hd
  obtain ⟨B, d, rfl, _, _, hbt, hF⟩ := rSl.elems htb
  obtain ⟨C, g, rfl, _, _, hbn, hN⟩ := rSl.elems hn
  have hld : b.doms.length ≤ 4398046511104 := by simp only [rDm] at hbd; omega
  have hlt5 : b.tabs.length ≤ 1759218604441 := by simp only [rTb] at hbt; omega
  have hln : ns.length ≤ 17592186044416 := by simp only [rInt] at hbn; omega
  obtain ⟨W0, e0, HB0, c0, c1, hs0, HBK, HNS⟩ : ∃ W0, w.alloc (.cells #[.slice A b.doms.length c, .slice B b.tabs.length d] 33) = W0 ∧ Hid (Below w.heap.size w W0) ∧ W0.cell? ⟨w.heap.size, 0, none⟩ = some (.slice A b.doms.length c) ∧ W0.cell? ⟨w.heap.size, 1, none⟩ = some (.slice B b.tabs.length d) ∧ w.heap.size < W0.heap.size ∧ Hid (rBk.rel W0 S [.slice A b.doms.length c, .slice B b.tabs.length d] b) ∧ Hid ((rSl rInt).rel W0 T [.slice C ns.length g] ns) :=
    ⟨_, rfl, Lib.hid ((Below.refl _ _).alloc (Nat.le_refl _) _), World.cell?_alloc_new _ _ _ _, World.cell?_alloc_new _ _ _ _, by simp, Lib.hid (Rd.alloc hl' _), Lib.hid (Rd.alloc hn' _)⟩
  have HD := Lib.hid hD
  have HF := Lib.hid hF
  have HN := Lib.hid hN
  clear hl' hn' hd htb hbd hbt hbn hn hD hF hN
  have HZ : Hid (∀ (e : Ending) (w' : World) (r : Int), askB b ns = ([], r) → e = .returned (.tuple #[.slice none 0 0, .int .i64 r]) → Below W0.heap.size W0 w' → askPost b ns w e w') := Lib.hid (by
    rintro e w' r h rfl h2
    exact ⟨_, _, by rw [h], by rw [h]; exact ans_nil _, HB0.out.trans (h2.mono HB0.out.size)⟩)
  obtain ⟨⟨nm, at_, er⟩, hck⟩ : ∃ x, checkB b = x := ⟨_, rfl⟩
  have HCK := Lib.hid hck
  go_enter Tryz.func32, Tryz.ntmps32
  by_cases her : er = 0
  · subst her
    have HC0 : Hid ((checkB b).2.2 = 0) := Lib.hid (by rw [hck])
    have HL := Lib.hid (checkB_le HC0.out)
    have HCO := Lib.hid (checkOk HC0.out)
    have HA1 : Hid (askB b ns = if ns.length ≠ b.doms.length then ([], 1) else if insOk b.doms ns = false then ([], 2) else (b.tabs.map (answerOf (asked b ns ((orderB b).getD []))), 0)) := Lib.hid (by unfold askB; rw [if_neg (by rw [HC0.out]; simp)])
    clear hck
    by_cases hne : ns.length = b.doms.length
    · have HNE := Lib.hid hne
      have hq1 : ((ns.length : Int) == (b.doms.length : Int)) = true := by simp [hne]
      have hq2 : (ns.length == b.doms.length) = true := by simp [hne]
      have hq3 : ((ns.length : Int) != (b.doms.length : Int)) = false := by simp [hne]
      have HA2 := Lib.hid (HA1.out.trans (if_neg (by rw [hne]; simp)))
      clear hne HA1
      go_wp2_with (first | (go_at_call 29; go_must ((with_reducible refine (CheckBook_at W0 HBK.out HCK.out).mono ?_); rintro e w1 ⟨Ak, ck, Sk, rfl, _, hb1⟩; have HB1 := Lib.hid hb1; have d0 := (hb1.cell (p := ⟨w.heap.size, 0, none⟩) hs0).trans c0; have d1 := (hb1.cell (p := ⟨w.heap.size, 1, none⟩) hs0).trans c1; clear hb1)))
      clear d0 d1 hq1 hq2 hq3 e0
      go_loopw [34] (fun i wr => ∃ (k : Nat), k ≤ b.doms.length ∧ i = .int .i64 k ∧ Hid (∀ j, j < k → inOk b.doms ns j = true) ∧ Hid (Below W0.heap.size W0 wr)) (fun i _ => b.doms.length - (intOf i).toNat)
      case atStart => exact ⟨0, Nat.zero_le _, rfl, Lib.hid (by omega), HB1⟩
      case round =>
        obtain ⟨k, hk, rfl, HK, HB⟩ := hrel
        by_cases hlt : k < b.doms.length
        · obtain ⟨bB, off, x, rfl, hbB, hx, ⟨hxl, hxi⟩, g0, g1, g2⟩ := HD.out.dm hlt
          obtain ⟨q, off', v, rfl, _, hq, hy, hyi, h3⟩ := HN.out.intAt (show k < ns.length by rw [HNE.out]; exact hlt)
          have hbw := HB0.out.trans (HB.out.mono HB0.out.size)
          rw [← hbw.cell (p := ⟨bB, _, none⟩) hbB] at g0 g1 g2
          rw [← hbw.cell (p := ⟨q, _, none⟩) hq] at h3
          have hik : (k : Int) < (b.doms.length : Int) := by omega
          have hin : (k : Int) < (ns.length : Int) := by rw [HNE.out]; exact hik
          have HIK : Hid (inOk b.doms ns k = (decide (x.lo ≤ v) && decide (v ≤ x.hi))) := Lib.hid (by unfold inOk; rw [hx, hy]; rfl)
          obtain ⟨W3, e3, HB3, j0, j1, j2, h4, hqs, hws⟩ : ∃ W3, wr.alloc (.cells #[.string ⟨x.name.toArray⟩, .int .i64 x.lo, .int .i64 x.hi] 44) = W3 ∧ Hid (Below W0.heap.size W0 W3) ∧ W3.cell? ⟨wr.heap.size, 0, none⟩ = some (.string ⟨x.name.toArray⟩) ∧ W3.cell? ⟨wr.heap.size, 1, none⟩ = some (.int .i64 x.lo) ∧ W3.cell? ⟨wr.heap.size, 2, none⟩ = some (.int .i64 x.hi) ∧ W3.cell? ⟨q, off' + k, none⟩ = some (.int .i64 v) ∧ q < W3.heap.size ∧ wr.heap.size < W3.heap.size :=
            ⟨_, rfl, Lib.hid (HB.out.alloc HB.out.size _), World.cell?_alloc_new _ _ _ _, World.cell?_alloc_new _ _ _ _, World.cell?_alloc_new _ _ _ _, (World.cell?_alloc_lt _ _ _ (Nat.lt_of_lt_of_le hq hbw.size)).trans h3, Nat.lt_of_lt_of_le (Nat.lt_of_lt_of_le hq hbw.size) (by simp), by simp⟩
          clear hx hy hyi hbw hq
          by_cases h1 : v < x.lo
          · have hd1 : decide (v < x.lo) = true := decide_eq_true h1
            have HC : Hid (askB b ns = ([], 2)) := Lib.hid (by rw [HA2.out, if_pos (insOk_no hlt (by rw [HIK.out, decide_eq_false (by omega)]; rfl))])
            clear h1
            go_wp2
            refine wp_region_quiet_below (by kernel_rfl) (by kernel_rfl) ?_
            repeat (go_big_quiet_step (fail))
            refine wpQuiet_nil ?_
            intro _ hw'
            obtain ⟨⟨dq, osq⟩, hw''⟩ := hw'
            subst hw''
            go_wp2
            go_ret2
            exact HZ.out _ _ _ HC.out rfl (HB3.out.trans ((below_regrown _ _ _).mono HB3.out.size))
          · by_cases h2 : x.hi < v
            · have hd1 : decide (v < x.lo) = false := decide_eq_false h1
              have hd2 : decide (x.hi < v) = true := decide_eq_true h2
              have HC : Hid (askB b ns = ([], 2)) := Lib.hid (by rw [HA2.out, if_pos (insOk_no hlt (by rw [HIK.out, decide_eq_false (show ¬ v ≤ x.hi by omega)]; simp))])
              clear h1 h2
              go_wp2
              refine wp_region_quiet_below (by kernel_rfl) (by kernel_rfl) ?_
              repeat (go_big_quiet_step (fail))
              refine wpQuiet_nil ?_
              intro _ hw'
              obtain ⟨⟨dq, osq⟩, hw''⟩ := hw'
              subst hw''
              go_wp2
              go_ret2
              exact HZ.out _ _ _ HC.out rfl (HB3.out.trans ((below_regrown _ _ _).mono HB3.out.size))
            · have hd1 : decide (v < x.lo) = false := decide_eq_false h1
              have hd2 : decide (x.hi < v) = false := decide_eq_false h2
              have HS := Lib.hid (upto_step HK.out (by rw [HIK.out, decide_eq_true (show x.lo ≤ v by omega), decide_eq_true (show v ≤ x.hi by omega)]; rfl))
              clear h1 h2
              go_wp2
              refine wp_region_quiet_below (by kernel_rfl) (by kernel_rfl) ?_
              repeat (go_big_quiet_step (fail))
              refine wpQuiet_nil ?_
              intro _ hw'
              obtain ⟨⟨dq, osq⟩, hw''⟩ := hw'
              subst hw''
              go_wp2
              go_roundw
              case rel => exact ⟨k + 1, by omega, by go_num, HS, Lib.hid (HB3.out.trans ((below_regrown _ _ _).mono HB3.out.size))⟩
              case measure => simp [intOf]; omega
        · have HIO : Hid (insOk b.doms ns = true) := Lib.hid (all_range_true hlt HK.out)
          have HA3 := Lib.hid (HA2.out.trans (if_neg (by rw [HIO.out]; decide)))
          have hij : ¬ (k : Int) < (b.doms.length : Int) := by omega
          obtain ⟨o, ho⟩ := Option.isSome_iff_exists.1 HCO.out.ord
          have HVS := Lib.hid (vals_all HCO.out HIO.out ho HNE.out (ints_in HN.out) HBK.out)
          have HAI := Lib.hid (asked_in HCO.out HIO.out ho (ints_in HN.out))
          have HA4 : Hid (askB b ns = (b.tabs.map (answerOf (asked b ns o)), 0)) := Lib.hid (by rw [HA3.out, ho]; rfl)
          clear HK HA2 hk HA3 ho hlt
          generalize asked b ns o = m at *
          obtain ⟨w3, hw3⟩ : ∃ x, x = wr := ⟨_, rfl⟩
          subst hw3
          have f1 := (HB.out.cell (p := ⟨w.heap.size, 1, none⟩) hs0).trans c1
          go_wp2
          clear f1 hij
          have HBs := HB
          go_loopw [11, 59] (fun ov i wr => ∃ (k : Nat) (out : List An), k ≤ b.tabs.length ∧ i = .int .i64 k ∧ Own rAn 46 wr w3.heap.size (fun _ => False) ov out ∧ Hid (out = (b.tabs.take k).map (answerOf m)) ∧ Hid (Below w3.heap.size w3 wr)) (fun _ i _ => b.tabs.length - (intOf i).toNat)
          case atStart => exact ⟨0, [], Nat.zero_le _, rfl, Own.nil _ _ _ _ _, Lib.hid rfl, Lib.hid (Below.refl _ _)⟩
          case round =>
            obtain ⟨k, out, hk, rfl, hown, HO2, HB⟩ := hrel
            have HBW := Lib.hid (HBs.out.trans (HB.out.mono HBs.out.size))
            by_cases hlt : k < b.tabs.length
            · obtain ⟨bB, off, x, A1, ca, A2, cb, rfl, hbB, hx, hr, g0, g1, g2, g3, g4⟩ := HF.out.tb hlt
              have hbw := HB0.out.trans (HBW.out.mono HB0.out.size)
              rw [← hbw.cell (p := ⟨bB, _, none⟩) hbB] at g0 g1 g2 g3 g4
              have hik : (k : Int) < (b.tabs.length : Int) := by omega
              have hxl : x.name.length ≤ 140737488355328 := by obtain ⟨_, _, _, h, _⟩ := hr; exact h
              obtain ⟨⟨nm', fd, nn⟩, ha⟩ : ∃ a, atM m x.name = a := ⟨_, rfl⟩
              have HA := Lib.hid ha
              have HVX := Lib.hid (HVS.out x (List.mem_of_getElem? hx))
              have HNN : Hid (InI nn) := Lib.hid (by have := HAI.out x.name; rw [ha] at this; exact this)
              have HOS : Hid (out ++ [⟨x.name, fd, nn⟩] = (b.tabs.take (k + 1)).map (answerOf m)) := Lib.hid (by rw [take_getElem? hx, List.map_append, ← HO2.out]; simp [answerOf, ha])
              have HOL : Hid (out.length ≤ 4) := Lib.hid (by rw [HO2.out, List.length_map, List.length_take]; have := HL.out.2; omega)
              have HBY : Hid ((out.length + 1) * rAn.bytes ≤ 140737488355328) := Lib.hid (by have := HOL.out; show (_ + 1) * 32 ≤ _; omega)
              obtain ⟨W3, e3, HB3, j0, HOW3, hw3s, d0, d1, HBK3, HNS3⟩ : ∃ W3, wr.alloc (.cells #[.string ⟨x.name.toArray⟩, .int .i64 x.pol, .bool x.comp, .slice A1 x.ins.length ca, .slice A2 x.rules.length cb] 42) = W3 ∧ Hid (Below w3.heap.size w3 W3) ∧ W3.cell? ⟨wr.heap.size, 0, none⟩ = some (.string ⟨x.name.toArray⟩) ∧ Hid (Own rAn 46 W3 w3.heap.size (fun _ => False) u11 out) ∧ wr.heap.size < W3.heap.size ∧ W3.cell? ⟨w.heap.size, 0, none⟩ = some (.slice A b.doms.length c) ∧ W3.cell? ⟨w.heap.size, 1, none⟩ = some (.slice (some ⟨bB, off, none⟩) b.tabs.length d) ∧ Hid (rBk.rel W3 S [.slice A b.doms.length c, .slice (some ⟨bB, off, none⟩) b.tabs.length d] b) ∧ Hid ((rSl rInt).rel W3 T [.slice C ns.length g] ns) :=
                ⟨_, rfl, Lib.hid (HB.out.alloc HB.out.size _), World.cell?_alloc_new _ _ _ _, Lib.hid (hown.alloc _), by simp, ((HBW.out.alloc HBW.out.size _).cell (p := ⟨w.heap.size, 0, none⟩) hs0).trans c0, ((HBW.out.alloc HBW.out.size _).cell (p := ⟨w.heap.size, 1, none⟩) hs0).trans c1, Lib.hid (Rd.below HBK.out (HBW.out.alloc HBW.out.size _)), Lib.hid (Rd.below HNS.out (HBW.out.alloc HBW.out.size _))⟩
              clear hx hr hbw hown ha
              go_wp2_with (first | (go_at_call 74; go_must ((with_reducible refine (HVX.out.at HA.out W3 HBK3.out HNS3.out).mono ?_); rintro e w7 ⟨rfl, hb7⟩; have HB7 := Lib.hid (HB3.out.trans (hb7.mono HB3.out.size)); have l0 := (hb7.cell (p := ⟨wr.heap.size, 0, none⟩) hw3s).trans j0; have HOW7 := Lib.hid (HOW3.out.below hb7); clear hb7)) | (at_builtin; go_must (refine wpList_append_new (R := rAn) (x := ⟨x.name, fd, nn⟩) el_An rfl (.tmp 71) (.tmp 77) rfl rfl HOW7.out [.string ⟨x.name.toArray⟩, .bool fd, .int .i64 nn] rfl rfl (fun _ => False) ⟨rfl, hxl, HNN.out⟩ (fun _ h => h.elim) HBY.out HB7.out.size ?_); intro v9 w9 hown9 hb9 _ _))
              go_roundw
              case rel => exact ⟨k + 1, out ++ [⟨x.name, fd, nn⟩], by omega, by go_num, hown9, HOS, Lib.hid (HB7.out.trans hb9)⟩
              case measure => simp [intOf]; omega
            · have HC : Hid (askB b ns = (out, 0)) := Lib.hid (by rw [HA4.out, HO2.out, List.take_of_length_le (by omega)])
              have hij : ¬ (k : Int) < (b.tabs.length : Int) := by omega
              obtain ⟨A9, l9, rfl⟩ := hown.value
              go_wp2
              go_ret2
              exact ⟨_, _, by rw [HC.out]; rfl, by rw [HC.out]; exact hown.rel (by decide), HB0.out.trans (HBW.out.mono HB0.out.size)⟩
    · have HA3 : Hid (askB b ns = ([], 1)) := Lib.hid (by rw [HA1.out, if_pos hne])
      have hq1 : ((ns.length : Int) == (b.doms.length : Int)) = false := beq_eq_false_iff_ne.2 (by omega)
      have hq2 : (ns.length == b.doms.length) = false := beq_eq_false_iff_ne.2 hne
      have hq3 : ((ns.length : Int) != (b.doms.length : Int)) = true := by simp; omega
      clear hne
      go_wp2_with (first | (go_at_call 29; go_must ((with_reducible refine (CheckBook_at W0 HBK.out HCK.out).mono ?_); rintro e w1 ⟨Ak, ck, Sk, rfl, _, hb1⟩; have HB1 := Lib.hid hb1; have d0 := (hb1.cell (p := ⟨w.heap.size, 0, none⟩) hs0).trans c0; have d1 := (hb1.cell (p := ⟨w.heap.size, 1, none⟩) hs0).trans c1; clear hb1)))
      go_ret2
      exact HZ.out _ _ _ HA3.out rfl HB1.out
  · have HA3 : Hid (askB b ns = ([], er)) := Lib.hid (by unfold askB; rw [hck]; exact if_pos her)
    have hq1 : (er == 0) = false := by simpa using her
    have hq3 : (er != 0) = true := by simpa using her
    clear hck her
    go_wp2_with (first | (go_at_call 29; go_must ((with_reducible refine (CheckBook_at W0 HBK.out HCK.out).mono ?_); rintro e w1 ⟨Ak, ck, Sk, rfl, _, hb1⟩; have HB1 := Lib.hid hb1; have d0 := (hb1.cell (p := ⟨w.heap.size, 0, none⟩) hs0).trans c0; have d1 := (hb1.cell (p := ⟨w.heap.size, 1, none⟩) hs0).trans c1; clear hb1)))
    go_ret2
    exact HZ.out _ _ _ HA3.out rfl HB1.out

end Go.Proofs.YtlopccnehgolnabGreatDoor
