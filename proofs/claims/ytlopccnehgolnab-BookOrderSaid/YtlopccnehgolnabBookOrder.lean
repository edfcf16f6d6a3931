
/- BookOrder: the walk. -/
import Derived.Test.YtlopccnehgolnabOrderX
import Derived.Test.YtlopccnehgolnabAskX
namespace Go.Proofs.Ytlopccnehgolnab
open Go.RowKit Rb

def namesTo (b : Bk) (k : Nat) : List Txt := (b.tabs.take k).map (·.name)
theorem namesTo_succ {b : Bk} {k : Nat} {x : Tb} (h : b.tabs[k]? = some x) : namesTo b (k + 1) = namesTo b k ++ [x.name] := by
  unfold namesTo
  rw [take_getElem? h, List.map_append]
  rfl
theorem zeroB (w : World) : (zeroValue 4).run Try.prog w = .ok (.bool false) w := by kernel_rfl
theorem zeroI (w : World) : (zeroValue 3).run Try.prog w = .ok (.int .i64 0) w := by kernel_rfl

set_option maxRecDepth 100000 in
set_option maxHeartbeats 1600000 in
theorem BookOrder_walk {S : Nat → Prop} {bs : List Value} {b : Bk} (w : World) (hl : rBk.rel w S bs b) :
    Calls Try.prog 6 #[.agg bs.toArray] w fun e w' => e = .returned (.bool true) ∧ Below w.heap.size w w' := by
  have hl' := hl
  obtain ⟨v0, u0, rfl, hd, htb⟩ := hl
  obtain ⟨A, c, rfl, _⟩ := rSl.elems hd
  obtain ⟨B, d, rfl, _, _, hbt, hF⟩ := rSl.elems htb
  have hlt5 : b.tabs.length ≤ 1759218604441 := by simp only [rTb] at hbt; omega
  obtain ⟨W0, e0, HB0, c0, c1, hs0, HBK⟩ : ∃ W0, w.alloc (.cells #[.slice A b.doms.length c, .slice B b.tabs.length d] 46) = W0 ∧ Hid (Below w.heap.size w W0) ∧ W0.cell? ⟨w.heap.size, 0, none⟩ = some (.slice A b.doms.length c) ∧ W0.cell? ⟨w.heap.size, 1, none⟩ = some (.slice B b.tabs.length d) ∧ w.heap.size < W0.heap.size ∧ Hid (rBk.rel W0 S [.slice A b.doms.length c, .slice B b.tabs.length d] b) :=
    ⟨_, rfl, Lib.hid ((Below.refl _ _).alloc (Nat.le_refl _) _), World.cell?_alloc_new _ _ _ _, World.cell?_alloc_new _ _ _ _, by simp, Lib.hid (Rd.alloc hl' _)⟩
  obtain ⟨WM, eM, HBM, HM0, m1⟩ : ∃ WM, W0.alloc (.map #[] 0) = WM ∧ Hid (Below W0.heap.size W0 WM) ∧ Hid (SMap Try.prog 9 WM W0.heap.size 0 fun _ => none) ∧ WM.cell? ⟨w.heap.size, 1, none⟩ = some (.slice B b.tabs.length d) :=
    ⟨_, rfl, Lib.hid ((Below.refl _ _).alloc (Nat.le_refl _) _), Lib.hid (SMap.made _ _ _), (World.cell?_alloc_lt _ _ _ hs0).trans c1⟩
  have HF := Lib.hid hF
  clear hl' hd htb hbt hF
  have hmm := @run_makeMap Try.prog
  go_enter Try.func6, Try.ntmps6
  go_wp2
  clear e0 eM m1
  generalize hmb : W0.heap.size = mb at *
  have hs0' := hs0
  go_loopw [21] (fun i wr => ∃ (k n : Nat) (f : Txt → Option Value), k ≤ b.tabs.length ∧ i = .int .i64 k ∧ Hid (SMap Try.prog 9 wr mb n f) ∧ Hid (n ≤ k) ∧ Hid (∀ s, f s = if s ∈ namesTo b k then some (.bool true) else none) ∧ Hid (namesTo b k).Nodup ∧ Hid (Below W0.heap.size W0 wr)) (fun i _ => b.tabs.length - (intOf i).toNat)
  case atStart => exact ⟨0, 0, _, Nat.zero_le _, rfl, HM0, Lib.hid (Nat.le_refl _), Lib.hid (fun s => by simp [namesTo]), Lib.hid (by simp [namesTo]), by rw [hmb]; exact HBM⟩
  case round =>
    rw [← hmb] at hs0
    have Hmb := Lib.hid hmb
    clear hmb
    obtain ⟨k, n, f, hk, rfl, HM, Hn, Hf, HND, HB⟩ := hrel
    by_cases hlt : k < b.tabs.length
    · obtain ⟨bB, off, x, A1, ca, A2, cb, rfl, hbB, hx, hr, g0, g1, g2, g3, g4⟩ := HF.out.tb hlt
      have hbw := HB0.out.trans (HB.out.mono HB0.out.size)
      rw [← hbw.cell (p := ⟨bB, _, none⟩) hbB] at g0 g1 g2 g3 g4
      have hik : (k : Int) < (b.tabs.length : Int) := by omega
      have HX := Lib.hid hx
      have hxl : x.name.length ≤ 140737488355328 := by obtain ⟨_, _, _, h, _⟩ := hr; exact h
      have HXM : Hid (namesTo b (k + 1) = namesTo b k ++ [x.name]) := Lib.hid (namesTo_succ hx)
      obtain ⟨gt, hgt⟩ : ∃ r, goodT x = r := ⟨_, rfl⟩
      have HGT := Lib.hid hgt
      obtain ⟨W3, e3, HB3, j0, j1, j2, j3, j4, q0, q1, HR3, HK3, hw3s, HM3⟩ : ∃ W3, wr.alloc (.cells #[.string ⟨x.name.toArray⟩, .int .i64 x.pol, .bool x.comp, .slice A1 x.ins.length ca, .slice A2 x.rules.length cb] 25) = W3 ∧ Hid (Below W0.heap.size W0 W3) ∧ W3.cell? ⟨wr.heap.size, 0, none⟩ = some (.string ⟨x.name.toArray⟩) ∧ W3.cell? ⟨wr.heap.size, 1, none⟩ = some (.int .i64 x.pol) ∧ W3.cell? ⟨wr.heap.size, 2, none⟩ = some (.bool x.comp) ∧ W3.cell? ⟨wr.heap.size, 3, none⟩ = some (.slice A1 x.ins.length ca) ∧ W3.cell? ⟨wr.heap.size, 4, none⟩ = some (.slice A2 x.rules.length cb) ∧
          W3.cell? ⟨w.heap.size, 0, none⟩ = some (.slice A b.doms.length c) ∧ W3.cell? ⟨w.heap.size, 1, none⟩ = some (.slice (some ⟨bB, off, none⟩) b.tabs.length d) ∧ Hid (rTb.rel W3 S [.string ⟨x.name.toArray⟩, .int .i64 x.pol, .bool x.comp, .slice A1 x.ins.length ca, .slice A2 x.rules.length cb] x) ∧ Hid (rBk.rel W3 S [.slice A b.doms.length c, .slice (some ⟨bB, off, none⟩) b.tabs.length d] b) ∧ wr.heap.size < W3.heap.size ∧ Hid (SMap Try.prog 9 W3 mb n f) :=
        ⟨_, rfl, Lib.hid (HB.out.alloc HB.out.size _), World.cell?_alloc_new _ _ _ _, World.cell?_alloc_new _ _ _ _, World.cell?_alloc_new _ _ _ _, World.cell?_alloc_new _ _ _ _, World.cell?_alloc_new _ _ _ _,
          ((HB.out.alloc HB.out.size _).cell (p := ⟨w.heap.size, 0, none⟩) hs0).trans c0, ((HB.out.alloc HB.out.size _).cell (p := ⟨w.heap.size, 1, none⟩) hs0).trans c1, Lib.hid (Rd.below hr (hbw.alloc hbw.size _)), Lib.hid (Rd.below HBK.out (HB.out.alloc HB.out.size _)), by simp, Lib.hid (HM.out.alloc _)⟩
      clear hx hr hgt hbw
      cases gt
      · go_wp2_with (first | (go_at_call 7; go_must ((with_reducible refine (TGood_b W3 HR3.out HGT.out).mono ?_); rintro e w4 ⟨rfl, hb4⟩; have HB4 := Lib.hid (HB3.out.trans (hb4.mono HB3.out.size)); have HM4 := Lib.hid (HM3.out.below hb4); have r0 := (hb4.cell (p := ⟨wr.heap.size, 0, none⟩) hw3s).trans j0; clear hb4)) | (go_at_call 17; go_must ((with_reducible refine (booksKeep_any _).mono ?_); rintro e w5 ⟨rfl, hb5⟩)))
        go_ret
        exact ⟨rfl, HB0.out.trans ((HB4.out.trans (hb5.mono HB4.out.size)).mono HB0.out.size)⟩
      · by_cases hin : x.name ∈ namesTo b k
        · have HV : Hid ((f x.name).getD (.bool false) = .bool true) := Lib.hid (by rw [Hf.out, if_pos hin]; rfl)
          clear hin
          go_wp2_with (first | (go_at_call 7; go_must ((with_reducible refine (TGood_b W3 HR3.out HGT.out).mono ?_); rintro e w4 ⟨rfl, hb4⟩; have HB4 := Lib.hid (HB3.out.trans (hb4.mono HB3.out.size)); have HM4 := Lib.hid (HM3.out.below hb4); have r0 := (hb4.cell (p := ⟨wr.heap.size, 0, none⟩) hw3s).trans j0; clear hb4)) | (at_lookup; go_must (refine wpList_lookup_txt (by rfl) (.tmp 29) (.tmp 31) 59 rfl Try.underlying59 Try.underlying9 (zeroB _) rfl HM4.out rfl hxl HV.out ?_)) | (go_at_call 17; go_must ((with_reducible refine (booksKeep_any _).mono ?_); rintro e w5 ⟨rfl, hb5⟩)))
          go_ret
          exact ⟨rfl, HB0.out.trans ((HB4.out.trans (hb5.mono HB4.out.size)).mono HB0.out.size)⟩
        · have HV : Hid ((f x.name).getD (.bool false) = .bool false) := Lib.hid (by rw [Hf.out, if_neg hin]; rfl)
          have HN2 : Hid (namesTo b (k + 1)).Nodup := Lib.hid (by
            rw [HXM.out, List.nodup_append]
            exact ⟨HND.out, by simp, fun a ha b' hb' e => hin (by rw [List.mem_singleton] at hb'; rw [← hb', ← e]; exact ha)⟩)
          clear hin
          go_wp2_with (first | (go_at_call 7; go_must ((with_reducible refine (TGood_b W3 HR3.out HGT.out).mono ?_); rintro e w4 ⟨rfl, hb4⟩; have HB4 := Lib.hid (HB3.out.trans (hb4.mono HB3.out.size)); have HM4 := Lib.hid (HM3.out.below hb4); have r0 := (hb4.cell (p := ⟨wr.heap.size, 0, none⟩) hw3s).trans j0; clear hb4)) | (at_lookup; go_must (refine wpList_lookup_txt (by rfl) (.tmp 29) (.tmp 31) 59 rfl Try.underlying59 Try.underlying9 (zeroB _) rfl HM4.out rfl hxl HV.out ?_)) | (at_mapUpdate; go_must (refine wpList_update_txt (B := W0.heap.size) (val := .bool true) rfl (.tmp 35) (.tmp 37) (.const (.bool true)) 59 rfl Try.underlying59 Try.underlying9 rfl HM4.out (by have := Hn.out; unfold maxLen; omega) rfl hxl rfl (by rw [Hmb.out]; exact Nat.le_refl _) ?_); intro w7 hM7 hb7 hg7))
          go_roundw
          case rel => exact ⟨k + 1, n + 1, _, by omega, by go_num, Lib.hid hM7, Lib.hid (by have := Hn.out; omega), Lib.hid (fun s => by
              rw [HXM.out]
              unfold putM
              by_cases hs : s = x.name
              · simp [hs]
              · rw [if_neg hs, Hf.out]; simp [hs]), HN2, Lib.hid (HB4.out.trans hb7)⟩
          case measure => simp [intOf]; omega
    · have HDI : Hid (∀ t ∈ b.tabs, ∀ u ∈ b.tabs, t.name = u.name → t = u) := Lib.hid (names_inj (by
        have := HND.out
        unfold namesTo at this
        rwa [List.take_of_length_le (by omega)] at this))
      obtain ⟨w2, hw2⟩ : ∃ x, x = wr := ⟨_, rfl⟩
      subst hw2
      have f0 := (HB.out.cell (p := ⟨w.heap.size, 0, none⟩) hs0).trans c0
      have f1 := (HB.out.cell (p := ⟨w.heap.size, 1, none⟩) hs0).trans c1
      have HBK2 := Lib.hid (Rd.below HBK.out HB.out)
      obtain ⟨oo, hoo⟩ : ∃ o, orderB b = o := ⟨_, rfl⟩
      have HOO := Lib.hid hoo
      have HBw := Lib.hid (HB0.out.trans (HB.out.mono HB0.out.size))
      clear hk HM Hn Hf HND hs0' Hmb
      cases oo with
      | none =>
        go_wp2_with (first | (go_at_call 20; go_must ((with_reducible refine (Order_at w2 HBK2.out HOO.out).mono ?_); rintro e wo ⟨zo, rfl, hzo, hbo⟩; obtain ⟨Ao, co, rfl, _⟩ := rSl.elems hzo; have HBo := Lib.hid (HBw.out.trans (hbo.mono HBw.out.size)); clear hzo hbo)) | (go_at_call 17; go_must ((with_reducible refine (booksKeep_any _).mono ?_); rintro e w5 ⟨rfl, hb5⟩)))
        go_ret
        exact ⟨rfl, HBo.out.trans (hb5.mono HBo.out.size)⟩
      | some o =>
        obtain ⟨_, HOL, HOP⟩ := order_law HDI.out hoo
        have HND : Hid o.Nodup := Lib.hid (order_law HDI.out hoo).1
        clear hoo
        replace HOL := Lib.hid HOL
        replace HOP := Lib.hid HOP
        go_wp2_with (first | (go_at_call 20; go_must ((with_reducible refine (Order_at w2 HBK2.out HOO.out).mono ?_); rintro e wo ⟨zo, rfl, hzo, hbo⟩; have hzo2 : (rSl rStr).rel wo (Up (fun _ => False) w2.heap.size) [zo] o := hzo; obtain ⟨Ao, co, rfl, _⟩ := rSl.elems hzo2; have HBo := Lib.hid (HB.out.trans (hbo.mono HB.out.size)); have HZ := Lib.hid hzo2; clear hzo hzo2 hbo)) | (go_at_call 17; go_must ((with_reducible refine (booksKeep_any wo).mono ?_); rintro e w5 ⟨rfl, hb5⟩; obtain ⟨WN, eN, HBN, HN0, HZN⟩ : ∃ WN, w5.alloc (.map #[] 0) = WN ∧ Hid (Below W0.heap.size W0 WN) ∧ Hid (SMap Try.prog 9 WN w5.heap.size 0 fun _ => none) ∧ Hid ((rSl rStr).rel WN (fun b => b < w5.heap.size) [.slice Ao o.length co] o) := ⟨_, rfl, Lib.hid ((HBo.out.trans (hb5.mono HBo.out.size)).alloc (Nat.le_trans HBo.out.size hb5.size) _), Lib.hid (SMap.made _ _ _), Lib.hid (Rd.alloc (Rd.mono _ (Rd.below HZ.out hb5) fun _ _ h => h) _)⟩; have HW5 := Lib.hid (Nat.le_trans HBo.out.size hb5.size); clear hb5)))
        clear f0 f1 eN
        generalize hmc : w5.heap.size = mc at *
        clear hmc
        go_loopw [59] (fun i wr => ∃ (k n : Nat) (f : Txt → Option Value), k ≤ o.length ∧ i = .int .i64 k ∧ Hid (SMap Try.prog 9 wr mc n f) ∧ Hid (n ≤ k) ∧ Hid (∀ (j : Nat) s, j < k → o[j]? = some s → f s = some (.int .i64 ((j : Int) + 1))) ∧ Hid ((rSl rStr).rel wr (fun b => b < mc) [.slice Ao o.length co] o) ∧ Hid (Below W0.heap.size W0 wr)) (fun i _ => o.length - (intOf i).toNat)
        case atStart => exact ⟨0, 0, _, Nat.zero_le _, rfl, HN0, Lib.hid (Nat.le_refl _), Lib.hid (fun j s h => by omega), HZN, HBN⟩
        case round =>
          obtain ⟨k, n, f, hk, rfl, HM, Hn, Hf, HR, HB⟩ := hrel
          by_cases hlt : k < o.length
          · obtain ⟨_, _, hA0, _, _, hby, hE⟩ := rSl.elems HR.out
            obtain ⟨rfl, rfl⟩ : Ao = _ ∧ co = _ := by injection hA0 with h1 h2 h3; exact ⟨h1, h3⟩
            obtain ⟨q, off, s, rfl, hSq, hq, hx, hxl, g0⟩ := hE.str hlt
            have hik : (k : Int) < (o.length : Int) := by omega
            have hol : o.length ≤ 8796093022208 := by simp only [rStr] at hby; omega
            have HX := Lib.hid hx
            clear hx hE hA0 hby
            go_wp2_with (first | (at_mapUpdate; go_must (refine wpList_update_txt (B := W0.heap.size) (val := .int .i64 ((k : Int) + 1)) rfl (.tmp 64) (.tmp 65) (.tmp 67) 62 rfl Try.underlying62 Try.underlying9 rfl HM.out (by have := Hn.out; unfold maxLen; omega) rfl hxl (by go_num) HW5.out ?_); intro w7 hM7 hb7 hg7))
            go_roundw
            case rel => exact ⟨k + 1, n + 1, _, by omega, by go_num, Lib.hid hM7, Lib.hid (by have := Hn.out; omega), Lib.hid (fun j s' hj hs' => by
                unfold putM
                rcases Nat.lt_succ_iff_lt_or_eq.1 hj with h1 | rfl
                · rw [if_neg (fun e => by
                    subst e
                    have := nodup_at HND.out hs' HX.out
                    omega), Hf.out j s' h1 hs']
                · rw [HX.out] at hs'
                  injection hs' with e
                  rw [if_pos e.symm]), Lib.hid ((rSl rStr).keep HR.out (.grown hg7 fun g hg h => by cases hg; exact Nat.lt_irrefl _ h)), Lib.hid (HB.out.trans hb7)⟩
            case measure => simp [intOf]; omega
          · have HFA : Hid (∀ (j : Nat) s, o[j]? = some s → f s = some (.int .i64 ((j : Int) + 1))) := Lib.hid (fun j s h => Hf.out j s (by have := (List.getElem?_eq_some_iff.1 h).1; omega) h)
            have hol : o.length ≤ 8796093022208 := by
              obtain ⟨_, _, _, _, _, hby, _⟩ := rSl.elems HR.out
              simp only [rStr] at hby; omega
            clear hk Hf Hn
            obtain ⟨w3, hw3⟩ : ∃ x, x = wr := ⟨_, rfl⟩
            subst hw3
            have f1 := (HB.out.cell (p := ⟨w.heap.size, 1, none⟩) hs0).trans c1
            go_wp2
            clear f1 hlt
            have HMs := HM
            have HBs := HB
            go_loopw [72] (fun i wr => ∃ k : Nat, k ≤ b.tabs.length ∧ i = .int .i64 k ∧ Hid (Below w3.heap.size w3 wr)) (fun i _ => b.tabs.length - (intOf i).toNat)
            case atStart => exact ⟨0, Nat.zero_le _, rfl, Lib.hid (Below.refl _ _)⟩
            case round =>
              obtain ⟨k, hk, rfl, HBr⟩ := hrel
              have HB := Lib.hid (HBs.out.trans (HBr.out.mono HBs.out.size))
              by_cases hlt : k < b.tabs.length
              · obtain ⟨bB, off, x, A1, ca, A2, cb, rfl, hbB, hx, hr, g0, g1, g2, g3, g4⟩ := HF.out.tb hlt
                have hbw := HB0.out.trans (HB.out.mono HB0.out.size)
                rw [← hbw.cell (p := ⟨bB, _, none⟩) hbB] at g0 g1 g2 g3 g4
                have hik : (k : Int) < (b.tabs.length : Int) := by omega
                have HX := Lib.hid hx
                have hxl : x.name.length ≤ 140737488355328 := by obtain ⟨_, _, _, h, _⟩ := hr; exact h
                have HM := Lib.hid (HMs.out.below HBr.out)
                obtain ⟨W3, e3, HB3, j0, j1, j2, j3, j4, q0, q1, HR3, HK3, hw3s, HM3⟩ : ∃ W3, wr.alloc (.cells #[.string ⟨x.name.toArray⟩, .int .i64 x.pol, .bool x.comp, .slice A1 x.ins.length ca, .slice A2 x.rules.length cb] 25) = W3 ∧ Hid (Below W0.heap.size W0 W3) ∧ W3.cell? ⟨wr.heap.size, 0, none⟩ = some (.string ⟨x.name.toArray⟩) ∧ W3.cell? ⟨wr.heap.size, 1, none⟩ = some (.int .i64 x.pol) ∧ W3.cell? ⟨wr.heap.size, 2, none⟩ = some (.bool x.comp) ∧ W3.cell? ⟨wr.heap.size, 3, none⟩ = some (.slice A1 x.ins.length ca) ∧ W3.cell? ⟨wr.heap.size, 4, none⟩ = some (.slice A2 x.rules.length cb) ∧
                    W3.cell? ⟨w.heap.size, 0, none⟩ = some (.slice A b.doms.length c) ∧ W3.cell? ⟨w.heap.size, 1, none⟩ = some (.slice (some ⟨bB, off, none⟩) b.tabs.length d) ∧ Hid (rTb.rel W3 S [.string ⟨x.name.toArray⟩, .int .i64 x.pol, .bool x.comp, .slice A1 x.ins.length ca, .slice A2 x.rules.length cb] x) ∧ Hid (rBk.rel W3 S [.slice A b.doms.length c, .slice (some ⟨bB, off, none⟩) b.tabs.length d] b) ∧ wr.heap.size < W3.heap.size ∧ Hid (SMap Try.prog 9 W3 mc n f) :=
                  ⟨_, rfl, Lib.hid (HB.out.alloc HB.out.size _), World.cell?_alloc_new _ _ _ _, World.cell?_alloc_new _ _ _ _, World.cell?_alloc_new _ _ _ _, World.cell?_alloc_new _ _ _ _, World.cell?_alloc_new _ _ _ _,
                    ((HB.out.alloc HB.out.size _).cell (p := ⟨w.heap.size, 0, none⟩) hs0).trans c0, ((HB.out.alloc HB.out.size _).cell (p := ⟨w.heap.size, 1, none⟩) hs0).trans c1, Lib.hid (Rd.below hr (hbw.alloc hbw.size _)), Lib.hid (Rd.below HBK.out (HB.out.alloc HB.out.size _)), by simp, Lib.hid (HM.out.alloc _)⟩
                obtain ⟨pi, HPI, HPJ⟩ : ∃ i : Nat, o[i]? = some x.name ∧ ∀ s ∈ x.ins, (findT b.tabs s).isSome = true → ∃ j : Nat, j < i ∧ o[j]? = some s := HOP.out x (List.mem_of_getElem? hx)
                replace HPI := Lib.hid HPI
                replace HPJ := Lib.hid HPJ
                have HRI : Hid (∃ A c, (rSl rStr).rel W3 S [.slice A1 x.ins.length ca] x.ins) := Lib.hid (by
                  obtain ⟨v, u, hv, _, _, h, _⟩ := HR3.out
                  simp only [List.cons.injEq, and_true] at hv
                  obtain ⟨_, _, _, rfl, _⟩ := hv
                  exact ⟨A1, ca, h⟩)
                clear hx hr hbw hk
                have HBx : Hid (Below w3.heap.size w3 W3) := Lib.hid (by rw [← e3]; exact HBr.out.alloc HBr.out.size _)
                go_wp2
                generalize wr.heap.size = n8 at *
                clear e3
                obtain ⟨_, _, HRI2⟩ := HRI.out
                replace HRI2 := Lib.hid HRI2
                clear HRI
                go_loopw [79] (fun i wi => ∃ m : Nat, m ≤ x.ins.length ∧ i = .int .i64 m ∧ Hid (Below W3.heap.size W3 wi)) (fun i _ => x.ins.length - (intOf i).toNat)
                case atStart => exact ⟨0, Nat.zero_le _, rfl, Lib.hid (Below.refl _ _)⟩
                case round =>
                  obtain ⟨m, hm, rfl, HBi⟩ := hrel
                  have HBK4 := Lib.hid (Rd.below HK3.out HBi.out)
                  have p0 := (HBi.out.cell (p := ⟨w.heap.size, 0, none⟩) (Nat.lt_of_lt_of_le hs0 HB3.out.size)).trans q0
                  have p1 := (HBi.out.cell (p := ⟨w.heap.size, 1, none⟩) (Nat.lt_of_lt_of_le hs0 HB3.out.size)).trans q1
                  by_cases hltm : m < x.ins.length
                  · obtain ⟨_, _, hA0, _, _, hby, hE⟩ := rSl.elems (Rd.below HRI2.out HBi.out)
                    have hil : x.ins.length ≤ 8796093022208 := by simp only [rStr] at hby; omega
                    obtain ⟨rfl, rfl⟩ : A1 = _ ∧ ca = _ := by injection hA0 with h1 h2 h3; exact ⟨h1, h3⟩
                    obtain ⟨q, off', s, rfl, hSq, hq, hy, hyl, h0⟩ := hE.str hltm
                    have him : (m : Int) < (x.ins.length : Int) := by omega
                    obtain ⟨tb, htb⟩ : ∃ y, tbOf (findT b.tabs s) = y := ⟨_, rfl⟩
                    obtain ⟨ft, hft⟩ : ∃ y, (findT b.tabs s).isSome = y := ⟨_, rfl⟩
                    have HT := Lib.hid htb
                    have HF2 := Lib.hid hft
                    have HY := Lib.hid (List.mem_of_getElem? hy)
                    clear hy hE hA0 htb hft hby
                    cases ft
                    · go_wp2_with (first | (go_at_call 21; go_must ((with_reducible refine (FindTable_at wr HBK4.out hyl HT.out HF2.out).mono ?_); rintro e w4 ⟨A5, c5, B5, d5, S5, rfl, hr5, hb4⟩; obtain ⟨W5, e5, HB5, HM5, r0⟩ : ∃ W5, w4.alloc (.cells #[.string ⟨tb.name.toArray⟩, .int .i64 tb.pol, .bool tb.comp, .slice A5 tb.ins.length c5, .slice B5 tb.rules.length d5] 25) = W5 ∧ Hid (Below W3.heap.size W3 W5) ∧ Hid (SMap Try.prog 9 W5 mc n f) ∧ W5.cell? ⟨n8, 0, none⟩ = some (.string ⟨x.name.toArray⟩) := ⟨_, rfl, Lib.hid (HBi.out.trans ((hb4.alloc hb4.size _).mono HBi.out.size)), Lib.hid (((HM3.out.below HBi.out).below hb4).alloc _), ((HBi.out.trans ((hb4.alloc hb4.size _).mono HBi.out.size)).cell (p := ⟨n8, 0, none⟩) hw3s).trans j0⟩; clear hr5 hb4)))
                      go_roundw
                      case rel => exact ⟨m + 1, by omega, by go_num, HB5⟩
                      case measure => simp [intOf]; omega
                    · obtain ⟨j, hj, hoj⟩ := HPJ.out s HY.out HF2.out
                      have HVS : Hid ((f s).getD (.int .i64 0) = .int .i64 ((j : Int) + 1)) := Lib.hid (by rw [HFA.out j s hoj]; rfl)
                      have HVT : Hid ((f x.name).getD (.int .i64 0) = .int .i64 ((pi : Int) + 1)) := Lib.hid (by rw [HFA.out pi x.name HPI.out]; rfl)
                      obtain ⟨vj, hvj⟩ : ∃ v : Int, (j : Int) + 1 = v := ⟨_, rfl⟩
                      obtain ⟨vi, hvi⟩ : ∃ v : Int, (pi : Int) + 1 = v := ⟨_, rfl⟩
                      rw [hvj] at HVS
                      rw [hvi] at HVT
                      have hq1 : (vj == 0) = false := beq_eq_false_iff_ne.2 (by omega)
                      have hq2 : decide (vi ≤ vj) = false := decide_eq_false (by omega)
                      clear hvj hvi hoj hj
                      go_wp2_with (first | (go_at_call 21; go_must ((with_reducible refine (FindTable_at wr HBK4.out hyl HT.out HF2.out).mono ?_); rintro e w4 ⟨A5, c5, B5, d5, S5, rfl, hr5, hb4⟩; obtain ⟨W5, e5, HB5, HM5, r0⟩ : ∃ W5, w4.alloc (.cells #[.string ⟨tb.name.toArray⟩, .int .i64 tb.pol, .bool tb.comp, .slice A5 tb.ins.length c5, .slice B5 tb.rules.length d5] 25) = W5 ∧ Hid (Below W3.heap.size W3 W5) ∧ Hid (SMap Try.prog 9 W5 mc n f) ∧ W5.cell? ⟨n8, 0, none⟩ = some (.string ⟨x.name.toArray⟩) := ⟨_, rfl, Lib.hid (HBi.out.trans ((hb4.alloc hb4.size _).mono HBi.out.size)), Lib.hid (((HM3.out.below HBi.out).below hb4).alloc _), ((HBi.out.trans ((hb4.alloc hb4.size _).mono HBi.out.size)).cell (p := ⟨n8, 0, none⟩) hw3s).trans j0⟩; clear hr5 hb4)) | (at_lookup; (refine wpList_lookup_txt (by rfl) (.tmp 91) (.tmp 92) 62 rfl Try.underlying62 Try.underlying9 (zeroI _) rfl HM5.out rfl hyl HVS.out ?_)) | (at_lookup; (refine wpList_lookup_txt (by rfl) (.tmp 96) (.tmp 97) 62 rfl Try.underlying62 Try.underlying9 (zeroI _) rfl HM5.out rfl hyl HVS.out ?_)) | (at_lookup; (refine wpList_lookup_txt (by rfl) (.tmp 99) (.tmp 101) 62 rfl Try.underlying62 Try.underlying9 (zeroI _) rfl HM5.out rfl hxl HVT.out ?_)))
                      go_roundw
                      case rel => exact ⟨m + 1, by omega, by go_num, HB5⟩
                      case measure => simp [intOf]; omega
                  · go_wp2
                    go_roundw
                    case rel => exact ⟨k + 1, by omega, by go_num, Lib.hid (HBx.out.trans (HBi.out.mono HBx.out.size))⟩
                    case measure => simp [intOf]; omega
              · have f1 := (HB.out.cell (p := ⟨w.heap.size, 1, none⟩) hs0).trans c1
                have hq : ((o.length : Int) == (b.tabs.length : Int)) = true := by rw [HOL.out]; simp
                have hq2 : (o.length == b.tabs.length) = true := by rw [HOL.out]; simp
                go_wp2
                go_ret
                exact ⟨rfl, HB0.out.trans (HB.out.mono HB0.out.size)⟩

end Go.Proofs.Ytlopccnehgolnab
