
/- BookAsks: the walk. -/
import Derived.Test.YtlopccnehgolnabGreatDoorRefAk
import Derived.Test.YtlopccnehgolnabGreatDoorGrU
import Derived.Test.YtlopccnehgolnabGreatDoorGrY
import Derived.Test.YtlopccnehgolnabGreatDoorGrW
import Derived.Test.YtlopccnehgolnabGreatDoorGrG
namespace Go.Proofs.YtlopccnehgolnabGreatDoor
open Go.RowKit Rb

theorem Ask_a {S T : Nat → Prop} {bs : List Value} {b : Bk} {u : Value} {ns : List Int} {l : List An} {r : Int} (w : World) (hl : rBk.rel w S bs b) (hn : (rSl rInt).rel w T [u] ns) (h : askB b ns = (l, r)) :
    Calls Tryz.prog 32 #[.agg bs.toArray, u] w fun e w' => ∃ A c S', e = .returned (.tuple #[.slice A l.length c, .int .i64 r]) ∧ (rSl rAn).rel w' S' [.slice A l.length c] l ∧ Below w.heap.size w w' := by
  refine (AskBook_any w hl hn).mono ?_
  rintro e w' ⟨z, S', he, hz, hb⟩
  rw [h] at he hz
  obtain ⟨A, c, rfl, _⟩ := rSl.elems hz
  exact ⟨A, c, S', he, hz, hb⟩
theorem check_code {b : Bk} {n : Int} (h : (checkB b).2.2 = n) (hn : n = 0 ∨ n = 6 ∨ n = 8 ∨ n = 7) : b.tabs.length ≤ 4 ∧ tabsOk b = true := by
  unfold checkB at h
  split at h
  · simp only at h; omega
  · split at h
    · simp only at h; omega
    · split at h
      · simp only at h; omega
      · rename_i h0 h1 h2
        exact ⟨by omega, by simpa using h2⟩
theorem Order_m {S : Nat → Prop} {bs : List Value} {b : Bk} {f : Bool} {o : List Txt} (w : World) (hl : rBk.rel w S bs b) (hf : (orderB b).isSome = f) (ho : (orderB b).getD [] = o) :
    Calls Tryz.prog 34 #[.agg bs.toArray] w fun e w' => ∃ A c S', e = .returned (.tuple #[.slice A o.length c, .bool f]) ∧ (rSl rStr).rel w' S' [.slice A o.length c] o ∧ Below w.heap.size w w' := by
  refine (Order_any w hl).mono ?_
  rintro e w' ⟨z, he, hz, hb⟩
  rw [hf] at he
  rw [ho] at hz
  obtain ⟨A, c, rfl, _⟩ := rSl.elems hz
  exact ⟨A, c, _, he, hz, hb⟩
theorem OrderOf_m {S : Nat → Prop} {bs : List Value} {b : Bk} {f : Bool} {o : List Txt} (w : World) (hl : rBk.rel w S bs b) (hn : (b.tabs.map (·.name)).Nodup) (h4 : b.tabs.length ≤ 4) (hne : ∀ t ∈ b.tabs, t.name ≠ []) (hf : (orderB b).isSome = f) (ho : (orderB b).getD [] = o) :
    Calls Tryz.prog 35 #[.agg bs.toArray] w fun e w' => ∃ A c S', e = .returned (.tuple #[.slice A o.length c, .bool f]) ∧ (rSl rStr).rel w' S' [.slice A o.length c] o ∧ Below w.heap.size w w' := by
  refine (OrderOf_any w hl hn h4 hne).mono ?_
  rintro e w' ⟨z, S', he, hz, hb⟩
  rw [hf] at he
  rw [ho] at hz
  obtain ⟨A, c, rfl, _⟩ := rSl.elems hz
  exact ⟨A, c, S', he, hz, hb⟩

set_option maxRecDepth 100000 in
set_option maxHeartbeats 3200000 in
theorem BookAsks_walk {S T : Nat → Prop} {cs : List Value} {b : Bk} {u : Value} {ns : List Int} (w : World) (hl : rBk.rel w S cs b) (hn : (rSl rInt).rel w T [u] ns) (hj : ∀ t ∈ b.tabs, JoinFits t.ins) :
    Calls Tryz.prog 7 #[.agg cs.toArray, u] w fun e w' => e = .returned (.bool true) ∧ Below w.heap.size w w' := by
  have hl' := hl
  have hn' := hn
  obtain ⟨v0, u0, rfl, hd, htb⟩ := hl
  obtain ⟨A, c, rfl, _⟩ := rSl.elems hd
  obtain ⟨B, d, rfl, _⟩ := rSl.elems htb
  obtain ⟨AN, cN, rfl, hn1, hn2, hn3, hnE⟩ := rSl.elems hn
  obtain ⟨W0, e0, HB0, c0, c1, hs0, HBK, HNS⟩ : ∃ W0, w.alloc (.cells #[.slice A b.doms.length c, .slice B b.tabs.length d] 33) = W0 ∧ Hid (Below w.heap.size w W0) ∧ W0.cell? ⟨w.heap.size, 0, none⟩ = some (.slice A b.doms.length c) ∧ W0.cell? ⟨w.heap.size, 1, none⟩ = some (.slice B b.tabs.length d) ∧ w.heap.size < W0.heap.size ∧ Hid (rBk.rel W0 S [.slice A b.doms.length c, .slice B b.tabs.length d] b) ∧ Hid ((rSl rInt).rel W0 T [.slice AN ns.length cN] ns) :=
    ⟨_, rfl, Lib.hid ((Below.refl _ _).alloc (Nat.le_refl _) _), World.cell?_alloc_new _ _ _ _, World.cell?_alloc_new _ _ _ _, by simp, Lib.hid (Rd.alloc hl' _), Lib.hid (Rd.alloc hn' _)⟩
  have HEN : Hid (Elems rInt W0 T AN ns) := Lib.hid (by rw [← e0]; exact hnE.keep (.alloc _))
  obtain ⟨⟨nm, at_, er⟩, hck⟩ : ∃ x, checkB b = x := ⟨_, rfl⟩
  obtain ⟨⟨la, ra⟩, hak⟩ : ∃ x, askB b ns = x := ⟨_, rfl⟩
  obtain ⟨f, hf⟩ : ∃ x, (orderB b).isSome = x := ⟨_, rfl⟩
  obtain ⟨o, ho⟩ : ∃ x, (orderB b).getD [] = x := ⟨_, rfl⟩
  have HCK := Lib.hid hck
  have HAK := Lib.hid hak
  have HF := Lib.hid hf
  have HO := Lib.hid ho
  have HJ := Lib.hid hj
  have HS0 := Lib.hid hs0
  have HC0 := Lib.hid c0
  have HC1 := Lib.hid c1
  have HBYN : Hid ((([] : List Int).length + ns.length) * rInt.bytes ≤ 140737488355328) := Lib.hid (by simpa using hn3)
  have hrr : (ra != ra) = false := by simp
  clear hl' hn' hn hd htb hck hak hf ho hj hs0 hnE hn3
  go_enter Tryz.func7, Tryz.ntmps7
  go_wp2_with (first
    | (go_at_call 27; go_must ((with_reducible refine (CopyBook_any W0 HBK.out).mono ?_); rintro e w1 ⟨v1, u1, rfl, hr1, hb1⟩; obtain ⟨_, _, hcs, hi1, ht1⟩ := id hr1; simp only [List.cons.injEq, and_true] at hcs; obtain ⟨rfl, rfl⟩ := hcs; obtain ⟨A1, c1', rfl, _⟩ := rSl.elems hi1; obtain ⟨B1, dd1, rfl, _⟩ := rSl.elems ht1; obtain ⟨W2, e2, HB2, HC2, HQ2, f0, f1, hs2⟩ : ∃ W2, w1.alloc (.cells #[.slice A1 b.doms.length c1', .slice B1 b.tabs.length dd1] 33) = W2 ∧ Hid (Below W0.heap.size W0 W2) ∧ Hid (rBk.rel W2 (Up (fun _ => False) W0.heap.size) [.slice A1 b.doms.length c1', .slice B1 b.tabs.length dd1] b) ∧ Hid (W0.heap.size ≤ w1.heap.size) ∧ W2.cell? ⟨w1.heap.size, 0, none⟩ = some (.slice A1 b.doms.length c1') ∧ W2.cell? ⟨w1.heap.size, 1, none⟩ = some (.slice B1 b.tabs.length dd1) ∧ w1.heap.size < W2.heap.size := ⟨_, rfl, Lib.hid (hb1.alloc hb1.size _), Lib.hid (Rd.alloc hr1 _), Lib.hid hb1.size, World.cell?_alloc_new _ _ _ _, World.cell?_alloc_new _ _ _ _, by simp⟩; have HF0 := Lib.hid f0; have HF1 := Lib.hid f1; have HS2 := Lib.hid hs2; clear hr1 hb1 hi1 ht1 hs2)))
  clear e0 e2 c0 c1
  have HE2 : Hid (Elems rInt W2.drew T AN ns) := Lib.hid (HEN.out.keep fun b _ hb => HB2.out.block b hb)
  go_region_held3 (fun w' => w'.cell? ⟨w1.heap.size, 0, none⟩ = some (.slice A1 b.doms.length c1') ∧ w'.cell? ⟨w1.heap.size, 1, none⟩ = some (.slice B1 b.tabs.length dd1)) (go_keep) (first | ((go_at_call 12; (with_reducible refine (Ask_at w8 HK8.out HN8.out HAK.out).mono ?_); rintro e w3 ⟨Ak, ck, Sk, rfl, hk3, hb3⟩; have HB3 := Lib.hid (HB8.out.trans (hb3.mono HB8.out.size)); have HK3 := Lib.hid hk3; have HR3 := Lib.hid (HR8.out.trans (hb3.mono HR8.out.size)); have d0 := (HB3.out.cell (p := ⟨w.heap.size, 0, none⟩) HS0.out).trans HC0.out; have d1 := (HB3.out.cell (p := ⟨w.heap.size, 1, none⟩) HS0.out).trans HC1.out; have q0 := (HR3.out.cell (p := ⟨w1.heap.size, 0, none⟩) HS2.out).trans HF0.out; have q1 := (HR3.out.cell (p := ⟨w1.heap.size, 1, none⟩) HS2.out).trans HF1.out; clear hk3 hb3)) | ((refine step_append_many (R := rInt) (v := .slice none 0 0) (S0 := fun _ => False) el_I rfl (.const (.slice none 0 0)) (.tmp 22) rfl rfl (by exact Own.nil rInt 3 W2.drew W2.heap.size (fun _ => False)) rfl (ys := ns) (S2 := T) (fun _ => False) rfl (by exact HE2.out) (fun _ _ h => h) (fun _ h => h.elim) (by exact HBYN.out) (by exact Nat.le_refl _) ?_; intro v8 w8 hown8 hb8 _ _; replace hown8 : Own rInt 3 w8 W2.heap.size (fun _ => False) v8 ns := hown8; obtain ⟨A8, l8, rfl⟩ := hown8.value; have HN8 := Lib.hid (hown8.rel (by decide)); have HR8 : Hid (Below W2.heap.size W2 w8) := Lib.hid (⟨hb8.os, hb8.tape, hb8.output, hb8.size, hb8.block⟩); have HB8 := Lib.hid (HB2.out.trans (HR8.out.mono HB2.out.size)); have HK8 := Lib.hid (Rd.below HC2.out HR8.out); have g0 := (HR8.out.cell (p := ⟨w1.heap.size, 0, none⟩) HS2.out).trans HF0.out; have g1 := (HR8.out.cell (p := ⟨w1.heap.size, 1, none⟩) HS2.out).trans HF1.out; clear hown8 hb8)))
  have HE1 : Hid (w1.heap.size < W2.heap.size) := HS2
  clear f0 f1
  go_wp2_with (first
    | (go_at_call 32; go_must ((with_reducible refine (Ask_a w3 (Rd.below HBK.out HB3.out) (Rd.below HNS.out HB3.out) HAK.out).mono ?_); rintro e w4 ⟨Am, cm, Sm, rfl, hk4, hb4⟩; have HB4 := Lib.hid (HB3.out.trans (hb4.mono HB3.out.size)); have HR4 := Lib.hid (HR3.out.trans (hb4.mono HR3.out.size)); have HSN := Lib.hid (SameAnswers_same w4 (Rd.below HK3.out hb4) hk4); clear hk4 hb4)))
  have HCL : Hid (∀ w', Below w4.heap.size w4 w' → w'.cell? ⟨w.heap.size, 0, none⟩ = some (.slice A b.doms.length c) ∧ w'.cell? ⟨w.heap.size, 1, none⟩ = some (.slice B b.tabs.length d) ∧ w'.cell? ⟨w1.heap.size, 0, none⟩ = some (.slice A1 b.doms.length c1') ∧ w'.cell? ⟨w1.heap.size, 1, none⟩ = some (.slice B1 b.tabs.length dd1)) := Lib.hid fun w' hb => by
    have hbb := HB4.out.trans (hb.mono HB4.out.size)
    have hbc := HR4.out.trans (hb.mono HR4.out.size)
    exact ⟨(hbb.cell (p := ⟨w.heap.size, 0, none⟩) HS0.out).trans HC0.out, (hbb.cell (p := ⟨w.heap.size, 1, none⟩) HS0.out).trans HC1.out, (hbc.cell (p := ⟨w1.heap.size, 0, none⟩) HS2.out).trans HF0.out, (hbc.cell (p := ⟨w1.heap.size, 1, none⟩) HS2.out).trans HF1.out⟩
  have HSB := Lib.hid fun w' (hb : Below w4.heap.size w4 w') => SameBook_same w' (Rd.below (Rd.below HC2.out HR4.out) hb) (Rd.below (Rd.below HBK.out HB4.out) hb) HJ.out
  have HCB := Lib.hid fun w' (hb : Below w4.heap.size w4 w') => CheckBook_at w' (Rd.below (Rd.below HBK.out HB4.out) hb) HCK.out
  have HOR := Lib.hid fun w' (hb : Below w4.heap.size w4 w') => Order_m w' (Rd.below (Rd.below HC2.out HR4.out) hb) HF.out HO.out
  have HFIN : Hid (∀ w', Below w4.heap.size w4 w' → Below w.heap.size w w') := Lib.hid fun w' hb => HB0.out.trans ((HB4.out.trans (hb.mono HB4.out.size)).mono HB0.out.size)
  clear d0 d1 q0 q1
  by_cases her : er = 0 ∨ er = 6 ∨ er = 8 ∨ er = 7
  · have HCC := Lib.hid (check_code (b := b) (n := er) (by rw [HCK.out]) her)
    have HOF := Lib.hid fun w' (hb : Below w4.heap.size w4 w') => OrderOf_m w' (Rd.below (Rd.below HBK.out HB4.out) hb) (tabsOk_nodup HCC.out.2) HCC.out.1 (fun t ht => goodT_ne (tabsOk_good HCC.out.2 t ht)) HF.out HO.out
    have hoo : ((o.length : Int) != (o.length : Int)) = false := by simp
    have hff : (f != f) = false := by simp
    rcases her with rfl | rfl | rfl | rfl
    all_goals
      go_wp2_with (first
    | (go_at_call 33; go_must ((with_reducible refine HSN.out.mono ?_); rintro e w7 ⟨rfl, hb7⟩; have HB7 := Lib.hid hb7; obtain ⟨a0, a1, b0, b1⟩ := HCL.out _ hb7; clear hb7))
    | (go_at_call 30; go_must ((with_reducible refine (HSB.out w7 HB7.out).mono ?_); rintro e w9 ⟨rfl, hb9⟩; have HB9 := Lib.hid (HB7.out.trans (hb9.mono HB7.out.size)); clear hb9 a0 a1 b0 b1))
    | (go_at_call 31; go_must ((with_reducible refine (booksLaw_any w9).mono ?_); rintro e w11 ⟨rfl, hb11⟩; have HB11 := Lib.hid (HB9.out.trans (hb11.mono HB9.out.size)); obtain ⟨a0, a1, _, _⟩ := HCL.out _ HB11.out; clear hb11))
    | (go_at_call 29; go_must ((with_reducible refine (HCB.out w11 HB11.out).mono ?_); rintro e w12 ⟨An, cn, Sn, rfl, _, hb12⟩; have HB12 := Lib.hid (HB11.out.trans (hb12.mono HB11.out.size)); obtain ⟨_, _, b0, b1⟩ := HCL.out _ HB12.out; clear hb12 a0 a1))
    | (go_at_call 34; go_must ((with_reducible refine (HOR.out w12 HB12.out).mono ?_); rintro e w13 ⟨Ao, co, So, rfl, ho13, hb13⟩; have HB13 := Lib.hid (HB12.out.trans (hb13.mono HB12.out.size)); have HO13 := Lib.hid ho13; obtain ⟨a0, a1, _, _⟩ := HCL.out _ HB13.out; clear hb13 ho13 b0 b1))
    | (go_at_call 35; go_must ((with_reducible refine (HOF.out w13 HB13.out).mono ?_); rintro e w14 ⟨Ap, cp, Sp, rfl, ho14, hb14⟩; have HB14 := Lib.hid (HB13.out.trans (hb14.mono HB13.out.size)); have HO14 := Lib.hid ho14; have HO134 := Lib.hid (Rd.below HO13.out hb14); clear hb14 ho14 a0 a1)))
      obtain ⟨_, _, hA0, _, _, hbo, hE⟩ := rSl.elems HO134.out
      obtain ⟨rfl, rfl⟩ : Ao = _ ∧ co = _ := by injection hA0 with h1 h2 h3; exact ⟨h1, h3⟩
      obtain ⟨_, _, hA1, _, _, _, hE'⟩ := rSl.elems HO14.out
      obtain ⟨rfl, rfl⟩ : Ap = _ ∧ cp = _ := by injection hA1 with h1 h2 h3; exact ⟨h1, h3⟩
      have hlo : o.length ≤ 8796093022208 := by simp only [rStr] at hbo; omega
      have HE := Lib.hid hE
      have HE' := Lib.hid hE'
      clear hA0 hA1 hbo hE hE' hoo hff hrr
      go_loopw [94] (fun i wr => ∃ k : Nat, k ≤ o.length ∧ i = .int .i64 k ∧ Hid (Below w14.heap.size w14 wr)) (fun i _ => o.length - (intOf i).toNat)
      case atStart => exact ⟨0, Nat.zero_le _, rfl, Lib.hid (Below.refl _ _)⟩
      case round =>
        obtain ⟨k, hk, rfl, HB⟩ := hrel
        by_cases hlt : k < o.length
        · obtain ⟨bB, off, x, rfl, _, hbB, hx, _, g0⟩ := HE.out.str hlt
          obtain ⟨bC, off2, y, rfl, _, hbC, hy, _, h0⟩ := HE'.out.str hlt
          obtain rfl : x = y := by rw [hx] at hy; exact Option.some.inj hy
          rw [← HB.out.cell (p := ⟨bB, _, none⟩) hbB] at g0
          rw [← HB.out.cell (p := ⟨bC, _, none⟩) hbC] at h0
          have hik : (k : Int) < (o.length : Int) := by omega
          have hb2 : bB < wr.heap.size := Nat.lt_of_lt_of_le hbB HB.out.size
          have hb3 : bC < wr.heap.size := Nat.lt_of_lt_of_le hbC HB.out.size
          have hss : (x == x) = true := by simp
          clear hx hy
          go_wp2
          refine wp_region_quiet_below (by kernel_rfl) (by kernel_rfl) ?_
          repeat (go_big_quiet_step (fail))
          refine wpQuiet_nil ?_
          intro _ hw'
          obtain ⟨⟨dq, osq⟩, hw''⟩ := hw'
          subst hw''
          go_wp2
          go_roundw
          case rel => exact ⟨k + 1, by omega, by go_num, Lib.hid (HB.out.trans ((below_regrown _ _ _).mono HB.out.size))⟩
          case measure => simp [intOf]; omega
        · have hij : ¬ (k : Int) < (o.length : Int) := by omega
          go_wp2
          go_ret
          exact ⟨rfl, HFIN.out _ (HB14.out.trans (HB.out.mono HB14.out.size))⟩
  · have hz0 : (er != 0) = true := by simp; omega
    have hz1 : (er != 6) = true := by simp; omega
    have hz2 : (er != 8) = true := by simp; omega
    have hz3 : (er != 7) = true := by simp; omega
    have hy0 : (er == 0) = false := by simp; omega
    have hy1 : (er == 6) = false := by simp; omega
    have hy2 : (er == 8) = false := by simp; omega
    have hy3 : (er == 7) = false := by simp; omega
    clear her
    go_wp2_with (first
    | (go_at_call 33; go_must ((with_reducible refine HSN.out.mono ?_); rintro e w7 ⟨rfl, hb7⟩; have HB7 := Lib.hid hb7; obtain ⟨a0, a1, b0, b1⟩ := HCL.out _ hb7; clear hb7))
    | (go_at_call 30; go_must ((with_reducible refine (HSB.out w7 HB7.out).mono ?_); rintro e w9 ⟨rfl, hb9⟩; have HB9 := Lib.hid (HB7.out.trans (hb9.mono HB7.out.size)); clear hb9 a0 a1 b0 b1))
    | (go_at_call 31; go_must ((with_reducible refine (booksLaw_any w9).mono ?_); rintro e w11 ⟨rfl, hb11⟩; have HB11 := Lib.hid (HB9.out.trans (hb11.mono HB9.out.size)); obtain ⟨a0, a1, _, _⟩ := HCL.out _ HB11.out; clear hb11))
    | (go_at_call 29; go_must ((with_reducible refine (HCB.out w11 HB11.out).mono ?_); rintro e w12 ⟨An, cn, Sn, rfl, _, hb12⟩; have HB12 := Lib.hid (HB11.out.trans (hb12.mono HB11.out.size)); obtain ⟨_, _, b0, b1⟩ := HCL.out _ HB12.out; clear hb12 a0 a1)))
    go_ret
    exact ⟨rfl, HFIN.out _ HB12.out⟩

end Go.Proofs.YtlopccnehgolnabGreatDoor
