/- SpanSplits returns true, for every two lists of ranges and every number. No condition. -/
import Derived.Test.YtlopccnehgolnaaSpanNorms
import Derived.Test.YtlopccnehgolnaaPairL
namespace Go.Proofs.Ytlopccnehgolnaa
open Go.RowKit Rb

/-- How many numbers a set has, counted one by one. -/
theorem sizeN_cnt : ∀ {l : List Rg} {a : Int}, GoodFrom a l → -1000002 ≤ a → sizeN l = (cnt (hasL l) (-1000000) 2000001 : Nat)
  | [], _, _, _ => by
    have : cnt (hasL []) (-1000000) 2000001 = 0 := (cnt_congr _ (fun n => hasL_nil n) _).trans (cnt_none _ _)
    rw [this]; rfl
  | r :: l, a, h, ha => by
    have hg : a + 1 < r.1 ∧ r.1 ≤ r.2 ∧ -MX ≤ r.1 ∧ r.2 ≤ MX := GoodFrom.his h r (by simp)
    unfold MX at hg
    have ih := sizeN_cnt h.tail (by omega)
    have h1 : cnt (hasL (r :: l)) (-1000000) 2000001 = cnt (inR r) (-1000000) 2000001 + cnt (hasL l) (-1000000) 2000001 := by
      rw [← cnt_or _ fun n hn => by
        have h1 := (inR_iff r n).1 hn
        rw [Bool.eq_false_iff]; intro h2
        have := h.tail.above n h2
        omega]
      exact cnt_congr _ (fun n => hasL_cons r l n) _
    have h2 := cnt_rg r (-1000000) hg.2.1 hg.2.2.1 2000001
    rw [if_neg (by omega)] at h2
    rw [sizeN_cons, ih, h1]
    push_cast
    rw [h2]
    split <;> omega

theorem sizeN_split {a b : List Rg} (ga : GoodS a) : sizeN (bothS a b) + sizeN (lessS a b) = sizeN a := by
  rw [sizeN_cnt (bothS_good a b).1 (by unfold MX; omega), sizeN_cnt (lessS_good a b).1 (by unfold MX; omega), sizeN_cnt ga (by unfold MX; omega)]
  have : cnt (hasL a) (-1000000) 2000001 = cnt (hasL (bothS a b)) (-1000000) 2000001 + cnt (hasL (lessS a b)) (-1000000) 2000001 := by
    rw [← cnt_or _ fun n hn => by
      rw [bothS_has ga] at hn; rw [lessS_has ga]
      cases h1 : hasL a n <;> cases h2 : hasL b n <;> simp_all]
    exact cnt_congr _ (fun n => by rw [bothS_has ga, lessS_has ga]; cases hasL a n <;> cases hasL b n <;> rfl) _
  rw [this]; push_cast; rfl

set_option maxRecDepth 100000 in
set_option maxHeartbeats 3200000 in
theorem SpanSplits_walk {S T : Nat → Prop} {v u : Value} {a b : List Rg} (n : Int) (w : World) (hl : rRgs.rel w S [v] a) (hm : rRgs.rel w T [u] b) :
    Calls Try.prog 8 #[v, u, .int .i64 n] w fun e w' => e = .returned (.bool true) ∧ Below w.heap.size w w' := by
  obtain ⟨A, c, rfl, _⟩ := rRgs.elems hl
  obtain ⟨B, d, rfl, _⟩ := rRgs.elems hm
  have HL := Lib.hid hl
  have HM := Lib.hid hm
  have HB := Lib.hid (Below.refl w.heap.size w)
  clear hl hm
  have hx : isSet (bothS a b) = true := (isSet_iff _).2 (bothS_good a b).1
  have hy : isSet (lessS a b) = true := (isSet_iff _).2 (lessS_good a b).1
  have hs : isSet a = false ∨ (isSet a = true ∧ isSet b = false) ∨ (isSet a = true ∧ isSet b = true ∧ Hid (GoodS a ∧ GoodS b)) := by
    by_cases h : isSet a = true
    · by_cases h' : isSet b = true
      · exact .inr (.inr ⟨h, h', Lib.hid ⟨(isSet_iff _).1 h, (isSet_iff _).1 h'⟩⟩)
      · exact .inr (.inl ⟨h, by simpa using h'⟩)
    · exact .inl (by simpa using h)
  rcases hs with s1 | ⟨s1, s2⟩ | ⟨s1, s2, HG⟩
  · go_enter Try.func8, Try.ntmps8
    go_wp2_with (first
      | (go_at_call 21; ((first | with_reducible refine (Good_any _ HL.out).mono ?_ | with_reducible refine (Good_any _ HM.out).mono ?_ | with_reducible refine (Good_any _ HX.out).mono ?_ | with_reducible refine (Good_any _ HY.out).mono ?_); rintro e w1 ⟨rfl, hb1⟩; (try replace HL := Lib.hid (Rd.below HL.out hb1)); (try replace HM := Lib.hid (Rd.below HM.out hb1)); (try replace HX := Lib.hid (Rd.below HX.out hb1)); (try replace HY := Lib.hid (Rd.below HY.out hb1)); (try replace HZ := Lib.hid (Rd.below HZ.out hb1)); replace HB := Lib.hid (HB.out.trans (hb1.mono HB.out.size)); clear hb1))
      | (go_at_call 29; ((with_reducible refine (spansKeep_any _).mono ?_); rintro e w1 ⟨rfl, hb1⟩; (try replace HL := Lib.hid (Rd.below HL.out hb1)); (try replace HM := Lib.hid (Rd.below HM.out hb1)); (try replace HX := Lib.hid (Rd.below HX.out hb1)); (try replace HY := Lib.hid (Rd.below HY.out hb1)); (try replace HZ := Lib.hid (Rd.below HZ.out hb1)); replace HB := Lib.hid (HB.out.trans (hb1.mono HB.out.size)); clear hb1)))
    go_ret
    exact ⟨rfl, HB.out⟩
  · go_enter Try.func8, Try.ntmps8
    go_wp2_with (first
      | (go_at_call 21; ((first | with_reducible refine (Good_any _ HL.out).mono ?_ | with_reducible refine (Good_any _ HM.out).mono ?_ | with_reducible refine (Good_any _ HX.out).mono ?_ | with_reducible refine (Good_any _ HY.out).mono ?_); rintro e w1 ⟨rfl, hb1⟩; (try replace HL := Lib.hid (Rd.below HL.out hb1)); (try replace HM := Lib.hid (Rd.below HM.out hb1)); (try replace HX := Lib.hid (Rd.below HX.out hb1)); (try replace HY := Lib.hid (Rd.below HY.out hb1)); (try replace HZ := Lib.hid (Rd.below HZ.out hb1)); replace HB := Lib.hid (HB.out.trans (hb1.mono HB.out.size)); clear hb1))
      | (go_at_call 29; ((with_reducible refine (spansKeep_any _).mono ?_); rintro e w1 ⟨rfl, hb1⟩; (try replace HL := Lib.hid (Rd.below HL.out hb1)); (try replace HM := Lib.hid (Rd.below HM.out hb1)); (try replace HX := Lib.hid (Rd.below HX.out hb1)); (try replace HY := Lib.hid (Rd.below HY.out hb1)); (try replace HZ := Lib.hid (Rd.below HZ.out hb1)); replace HB := Lib.hid (HB.out.trans (hb1.mono HB.out.size)); clear hb1)))
    go_ret
    exact ⟨rfl, HB.out⟩
  have ga := HG.out.1
  have HH : Hid (∀ (S : Nat → Prop) (v : Value) (w : World), rRgs.rel w S [v] (bothS a b) → Calls Try.prog 23 #[v, .int .i64 n] w fun e w' => e = .returned (.bool (hasL a n && hasL b n)) ∧ Below w.heap.size w w') := Lib.hid (fun S v w h => by rw [← bothS_has ga]; exact Has_any n w h)
  have HK : Hid (∀ (S : Nat → Prop) (v : Value) (w : World), rRgs.rel w S [v] (lessS a b) → Calls Try.prog 23 #[v, .int .i64 n] w fun e w' => e = .returned (.bool (hasL a n && !hasL b n)) ∧ Below w.heap.size w w') := Lib.hid (fun S v w h => by rw [← lessS_has ga]; exact Has_any n w h)
  have HC : Hid (∀ (S T : Nat → Prop) (v u : Value) (w : World), rRgs.rel w S [v] b → rRgs.rel w T [u] a → Calls Try.prog 30 #[v, u] w fun e w' => ∃ x, e = .returned x ∧ Own rRg 72 w' w.heap.size (fun _ => False) x (bothS a b) ∧ Below w.heap.size w w') := Lib.hid (fun S T v u w h h' => by rw [bothS_comm]; exact Both_any w h h' HG.out.2 HG.out.1)
  obtain ⟨zx, ex⟩ : ∃ z, sizeN (bothS a b) = z := ⟨_, rfl⟩
  obtain ⟨zy, ey⟩ : ∃ z, sizeN (lessS a b) = z := ⟨_, rfl⟩
  have hz := sizeN_split (b := b) ga
  have hzx : 0 ≤ zx := by rw [← ex, sizeN_cnt (bothS_good a b).1 (by unfold MX; omega)]; omega
  have hzy : 0 ≤ zy := by rw [← ey, sizeN_cnt (lessS_good a b).1 (by unfold MX; omega)]; omega
  have hza : sizeN a ≤ 2000001 := by
    have h := sizeN_cnt ga (by unfold MX; omega)
    have h2 : ∀ (p : Int → Bool) (b : Int) (m : Nat), cnt p b m ≤ m := fun p b m => by
      induction m with
      | zero => exact Nat.le_refl _
      | succ m ih => simp only [cnt]; split <;> omega
    have := h2 (hasL a) (-1000000) 2000001
    omega
  have HS : Hid ((∀ (S : Nat → Prop) (v : Value) (w : World), rRgs.rel w S [v] (bothS a b) → Calls Try.prog 25 #[v] w fun e w' => e = .returned (.int .i64 zx) ∧ Below w.heap.size w w') ∧ (∀ (S : Nat → Prop) (v : Value) (w : World), rRgs.rel w S [v] (lessS a b) → Calls Try.prog 25 #[v] w fun e w' => e = .returned (.int .i64 zy) ∧ Below w.heap.size w w') ∧ (∀ (S : Nat → Prop) (v : Value) (w : World), rRgs.rel w S [v] a → Calls Try.prog 25 #[v] w fun e w' => e = .returned (.int .i64 (zx + zy)) ∧ Below w.heap.size w w')) := Lib.hid
    ⟨fun S v w h => by have := Size_any w h; rw [normS_id (bothS_good a b).1, ex] at this; exact this, fun S v w h => by have := Size_any w h; rw [normS_id (lessS_good a b).1, ey] at this; exact this,
     fun S v w h => by have := Size_any w h; rw [normS_id ga, ← hz, ex, ey] at this; exact this⟩
  have hwz : IntKind.i64.wrap (zx + zy) = zx + zy := IntWalk.i64_in _ (by omega)
  clear hz hza ex ey ga
  cases ha : hasL a n
  all_goals cases hb : hasL b n
  all_goals
    rw [ha, hb] at HH HK
    go_enter Try.func8, Try.ntmps8
    go_wp2_with (first
      | (go_at_call 21; ((first | with_reducible refine (Good_any _ HL.out).mono ?_ | with_reducible refine (Good_any _ HM.out).mono ?_ | with_reducible refine (Good_any _ HX.out).mono ?_ | with_reducible refine (Good_any _ HY.out).mono ?_); rintro e w1 ⟨rfl, hb1⟩; (try replace HL := Lib.hid (Rd.below HL.out hb1)); (try replace HM := Lib.hid (Rd.below HM.out hb1)); (try replace HX := Lib.hid (Rd.below HX.out hb1)); (try replace HY := Lib.hid (Rd.below HY.out hb1)); (try replace HZ := Lib.hid (Rd.below HZ.out hb1)); replace HB := Lib.hid (HB.out.trans (hb1.mono HB.out.size)); clear hb1))
      | (go_at_call 29; ((with_reducible refine (spansKeep_any _).mono ?_); rintro e w1 ⟨rfl, hb1⟩; (try replace HL := Lib.hid (Rd.below HL.out hb1)); (try replace HM := Lib.hid (Rd.below HM.out hb1)); (try replace HX := Lib.hid (Rd.below HX.out hb1)); (try replace HY := Lib.hid (Rd.below HY.out hb1)); (try replace HZ := Lib.hid (Rd.below HZ.out hb1)); replace HB := Lib.hid (HB.out.trans (hb1.mono HB.out.size)); clear hb1))
      | (go_at_call 30; ((with_reducible refine (Both_any _ HL.out HM.out HG.out.1 HG.out.2).mono ?_); rintro e w1 ⟨uu, rfl, hoo, hb1⟩; (try replace HL := Lib.hid (Rd.below HL.out hb1)); (try replace HM := Lib.hid (Rd.below HM.out hb1)); (try replace HX := Lib.hid (Rd.below HX.out hb1)); (try replace HY := Lib.hid (Rd.below HY.out hb1)); (try replace HZ := Lib.hid (Rd.below HZ.out hb1)); replace HB := Lib.hid (HB.out.trans (hb1.mono HB.out.size)); obtain ⟨AA3, cc3, rfl⟩ := hoo.value; have HX := Lib.hid (show rRgs.rel _ _ _ _ from hoo.rel (by decide)); clear hoo; clear hb1))
      | (go_at_call 30; ((with_reducible refine (HC.out _ _ _ _ _ HM.out HL.out).mono ?_); rintro e w1 ⟨uu, rfl, hoo, hb1⟩; (try replace HL := Lib.hid (Rd.below HL.out hb1)); (try replace HM := Lib.hid (Rd.below HM.out hb1)); (try replace HX := Lib.hid (Rd.below HX.out hb1)); (try replace HY := Lib.hid (Rd.below HY.out hb1)); (try replace HZ := Lib.hid (Rd.below HZ.out hb1)); replace HB := Lib.hid (HB.out.trans (hb1.mono HB.out.size)); obtain ⟨AA4, cc4, rfl⟩ := hoo.value; have HZ := Lib.hid (show rRgs.rel _ _ _ _ from hoo.rel (by decide)); clear hoo; clear hb1))
      | (go_at_call 32; ((with_reducible refine (Less_any _ HL.out HM.out HG.out.1 HG.out.2).mono ?_); rintro e w1 ⟨uu, rfl, hoo, hb1⟩; (try replace HL := Lib.hid (Rd.below HL.out hb1)); (try replace HM := Lib.hid (Rd.below HM.out hb1)); (try replace HX := Lib.hid (Rd.below HX.out hb1)); (try replace HY := Lib.hid (Rd.below HY.out hb1)); (try replace HZ := Lib.hid (Rd.below HZ.out hb1)); replace HB := Lib.hid (HB.out.trans (hb1.mono HB.out.size)); obtain ⟨AA5, cc5, rfl⟩ := hoo.value; have HY := Lib.hid (show rRgs.rel _ _ _ _ from hoo.rel (by decide)); clear hoo; clear hb1))
      | (go_at_call 23; ((first | with_reducible refine (HH.out _ _ _ HX.out).mono ?_ | with_reducible refine (HK.out _ _ _ HY.out).mono ?_ | with_reducible refine (Has_any n _ HL.out).mono ?_ | with_reducible refine (Has_any n _ HM.out).mono ?_); rintro e w1 ⟨rfl, hb1⟩; (try replace HL := Lib.hid (Rd.below HL.out hb1)); (try replace HM := Lib.hid (Rd.below HM.out hb1)); (try replace HX := Lib.hid (Rd.below HX.out hb1)); (try replace HY := Lib.hid (Rd.below HY.out hb1)); (try replace HZ := Lib.hid (Rd.below HZ.out hb1)); replace HB := Lib.hid (HB.out.trans (hb1.mono HB.out.size)); clear hb1))
      | (go_at_call 25; ((first | with_reducible refine (HS.out.1 _ _ _ HX.out).mono ?_ | with_reducible refine (HS.out.2.1 _ _ _ HY.out).mono ?_ | with_reducible refine (HS.out.2.2 _ _ _ HL.out).mono ?_); rintro e w1 ⟨rfl, hb1⟩; (try replace HL := Lib.hid (Rd.below HL.out hb1)); (try replace HM := Lib.hid (Rd.below HM.out hb1)); (try replace HX := Lib.hid (Rd.below HX.out hb1)); (try replace HY := Lib.hid (Rd.below HY.out hb1)); (try replace HZ := Lib.hid (Rd.below HZ.out hb1)); replace HB := Lib.hid (HB.out.trans (hb1.mono HB.out.size)); clear hb1))
      | (go_at_call 28; ((with_reducible refine (same_any _ HX.out HZ.out).mono ?_); rintro e w1 ⟨rfl, hb1⟩; (try replace HL := Lib.hid (Rd.below HL.out hb1)); (try replace HM := Lib.hid (Rd.below HM.out hb1)); (try replace HX := Lib.hid (Rd.below HX.out hb1)); (try replace HY := Lib.hid (Rd.below HY.out hb1)); (try replace HZ := Lib.hid (Rd.below HZ.out hb1)); replace HB := Lib.hid (HB.out.trans (hb1.mono HB.out.size)); clear hb1)))
    go_ret
    exact ⟨rfl, HB.out⟩

end Go.Proofs.Ytlopccnehgolnaa
