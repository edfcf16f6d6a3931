/- SpanNorms returns true: for every list of ranges and every number. No condition. -/
import Derived.Test.YtlopccnehgolnaaNormOf
import Derived.Test.YtlopccnehgolnaaFrame
import Derived.Test.YtlopccnehgolnaaRows
namespace Go.Proofs.Ytlopccnehgolnaa
open Go.RowKit Rb

/-- A copy of a list of ranges. -/
theorem rangesLaw_any {S : Nat → Prop} {v : Value} {l : List Rg} (w : World) (hl : rRgs.rel w S [v] l) :
    Calls Try.prog 17 #[v] w fun e w' => ∃ u, e = .returned u ∧ Own rRg 72 w' w.heap.size (fun _ => False) u l ∧ Below w.heap.size w w' := by
  obtain ⟨A, c, rfl, _, _, hn, hE⟩ := rRgs.elems hl
  clear hl
  have hin : ∀ es (y : Rg), rRg.rel w S es y → rRg.rel w (fun _ => False) es y := fun _ _ h => h
  go_enter Try.func17, Try.ntmps17
  go_wp2_with (first | (at_builtin; go_must (refine wpList_append_many (R := rRg) (v := .slice none 0 0) el_Rg rfl _ (.tmp 3) rfl rfl (Own.nil _ _ w w.heap.size (fun _ => False)) rfl (fun _ => False) rfl hE hin (fun _ h => h.elim) ?_ (Nat.le_refl _) ?_); (simp only [rRg, List.length_nil]; omega); intro v1 w1 hown1 hb1 _ _))
  go_ret
  exact ⟨_, rfl, hown1, hb1⟩

theorem eql_rg_eq (w : World) (a b : Int) : (binOp .eql 72 (.agg #[.int .i64 a, .int .i64 b]) (.agg #[.int .i64 a, .int .i64 b])).run Try.prog w = .ok (.bool true) w := by
  rw [run_eql_struct, run_equalIn_agg _ _ _ _ _ rg_under rg_stood, rg_fields]
  simp [Op.eqFields, go_sem, Try.underlying3]

theorem norm_ex : normS [(5, 9), (1, 4)] = [(1, 9)] := by
  refine (normS_of (s := [(1, 9)]) (by decide) fun n => ?_).symm
  rw [Bool.eq_iff_iff]
  simp only [hasL, List.any_cons, List.any_nil, Bool.or_false, Bool.or_eq_true, Bool.and_eq_true, inR_iff, isNum_iff]
  omega

theorem lit2 (w : World) : rRgs.rel (w.alloc (.cells #[.int .i64 5, .int .i64 9, .int .i64 1, .int .i64 4] 72)) (fun _ => True) [.slice (some ⟨w.heap.size, 0, none⟩) 2 2] [(5, 9), (1, 4)] := by
  refine ⟨_, 2, rfl, by decide, by decide, by decide, fun i x hx => ?_⟩
  match i, hx with
  | 0, hx =>
    obtain rfl : (5, 9) = x := by simpa using hx
    refine ⟨_, _, _, rfl, trivial, by simp, ⟨rfl, by unfold InI; omega, by unfold InI; omega⟩, fun j u hu => ?_⟩
    match j, hu with
    | 0, hu => simp [rRg] at hu ⊢; exact hu
    | 1, hu => simp [rRg] at hu ⊢; exact hu
  | 1, hx =>
    obtain rfl : (1, 4) = x := by simpa using hx
    refine ⟨_, _, _, rfl, trivial, by simp, ⟨rfl, by unfold InI; omega, by unfold InI; omega⟩, fun j u hu => ?_⟩
    match j, hu with
    | 0, hu => simp [rRg] at hu ⊢; exact hu
    | 1, hu => simp [rRg] at hu ⊢; exact hu

set_option maxHeartbeats 1600000 in
theorem spansLaw_any (w : World) : Calls Try.prog 27 #[] w fun e w' => e = .returned (.bool true) ∧ Below w.heap.size w w' := by
  have HC := Lib.hid (Norm_any _ (lit2 w))
  rw [norm_ex] at HC
  have q1 := fun (w : World) (x y : Operand) (xs ys : Array Value) => run_eqGuard_agg w BinOp.eql 72 x y xs ys rg_guard
  have q2 := fun w => eql_rg_eq w 1 9
  have HB := Lib.hid ((Below.refl w.heap.size w).alloc (Nat.le_refl _) (.cells #[.int .i64 5, .int .i64 9, .int .i64 1, .int .i64 4] 72))
  have hSz : w.heap.size ≤ (w.alloc (.cells #[.int .i64 5, .int .i64 9, .int .i64 1, .int .i64 4] 72)).heap.size := by simp
  have HSz := Lib.hid hSz
  clear hSz
  have e4 : hasL [(1, 9)] 4 = true := by decide
  have e5 : sizeN (normS [(1, 9)]) = 9 := by rw [normS_id (by decide)]; decide
  go_enter Try.func27, Try.ntmps27
  go_wp2_with (first | (go_at_call 19; refine HC.out.mono ?_; rintro e w1 ⟨u, rfl, hown, hb1⟩; obtain ⟨A1, c1, rfl⟩ := hown.value; obtain ⟨_, hE⟩ := hown.elems (by decide) rfl; obtain ⟨b, off, lo, up, rfl, _, hb, hx, _, _, h1, h2⟩ := hE.rg (i := 0) (by decide); obtain ⟨rfl, rfl⟩ : 1 = lo ∧ 9 = up := (by simpa using hx); simp only [Nat.zero_mul, Nat.add_zero] at h1 h2; have hrel := hown.rel (by decide); have HRel := Lib.hid hrel; clear hrel hown hE hx) | (go_at_call 23; refine (Has_any 4 _ HRel.out).mono ?_; rintro e w2 ⟨rfl, hb2⟩) | (go_at_call 25; refine (Size_any _ (Rd.below HRel.out hb2)).mono ?_; rintro e w3 ⟨rfl, hb3⟩))
  go_ret
  exact ⟨rfl, HB.out.trans ((hb1.mono HSz.out).trans ((hb2.mono (Nat.le_trans HSz.out hb1.size)).trans (hb3.mono (Nat.le_trans HSz.out (Nat.le_trans hb1.size hb2.size)))))⟩
set_option maxHeartbeats 1600000 in
theorem spansKeep_any (w : World) : Calls Try.prog 29 #[] w fun e w' => e = .returned (.bool true) ∧ Below w.heap.size w w' := by
  have HC := Lib.hid (Norm_any _ (lit2 w))
  rw [norm_ex] at HC
  have q1 := fun (w : World) (x y : Operand) (xs ys : Array Value) => run_eqGuard_agg w BinOp.eql 72 x y xs ys rg_guard
  have q2 := fun w => eql_rg_eq w 1 9
  have HB := Lib.hid ((Below.refl w.heap.size w).alloc (Nat.le_refl _) (.cells #[.int .i64 5, .int .i64 9, .int .i64 1, .int .i64 4] 72))
  have hSz : w.heap.size ≤ (w.alloc (.cells #[.int .i64 5, .int .i64 9, .int .i64 1, .int .i64 4] 72)).heap.size := by simp
  have HSz := Lib.hid hSz
  clear hSz
  have e4 : hasL [(1, 9)] 4 = true := by decide
  have e5 : sizeN (normS [(1, 9)]) = 9 := by rw [normS_id (by decide)]; decide
  go_enter Try.func29, Try.ntmps29
  go_wp2_with (first | (go_at_call 19; refine HC.out.mono ?_; rintro e w1 ⟨u, rfl, hown, hb1⟩; obtain ⟨A1, c1, rfl⟩ := hown.value; obtain ⟨_, hE⟩ := hown.elems (by decide) rfl; obtain ⟨b, off, lo, up, rfl, _, hb, hx, _, _, h1, h2⟩ := hE.rg (i := 0) (by decide); obtain ⟨rfl, rfl⟩ : 1 = lo ∧ 9 = up := (by simpa using hx); simp only [Nat.zero_mul, Nat.add_zero] at h1 h2; have hrel := hown.rel (by decide); have HRel := Lib.hid hrel; clear hrel hown hE hx) | (go_at_call 23; refine (Has_any 4 _ HRel.out).mono ?_; rintro e w2 ⟨rfl, hb2⟩) | (go_at_call 25; refine (Size_any _ (Rd.below HRel.out hb2)).mono ?_; rintro e w3 ⟨rfl, hb3⟩))
  go_ret
  exact ⟨rfl, HB.out.trans ((hb1.mono HSz.out).trans ((hb2.mono (Nat.le_trans HSz.out hb1.size)).trans (hb3.mono (Nat.le_trans HSz.out (Nat.le_trans hb1.size hb2.size)))))⟩

set_option maxRecDepth 100000 in
set_option maxHeartbeats 3200000 in
theorem SpanNorms_walk {S : Nat → Prop} {v : Value} {l : List Rg} (n : Int) (w : World) (hl : rRgs.rel w S [v] l) :
    Calls Try.prog 5 #[v, .int .i64 n] w fun e w' => e = .returned (.bool true) ∧ Below w.heap.size w w' := by
  obtain ⟨A, c, rfl, _⟩ := rRgs.elems hl
  have HL0 := Lib.hid hl
  have HB0 := Lib.hid (Below.refl w.heap.size w)
  clear hl
  go_enter Try.func5, Try.ntmps5
  go_wp2_with (first
    | (go_at_call 17; ((with_reducible refine (rangesLaw_any _ HL0.out).mono ?_); rintro e w1 ⟨uc, rfl, hoc, hb1⟩; have HL1 := Lib.hid (Rd.below HL0.out hb1); have HB1 := Lib.hid (HB0.out.trans (hb1.mono HB0.out.size)); obtain ⟨AC, cC, rfl⟩ := hoc.value; have HC1 := Lib.hid (show rRgs.rel _ _ _ _ from hoc.rel (by decide)); clear hoc; clear hb1))
    | (go_at_call 19; ((with_reducible refine (Norm_any _ HC1.out).mono ?_); rintro e w2 ⟨un, rfl, hon, hb2⟩; have HL2 := Lib.hid (Rd.below HL1.out hb2); have HC2 := Lib.hid (Rd.below HC1.out hb2); have HB2 := Lib.hid (HB1.out.trans (hb2.mono HB1.out.size)); obtain ⟨AN, cN, rfl⟩ := hon.value; have HN2 := Lib.hid (show rRgs.rel _ _ _ _ from hon.rel (by decide)); clear hon; clear hb2))
    | (go_at_call 20; ((with_reducible refine (NormOf_any _ HL2.out).mono ?_); rintro e w3 ⟨um, rfl, hom, hb3⟩; have HL3 := Lib.hid (Rd.below HL2.out hb3); have HC3 := Lib.hid (Rd.below HC2.out hb3); have HN3 := Lib.hid (Rd.below HN2.out hb3); have HB3 := Lib.hid (HB2.out.trans (hb3.mono HB2.out.size)); obtain ⟨AM, cM, rfl⟩ := hom.value; have HM3 := Lib.hid (show rRgs.rel _ _ _ _ from hom.rel (by decide)); clear hom; clear hb3))
    | (go_at_call 18; ((with_reducible refine (SameSet_any _ HN3.out HM3.out).mono ?_); rintro e w4 ⟨rfl, hb4⟩; have HL4 := Lib.hid (Rd.below HL3.out hb4); have HC4 := Lib.hid (Rd.below HC3.out hb4); have HN4 := Lib.hid (Rd.below HN3.out hb4); have HM4 := Lib.hid (Rd.below HM3.out hb4); have HB4 := Lib.hid (HB3.out.trans (hb4.mono HB3.out.size)); clear hb4))
    | (go_at_call 21; ((with_reducible refine (Good_any _ HC4.out).mono ?_); rintro e w5 ⟨rfl, hb5⟩; have HL5 := Lib.hid (Rd.below HL4.out hb5); have HC5 := Lib.hid (Rd.below HC4.out hb5); have HN5 := Lib.hid (Rd.below HN4.out hb5); have HM5 := Lib.hid (Rd.below HM4.out hb5); have HB5 := Lib.hid (HB4.out.trans (hb5.mono HB4.out.size)); clear hb5))
    | (go_at_call 22; ((with_reducible refine (IsSet_any _ HL5.out).mono ?_); rintro e w6 ⟨rfl, hb6⟩; have HL6 := Lib.hid (Rd.below HL5.out hb6); have HC6 := Lib.hid (Rd.below HC5.out hb6); have HN6 := Lib.hid (Rd.below HN5.out hb6); have HM6 := Lib.hid (Rd.below HM5.out hb6); have HB6 := Lib.hid (HB5.out.trans (hb6.mono HB5.out.size)); clear hb6))
    | (go_at_call 23; ((with_reducible refine (Has_any n _ HC6.out).mono ?_); rintro e w7 ⟨rfl, hb7⟩; have HL7 := Lib.hid (Rd.below HL6.out hb7); have HC7 := Lib.hid (Rd.below HC6.out hb7); have HN7 := Lib.hid (Rd.below HN6.out hb7); have HM7 := Lib.hid (Rd.below HM6.out hb7); have HB7 := Lib.hid (HB6.out.trans (hb7.mono HB6.out.size)); clear hb7))
    | (go_at_call 24; ((with_reducible refine (InSet_any n _ HL7.out).mono ?_); rintro e w8 ⟨rfl, hb8⟩; have HL8 := Lib.hid (Rd.below HL7.out hb8); have HC8 := Lib.hid (Rd.below HC7.out hb8); have HN8 := Lib.hid (Rd.below HN7.out hb8); have HM8 := Lib.hid (Rd.below HM7.out hb8); have HB8 := Lib.hid (HB7.out.trans (hb8.mono HB7.out.size)); clear hb8))
    | (go_at_call 25; ((with_reducible refine (Size_any _ HC8.out).mono ?_); rintro e w9 ⟨rfl, hb9⟩; have HL9 := Lib.hid (Rd.below HL8.out hb9); have HC9 := Lib.hid (Rd.below HC8.out hb9); have HN9 := Lib.hid (Rd.below HN8.out hb9); have HM9 := Lib.hid (Rd.below HM8.out hb9); have HB9 := Lib.hid (HB8.out.trans (hb9.mono HB8.out.size)); clear hb9))
    | (go_at_call 26; ((with_reducible refine (SizeOf_any _ HL9.out).mono ?_); rintro e w10 ⟨rfl, hb10⟩; have HL10 := Lib.hid (Rd.below HL9.out hb10); have HC10 := Lib.hid (Rd.below HC9.out hb10); have HN10 := Lib.hid (Rd.below HN9.out hb10); have HM10 := Lib.hid (Rd.below HM9.out hb10); have HB10 := Lib.hid (HB9.out.trans (hb10.mono HB9.out.size)); clear hb10))
    | (go_at_call 18; ((with_reducible refine (SameSet_any _ HC10.out HL10.out).mono ?_); rintro e w11 ⟨rfl, hb11⟩; have HL11 := Lib.hid (Rd.below HL10.out hb11); have HC11 := Lib.hid (Rd.below HC10.out hb11); have HN11 := Lib.hid (Rd.below HN10.out hb11); have HM11 := Lib.hid (Rd.below HM10.out hb11); have HB11 := Lib.hid (HB10.out.trans (hb11.mono HB10.out.size)); clear hb11))
    | (go_at_call 27; ((with_reducible refine (spansLaw_any _).mono ?_); rintro e w12 ⟨rfl, hb12⟩; have HL12 := Lib.hid (Rd.below HL11.out hb12); have HC12 := Lib.hid (Rd.below HC11.out hb12); have HN12 := Lib.hid (Rd.below HN11.out hb12); have HM12 := Lib.hid (Rd.below HM11.out hb12); have HB12 := Lib.hid (HB11.out.trans (hb12.mono HB11.out.size)); clear hb12)))
  go_ret
  exact ⟨rfl, HB12.out⟩

end Go.Proofs.Ytlopccnehgolnaa
