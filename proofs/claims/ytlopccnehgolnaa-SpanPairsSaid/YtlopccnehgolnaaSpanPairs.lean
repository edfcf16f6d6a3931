/- SpanPairs returns true, for every two lists of ranges. No condition. -/
import Derived.Test.YtlopccnehgolnaaSpanNorms
import Derived.Test.YtlopccnehgolnaaPairL
import Derived.Test.YtlopccnehgolnaaPairOf
namespace Go.Proofs.Ytlopccnehgolnaa
open Go.RowKit Rb

set_option maxRecDepth 100000 in
set_option maxHeartbeats 3200000 in
theorem SpanPairs_walk {S T : Nat → Prop} {v u : Value} {a b : List Rg} (w : World) (hl : rRgs.rel w S [v] a) (hm : rRgs.rel w T [u] b) :
    Calls Try.prog 7 #[v, u] w fun e w' => e = .returned (.bool true) ∧ Below w.heap.size w w' := by
  obtain ⟨A, c, rfl, _⟩ := rRgs.elems hl
  obtain ⟨B, d, rfl, _⟩ := rRgs.elems hm
  have HL := Lib.hid hl
  have HM := Lib.hid hm
  have HB := Lib.hid (Below.refl w.heap.size w)
  clear hl hm
  have hs : isSet a = false ∨ (isSet a = true ∧ isSet b = false) ∨ (isSet a = true ∧ isSet b = true ∧ Hid (GoodS a ∧ GoodS b)) := by
    by_cases h : isSet a = true
    · by_cases h' : isSet b = true
      · exact .inr (.inr ⟨h, h', Lib.hid ⟨(isSet_iff _).1 h, (isSet_iff _).1 h'⟩⟩)
      · exact .inr (.inl ⟨h, by simpa using h'⟩)
    · exact .inl (by simpa using h)
  rcases hs with s1 | ⟨s1, s2⟩ | ⟨s1, s2, HG⟩
  all_goals
    go_enter Try.func7, Try.ntmps7
    go_wp2_with (first
      | (go_at_call 22; ((first | with_reducible refine (IsSet_any _ HL.out).mono ?_ | with_reducible refine (IsSet_any _ HM.out).mono ?_); rintro e w1 ⟨rfl, hb1⟩; (try replace HL := Lib.hid (Rd.below HL.out hb1)); (try replace HM := Lib.hid (Rd.below HM.out hb1)); (try replace HC := Lib.hid (Rd.below HC.out hb1)); (try replace HD := Lib.hid (Rd.below HD.out hb1)); (try replace HX := Lib.hid (Rd.below HX.out hb1)); (try replace HY := Lib.hid (Rd.below HY.out hb1)); replace HB := Lib.hid (HB.out.trans (hb1.mono HB.out.size)); clear hb1))
      | (go_at_call 27; ((with_reducible refine (spansLaw_any _).mono ?_); rintro e w1 ⟨rfl, hb1⟩; (try replace HL := Lib.hid (Rd.below HL.out hb1)); (try replace HM := Lib.hid (Rd.below HM.out hb1)); (try replace HC := Lib.hid (Rd.below HC.out hb1)); (try replace HD := Lib.hid (Rd.below HD.out hb1)); (try replace HX := Lib.hid (Rd.below HX.out hb1)); (try replace HY := Lib.hid (Rd.below HY.out hb1)); replace HB := Lib.hid (HB.out.trans (hb1.mono HB.out.size)); clear hb1))
      | (go_at_call 17; ((with_reducible refine (rangesLaw_any _ HL.out).mono ?_); rintro e w1 ⟨uu, rfl, hoo, hb1⟩; (try replace HL := Lib.hid (Rd.below HL.out hb1)); (try replace HM := Lib.hid (Rd.below HM.out hb1)); (try replace HC := Lib.hid (Rd.below HC.out hb1)); (try replace HD := Lib.hid (Rd.below HD.out hb1)); (try replace HX := Lib.hid (Rd.below HX.out hb1)); (try replace HY := Lib.hid (Rd.below HY.out hb1)); replace HB := Lib.hid (HB.out.trans (hb1.mono HB.out.size)); obtain ⟨AA1, cc1, rfl⟩ := hoo.value; have HC := Lib.hid (show rRgs.rel _ _ _ _ from hoo.rel (by decide)); clear hoo; clear hb1))
      | (go_at_call 17; ((with_reducible refine (rangesLaw_any _ HM.out).mono ?_); rintro e w1 ⟨uu, rfl, hoo, hb1⟩; (try replace HL := Lib.hid (Rd.below HL.out hb1)); (try replace HM := Lib.hid (Rd.below HM.out hb1)); (try replace HC := Lib.hid (Rd.below HC.out hb1)); (try replace HD := Lib.hid (Rd.below HD.out hb1)); (try replace HX := Lib.hid (Rd.below HX.out hb1)); (try replace HY := Lib.hid (Rd.below HY.out hb1)); replace HB := Lib.hid (HB.out.trans (hb1.mono HB.out.size)); obtain ⟨AA2, cc2, rfl⟩ := hoo.value; have HD := Lib.hid (show rRgs.rel _ _ _ _ from hoo.rel (by decide)); clear hoo; clear hb1))
      | (go_at_call 30; ((with_reducible refine (Both_any _ HC.out HD.out HG.out.1 HG.out.2).mono ?_); rintro e w1 ⟨uu, rfl, hoo, hb1⟩; (try replace HL := Lib.hid (Rd.below HL.out hb1)); (try replace HM := Lib.hid (Rd.below HM.out hb1)); (try replace HC := Lib.hid (Rd.below HC.out hb1)); (try replace HD := Lib.hid (Rd.below HD.out hb1)); (try replace HX := Lib.hid (Rd.below HX.out hb1)); (try replace HY := Lib.hid (Rd.below HY.out hb1)); replace HB := Lib.hid (HB.out.trans (hb1.mono HB.out.size)); obtain ⟨AA3, cc3, rfl⟩ := hoo.value; have HX := Lib.hid (show rRgs.rel _ _ _ _ from hoo.rel (by decide)); clear hoo; clear hb1))
      | (go_at_call 31; ((with_reducible refine (BothOf_any _ HL.out HM.out).mono ?_); rintro e w1 ⟨uu, rfl, hoo, hb1⟩; (try replace HL := Lib.hid (Rd.below HL.out hb1)); (try replace HM := Lib.hid (Rd.below HM.out hb1)); (try replace HC := Lib.hid (Rd.below HC.out hb1)); (try replace HD := Lib.hid (Rd.below HD.out hb1)); (try replace HX := Lib.hid (Rd.below HX.out hb1)); (try replace HY := Lib.hid (Rd.below HY.out hb1)); replace HB := Lib.hid (HB.out.trans (hb1.mono HB.out.size)); obtain ⟨AA4, cc4, rfl⟩ := hoo.value; have HY := Lib.hid (show rRgs.rel _ _ _ _ from hoo.rel (by decide)); clear hoo; clear hb1))
      | (go_at_call 32; ((with_reducible refine (Less_any _ HC.out HD.out HG.out.1 HG.out.2).mono ?_); rintro e w1 ⟨uu, rfl, hoo, hb1⟩; (try replace HL := Lib.hid (Rd.below HL.out hb1)); (try replace HM := Lib.hid (Rd.below HM.out hb1)); (try replace HC := Lib.hid (Rd.below HC.out hb1)); (try replace HD := Lib.hid (Rd.below HD.out hb1)); (try replace HX := Lib.hid (Rd.below HX.out hb1)); (try replace HY := Lib.hid (Rd.below HY.out hb1)); replace HB := Lib.hid (HB.out.trans (hb1.mono HB.out.size)); obtain ⟨AA5, cc5, rfl⟩ := hoo.value; have HX := Lib.hid (show rRgs.rel _ _ _ _ from hoo.rel (by decide)); clear hoo; clear hb1))
      | (go_at_call 33; ((with_reducible refine (LessOf_any _ HL.out HM.out).mono ?_); rintro e w1 ⟨uu, rfl, hoo, hb1⟩; (try replace HL := Lib.hid (Rd.below HL.out hb1)); (try replace HM := Lib.hid (Rd.below HM.out hb1)); (try replace HC := Lib.hid (Rd.below HC.out hb1)); (try replace HD := Lib.hid (Rd.below HD.out hb1)); (try replace HX := Lib.hid (Rd.below HX.out hb1)); (try replace HY := Lib.hid (Rd.below HY.out hb1)); replace HB := Lib.hid (HB.out.trans (hb1.mono HB.out.size)); obtain ⟨AA6, cc6, rfl⟩ := hoo.value; have HY := Lib.hid (show rRgs.rel _ _ _ _ from hoo.rel (by decide)); clear hoo; clear hb1))
      | (go_at_call 18; ((with_reducible refine (SameSet_any _ HX.out HY.out).mono ?_); rintro e w1 ⟨rfl, hb1⟩; (try replace HL := Lib.hid (Rd.below HL.out hb1)); (try replace HM := Lib.hid (Rd.below HM.out hb1)); (try replace HC := Lib.hid (Rd.below HC.out hb1)); (try replace HD := Lib.hid (Rd.below HD.out hb1)); (try replace HX := Lib.hid (Rd.below HX.out hb1)); (try replace HY := Lib.hid (Rd.below HY.out hb1)); replace HB := Lib.hid (HB.out.trans (hb1.mono HB.out.size)); clear hb1)))
    go_ret
    exact ⟨rfl, HB.out⟩

end Go.Proofs.Ytlopccnehgolnaa
