/- SpanOnce returns true, for every list of ranges and every number. No condition. -/
import Derived.Test.YtlopccnehgolnaaSpanNorms
namespace Go.Proofs.Ytlopccnehgolnaa
open Go.RowKit Rb

set_option maxRecDepth 100000 in
set_option maxHeartbeats 3200000 in
theorem SpanOnce_walk {S : Nat → Prop} {v : Value} {l : List Rg} (n : Int) (w : World) (hl : rRgs.rel w S [v] l) :
    Calls Try.prog 6 #[v, .int .i64 n] w fun e w' => e = .returned (.bool true) ∧ Below w.heap.size w w' := by
  obtain ⟨A, c, rfl, _⟩ := rRgs.elems hl
  have HL := Lib.hid hl
  have HB := Lib.hid (Below.refl w.heap.size w)
  clear hl
  have e1 : isSet (normS l) = true := (isSet_iff _).2 (normS_good l).1
  have hid2 : normS (normS l) = normS l := normS_id (normS_good l).1
  have ehas : hasL (normS l) n = (isNum n && hasL l n) := (normS_good l).2 n
  have HH : Hid (∀ (S : Nat → Prop) (v : Value) (w : World), rRgs.rel w S [v] (normS l) → Calls Try.prog 23 #[v, .int .i64 n] w fun e w' => e = .returned (.bool (isNum n && hasL l n)) ∧ Below w.heap.size w w') := Lib.hid (fun S v w h => by rw [← ehas]; exact Has_any n w h)
  have HN : Hid (∀ (S : Nat → Prop) (v : Value) (w : World), rRgs.rel w S [v] (normS l) → Calls Try.prog 19 #[v] w fun e w' => ∃ u, e = .returned u ∧ Own rRg 72 w' w.heap.size S u (normS l) ∧ Below w.heap.size w w') := Lib.hid (fun S v w h => by have := Norm_any w h; rw [hid2] at this; exact this)
  clear ehas hid2
  have hs : isSet l = false ∨ (isSet l = true ∧ decide (normS l = l) = true) := by
    by_cases h : isSet l = true
    · exact .inr ⟨h, decide_eq_true (normS_id ((isSet_iff _).1 h))⟩
    · exact .inl (by simpa using h)
  have hn : (isNum n = false ∧ decide ((-1000000 : Int) ≤ n) = false) ∨ (isNum n = false ∧ decide ((-1000000 : Int) ≤ n) = true ∧ decide (n ≤ (1000000 : Int)) = false) ∨ (isNum n = true ∧ decide ((-1000000 : Int) ≤ n) = true ∧ decide (n ≤ (1000000 : Int)) = true) := by
    unfold isNum MX
    by_cases h1 : (-1000000 : Int) ≤ n <;> by_cases h2 : n ≤ (1000000 : Int) <;> simp [h1, h2]
  rcases hn with ⟨n0, n1⟩ | ⟨n0, n1, n2⟩ | ⟨n0, n1, n2⟩ <;> rcases hs with s1 | ⟨s1, s2⟩
  all_goals
    simp only [n0] at HH
    go_enter Try.func6, Try.ntmps6
    go_wp2_with (first
      | (go_at_call 19; ((with_reducible refine (Norm_any _ HL.out).mono ?_); rintro e w1 ⟨uu, rfl, hoo, hb1⟩; (try replace HL := Lib.hid (Rd.below HL.out hb1)); replace HB := Lib.hid (HB.out.trans (hb1.mono HB.out.size)); obtain ⟨AA, cc, rfl⟩ := hoo.value; have HA := Lib.hid (show rRgs.rel _ _ _ _ from hoo.rel (by decide)); clear hoo; clear hb1))
      | (go_at_call 19; ((with_reducible refine (HN.out _ _ _ HA.out).mono ?_); rintro e w1 ⟨uu, rfl, hoo, hb1⟩; (try replace HL := Lib.hid (Rd.below HL.out hb1)); (try replace HA := Lib.hid (Rd.below HA.out hb1)); replace HB := Lib.hid (HB.out.trans (hb1.mono HB.out.size)); obtain ⟨AA2, cc2, rfl⟩ := hoo.value; have HA2 := Lib.hid (show rRgs.rel _ _ _ _ from hoo.rel (by decide)); clear hoo; clear hb1))
      | (go_at_call 23; ((first | with_reducible refine (HH.out _ _ _ HA.out).mono ?_ | with_reducible refine (Has_any n _ HL.out).mono ?_); rintro e w1 ⟨rfl, hb1⟩; (try replace HL := Lib.hid (Rd.below HL.out hb1)); (try replace HA := Lib.hid (Rd.below HA.out hb1)); (try replace HA2 := Lib.hid (Rd.below HA2.out hb1)); replace HB := Lib.hid (HB.out.trans (hb1.mono HB.out.size)); clear hb1))
      | (go_at_call 21; ((first | with_reducible refine (Good_any _ HA.out).mono ?_ | with_reducible refine (Good_any _ HL.out).mono ?_); rintro e w1 ⟨rfl, hb1⟩; (try replace HL := Lib.hid (Rd.below HL.out hb1)); (try replace HA := Lib.hid (Rd.below HA.out hb1)); (try replace HA2 := Lib.hid (Rd.below HA2.out hb1)); replace HB := Lib.hid (HB.out.trans (hb1.mono HB.out.size)); clear hb1))
      | (go_at_call 28; ((first | with_reducible refine (same_any _ HA.out HA2.out).mono ?_ | with_reducible refine (same_any _ HA.out HL.out).mono ?_); rintro e w1 ⟨rfl, hb1⟩; (try replace HL := Lib.hid (Rd.below HL.out hb1)); (try replace HA := Lib.hid (Rd.below HA.out hb1)); (try replace HA2 := Lib.hid (Rd.below HA2.out hb1)); replace HB := Lib.hid (HB.out.trans (hb1.mono HB.out.size)); clear hb1))
      | (go_at_call 29; ((with_reducible refine (spansKeep_any _).mono ?_); rintro e w1 ⟨rfl, hb1⟩; (try replace HL := Lib.hid (Rd.below HL.out hb1)); (try replace HA := Lib.hid (Rd.below HA.out hb1)); (try replace HA2 := Lib.hid (Rd.below HA2.out hb1)); replace HB := Lib.hid (HB.out.trans (hb1.mono HB.out.size)); clear hb1)))
    go_ret
    exact ⟨rfl, HB.out⟩

end Go.Proofs.Ytlopccnehgolnaa
