/- Contracts of the reference's BothOf and LessOf. -/
import Derived.Test.YtlopccnehgolnaaNormOf
import Derived.Test.YtlopccnehgolnaaMadeB
import Derived.Test.YtlopccnehgolnaaPairMath
namespace Go.Proofs.Ytlopccnehgolnaa
open Go.RowKit Rb

set_option maxRecDepth 100000 in
theorem BothOfFn_any {S T : Nat → Prop} {v u : Value} {a b : List Rg} (n : Int) (q r : Nat) (w : World) (hq : w.cell? ⟨q, 0, none⟩ = some v) (hr : w.cell? ⟨r, 0, none⟩ = some u) (hl : rRgs.rel w S [v] a) (hm : rRgs.rel w T [u] b) :
    Calls Try.prog 64 #[.int .i64 n, .pointer (some ⟨q, 0, none⟩), .pointer (some ⟨r, 0, none⟩)] w fun e w' => e = .returned (.bool (hasL a n && hasL b n)) ∧ Below w.heap.size w w' := by
  obtain ⟨A, c, rfl, _⟩ := rRgs.elems hl
  obtain ⟨B, d, rfl, _⟩ := rRgs.elems hm
  have HC := Lib.hid (InSet_any n w hl)
  have HD := Lib.hid (fun w' (hb : Below w.heap.size w w') => InSet_any n w' (Rd.below hm hb))
  have HR : Hid (∀ w', Below w.heap.size w w' → w'.cell? ⟨r, 0, none⟩ = some (.slice B b.length d)) := Lib.hid (fun w' hb => (hb.cell (p := ⟨r, 0, none⟩) (World.block_lt_of_cell? w _ hr)).trans hr)
  clear hl hm hr
  cases ha : hasL a n
  all_goals
    rw [ha] at HC
    go_enter Try.func64, Try.ntmps64
    go_wp2_with (first
      | (go_at_call 24; ((with_reducible refine HC.out.mono ?_); rintro e w' ⟨rfl, hb⟩); have k2 := HR.out w' hb)
      | (go_at_call 24; ((with_reducible refine (HD.out _ hb).mono ?_); rintro e w'' ⟨rfl, hb'⟩); replace hb := hb.trans (hb'.mono hb.size)))
    go_ret
    exact ⟨by simp, hb⟩
set_option maxRecDepth 100000 in
theorem LessOfFn_any {S T : Nat → Prop} {v u : Value} {a b : List Rg} (n : Int) (q r : Nat) (w : World) (hq : w.cell? ⟨q, 0, none⟩ = some v) (hr : w.cell? ⟨r, 0, none⟩ = some u) (hl : rRgs.rel w S [v] a) (hm : rRgs.rel w T [u] b) :
    Calls Try.prog 65 #[.int .i64 n, .pointer (some ⟨q, 0, none⟩), .pointer (some ⟨r, 0, none⟩)] w fun e w' => e = .returned (.bool (hasL a n && !hasL b n)) ∧ Below w.heap.size w w' := by
  obtain ⟨A, c, rfl, _⟩ := rRgs.elems hl
  obtain ⟨B, d, rfl, _⟩ := rRgs.elems hm
  have HC := Lib.hid (InSet_any n w hl)
  have HD := Lib.hid (fun w' (hb : Below w.heap.size w w') => InSet_any n w' (Rd.below hm hb))
  have HR : Hid (∀ w', Below w.heap.size w w' → w'.cell? ⟨r, 0, none⟩ = some (.slice B b.length d)) := Lib.hid (fun w' hb => (hb.cell (p := ⟨r, 0, none⟩) (World.block_lt_of_cell? w _ hr)).trans hr)
  clear hl hm hr
  cases ha : hasL a n
  all_goals
    rw [ha] at HC
    go_enter Try.func65, Try.ntmps65
    go_wp2_with (first
      | (go_at_call 24; ((with_reducible refine HC.out.mono ?_); rintro e w' ⟨rfl, hb⟩); have k2 := HR.out w' hb)
      | (go_at_call 24; ((with_reducible refine (HD.out _ hb).mono ?_); rintro e w'' ⟨rfl, hb'⟩); replace hb := hb.trans (hb'.mono hb.size)))
    go_ret
    exact ⟨by simp, hb⟩

theorem Elems.pair {w : World} {S T : Nat → Prop} {v u : Value} {l m : List Rg} (hl : rRgs.rel w S [v] l) (hm : rRgs.rel w T [u] m) (t : TypeId) : Elems rRgs (w.alloc (.cells #[v, u] t)) (fun _ => True) (some ⟨w.heap.size, 0, none⟩) [l, m] := by
  intro i x hx
  match i, hx with
  | 0, hx =>
    obtain rfl : l = x := by simpa using hx
    refine ⟨w.heap.size, 0, [v], rfl, trivial, by simp, rRgs.mono (Rd.alloc hl _) fun _ _ _ => trivial, fun j y hu => ?_⟩
    match j, hu with
    | 0, hu =>
      obtain rfl : v = y := by simpa using hu
      simp [rRgs, rSl]
  | 1, hx =>
    obtain rfl : m = x := by simpa using hx
    refine ⟨w.heap.size, 0, [u], rfl, trivial, by simp, rRgs.mono (Rd.alloc hm _) fun _ _ _ => trivial, fun j y hu => ?_⟩
    match j, hu with
    | 0, hu =>
      obtain rfl : u = y := by simpa using hu
      simp [rRgs, rSl]

set_option maxHeartbeats 1600000 in
theorem BothOf_any {S T : Nat → Prop} {v u : Value} {a b : List Rg} (w : World) (hl : rRgs.rel w S [v] a) (hm : rRgs.rel w T [u] b) :
    Calls Try.prog 31 #[v, u] w fun e w' => ∃ x, e = .returned x ∧ Own rRg 72 w' w.heap.size (fun _ => False) x (bothS a b) ∧ Below w.heap.size w w' := by
  obtain ⟨A, c, rfl, _⟩ := rRgs.elems hl
  obtain ⟨B, d, rfl, _⟩ := rRgs.elems hm
  have hw1 : ((w.alloc (.cells #[.slice A a.length c] 37)).alloc (.cells #[.slice B b.length d] 37)).heap.size = w.heap.size + 2 := by simp
  have hl1 := Rd.alloc (Rd.alloc hl (.cells #[.slice A a.length c] 37)) (.cells #[.slice B b.length d] 37)
  have hm1 := Rd.alloc (Rd.alloc hm (.cells #[.slice A a.length c] 37)) (.cells #[.slice B b.length d] 37)
  have hE1 := Elems.pair hl1 hm1 37
  rw [hw1] at hE1
  have hC1 := edges_any (c := 2) (((w.alloc (.cells #[.slice A a.length c] 37)).alloc (.cells #[.slice B b.length d] 37)).alloc (.cells #[.slice A a.length c, .slice B b.length d] 37)) (by simp) hE1
  have HC1 := Lib.hid hC1
  have hl2 := Rd.alloc hl1 (.cells #[.slice A a.length c, .slice B b.length d] 37)
  have hm2 := Rd.alloc hm1 (.cells #[.slice A a.length c, .slice B b.length d] 37)
  have HB : Hid (Below w.heap.size w (((w.alloc (.cells #[.slice A a.length c] 37)).alloc (.cells #[.slice B b.length d] 37)).alloc (.cells #[.slice A a.length c, .slice B b.length d] 37))) :=
    Lib.hid ((((Below.refl _ _).alloc (Nat.le_refl _) _).alloc (by simp) _).alloc (by simp; omega) _)
  have HQ : Hid ((((w.alloc (.cells #[.slice A a.length c] 37)).alloc (.cells #[.slice B b.length d] 37)).alloc (.cells #[.slice A a.length c, .slice B b.length d] 37)).cell? ⟨w.heap.size, 0, none⟩ = some (.slice A a.length c)) := Lib.hid (by
    rw [World.cell?_alloc_lt _ _ _ (by simp; omega), World.cell?_alloc_lt _ _ _ (by simp)]; simp)
  have HR : Hid ((((w.alloc (.cells #[.slice A a.length c] 37)).alloc (.cells #[.slice B b.length d] 37)).alloc (.cells #[.slice A a.length c, .slice B b.length d] 37)).cell? ⟨w.heap.size + 1, 0, none⟩ = some (.slice B b.length d)) := Lib.hid (by
    rw [World.cell?_alloc_lt _ _ _ (by simp)]; simp)
  have HSz : Hid ((((w.alloc (.cells #[.slice A a.length c] 37)).alloc (.cells #[.slice B b.length d] 37)).alloc (.cells #[.slice A a.length c, .slice B b.length d] 37)).heap.size = w.heap.size + 3) := Lib.hid (by simp)
  clear hC1 hE1 hw1
  go_enter Try.func31, Try.ntmps31
  go_wp2_with (first | (go_at_call 58; refine HC1.out.mono ?_; rintro e w3 ⟨u1, rfl, hown1, hb1⟩))
  obtain ⟨A1, c1, rfl⟩ := hown1.value
  obtain ⟨_, hE2⟩ := hown1.elems (by decide) rfl
  have hC2 := made_BothOf (fun n => hasL a n && hasL b n) (.pointer (some ⟨w.heap.size, 0, none⟩)) (.pointer (some ⟨w.heap.size + 1, 0, none⟩)) (c := c1) w3 (edgesL_is [a, b]) hE2 (fun n w' _ _ hb' => by
    have hb2 := hb1.trans (hb'.mono hb1.size)
    exact BothOfFn_any n w.heap.size (w.heap.size + 1) w' ((hb2.cell (p := ⟨w.heap.size, 0, none⟩) (by rw [HSz.out]; show w.heap.size < w.heap.size + 3; omega)).trans HQ.out) ((hb2.cell (p := ⟨w.heap.size + 1, 0, none⟩) (by rw [HSz.out]; show w.heap.size + 1 < w.heap.size + 3; omega)).trans HR.out) (Rd.below hl2 hb2) (Rd.below hm2 hb2))
  have HC2 := Lib.hid hC2
  clear hC2 hE2
  go_wp2_with (first | (go_at_call 57; refine HC2.out.mono ?_; rintro e w4 ⟨u2, rfl, hown2, hb2⟩))
  go_ret
  refine ⟨u2, rfl, ?_, ?_⟩
  · exact hown2.lower (Nat.le_trans (by rw [HSz.out]; omega) hb1.size)
  · exact HB.out.trans ((hb1.mono (by rw [HSz.out]; omega)).trans (hb2.mono (Nat.le_trans (by rw [HSz.out]; omega) hb1.size)))
set_option maxHeartbeats 1600000 in
theorem LessOf_any {S T : Nat → Prop} {v u : Value} {a b : List Rg} (w : World) (hl : rRgs.rel w S [v] a) (hm : rRgs.rel w T [u] b) :
    Calls Try.prog 33 #[v, u] w fun e w' => ∃ x, e = .returned x ∧ Own rRg 72 w' w.heap.size (fun _ => False) x (lessS a b) ∧ Below w.heap.size w w' := by
  obtain ⟨A, c, rfl, _⟩ := rRgs.elems hl
  obtain ⟨B, d, rfl, _⟩ := rRgs.elems hm
  have hw1 : ((w.alloc (.cells #[.slice A a.length c] 37)).alloc (.cells #[.slice B b.length d] 37)).heap.size = w.heap.size + 2 := by simp
  have hl1 := Rd.alloc (Rd.alloc hl (.cells #[.slice A a.length c] 37)) (.cells #[.slice B b.length d] 37)
  have hm1 := Rd.alloc (Rd.alloc hm (.cells #[.slice A a.length c] 37)) (.cells #[.slice B b.length d] 37)
  have hE1 := Elems.pair hl1 hm1 37
  rw [hw1] at hE1
  have hC1 := edges_any (c := 2) (((w.alloc (.cells #[.slice A a.length c] 37)).alloc (.cells #[.slice B b.length d] 37)).alloc (.cells #[.slice A a.length c, .slice B b.length d] 37)) (by simp) hE1
  have HC1 := Lib.hid hC1
  have hl2 := Rd.alloc hl1 (.cells #[.slice A a.length c, .slice B b.length d] 37)
  have hm2 := Rd.alloc hm1 (.cells #[.slice A a.length c, .slice B b.length d] 37)
  have HB : Hid (Below w.heap.size w (((w.alloc (.cells #[.slice A a.length c] 37)).alloc (.cells #[.slice B b.length d] 37)).alloc (.cells #[.slice A a.length c, .slice B b.length d] 37))) :=
    Lib.hid ((((Below.refl _ _).alloc (Nat.le_refl _) _).alloc (by simp) _).alloc (by simp; omega) _)
  have HQ : Hid ((((w.alloc (.cells #[.slice A a.length c] 37)).alloc (.cells #[.slice B b.length d] 37)).alloc (.cells #[.slice A a.length c, .slice B b.length d] 37)).cell? ⟨w.heap.size, 0, none⟩ = some (.slice A a.length c)) := Lib.hid (by
    rw [World.cell?_alloc_lt _ _ _ (by simp; omega), World.cell?_alloc_lt _ _ _ (by simp)]; simp)
  have HR : Hid ((((w.alloc (.cells #[.slice A a.length c] 37)).alloc (.cells #[.slice B b.length d] 37)).alloc (.cells #[.slice A a.length c, .slice B b.length d] 37)).cell? ⟨w.heap.size + 1, 0, none⟩ = some (.slice B b.length d)) := Lib.hid (by
    rw [World.cell?_alloc_lt _ _ _ (by simp)]; simp)
  have HSz : Hid ((((w.alloc (.cells #[.slice A a.length c] 37)).alloc (.cells #[.slice B b.length d] 37)).alloc (.cells #[.slice A a.length c, .slice B b.length d] 37)).heap.size = w.heap.size + 3) := Lib.hid (by simp)
  clear hC1 hE1 hw1
  go_enter Try.func33, Try.ntmps33
  go_wp2_with (first | (go_at_call 58; refine HC1.out.mono ?_; rintro e w3 ⟨u1, rfl, hown1, hb1⟩))
  obtain ⟨A1, c1, rfl⟩ := hown1.value
  obtain ⟨_, hE2⟩ := hown1.elems (by decide) rfl
  have hC2 := made_LessOf (fun n => hasL a n && !hasL b n) (.pointer (some ⟨w.heap.size, 0, none⟩)) (.pointer (some ⟨w.heap.size + 1, 0, none⟩)) (c := c1) w3 (edgesL_is [a, b]) hE2 (fun n w' _ _ hb' => by
    have hb2 := hb1.trans (hb'.mono hb1.size)
    exact LessOfFn_any n w.heap.size (w.heap.size + 1) w' ((hb2.cell (p := ⟨w.heap.size, 0, none⟩) (by rw [HSz.out]; show w.heap.size < w.heap.size + 3; omega)).trans HQ.out) ((hb2.cell (p := ⟨w.heap.size + 1, 0, none⟩) (by rw [HSz.out]; show w.heap.size + 1 < w.heap.size + 3; omega)).trans HR.out) (Rd.below hl2 hb2) (Rd.below hm2 hb2))
  have HC2 := Lib.hid hC2
  clear hC2 hE2
  go_wp2_with (first | (go_at_call 57; refine HC2.out.mono ?_; rintro e w4 ⟨u2, rfl, hown2, hb2⟩))
  go_ret
  refine ⟨u2, rfl, ?_, ?_⟩
  · exact hown2.lower (Nat.le_trans (by rw [HSz.out]; omega) hb1.size)
  · exact HB.out.trans ((hb1.mono (by rw [HSz.out]; omega)).trans (hb2.mono (Nat.le_trans (by rw [HSz.out]; omega) hb1.size)))

end Go.Proofs.Ytlopccnehgolnaa
