/- Contracts of the reference's NormOf and SizeOf. -/
import Derived.Test.YtlopccnehgolnaaMade
import Derived.Test.YtlopccnehgolnaaSort
namespace Go.Proofs.Ytlopccnehgolnaa
open Go.RowKit Rb

theorem NormOfFn_any {S : Nat → Prop} {v : Value} {l : List Rg} (n : Int) (q : Nat) (w : World) (hq : w.cell? ⟨q, 0, none⟩ = some v) (hl : rRgs.rel w S [v] l) :
    Calls Try.prog 59 #[.int .i64 n, .pointer (some ⟨q, 0, none⟩)] w fun e w' => e = .returned (.bool (hasL l n)) ∧ Below w.heap.size w w' := by
  obtain ⟨A, c, rfl, _, _, hn, hE⟩ := rRgs.elems hl
  have HC := Lib.hid (InSet_any n w hl)
  clear hl hE
  go_enter Try.func59, Try.ntmps59
  go_wp2_with (first | (go_at_call 24; refine HC.out.mono ?_; rintro e w' ⟨rfl, hb⟩))
  go_ret
  exact ⟨rfl, hb⟩

theorem Elems.single {w : World} {S : Nat → Prop} {v : Value} {l : List Rg} (hl : rRgs.rel w S [v] l) (t : TypeId) : Elems rRgs (w.alloc (.cells #[v] t)) (fun _ => True) (some ⟨w.heap.size, 0, none⟩) [l] := by
  intro i x hx
  match i, hx with
  | 0, hx =>
    obtain rfl : l = x := by simpa using hx
    refine ⟨w.heap.size, 0, [v], rfl, trivial, by simp, rRgs.mono (Rd.alloc hl _) fun _ _ _ => trivial, fun j u hu => ?_⟩
    match j, hu with
    | 0, hu =>
      obtain rfl : v = u := by simpa using hu
      simp [rRgs, rSl]

theorem NormOf_any {S : Nat → Prop} {v : Value} {l : List Rg} (w : World) (hl : rRgs.rel w S [v] l) :
    Calls Try.prog 20 #[v] w fun e w' => ∃ u, e = .returned u ∧ Own rRg 72 w' w.heap.size (fun _ => False) u (normS l) ∧ Below w.heap.size w w' := by
  obtain ⟨A, c, rfl, _⟩ := rRgs.elems hl
  have hw1 : (w.alloc (.cells #[.slice A l.length c] 37)).heap.size = w.heap.size + 1 := by simp
  have hl1 := Rd.alloc hl (.cells #[.slice A l.length c] 37)
  have hE1 := Elems.single hl1 37
  rw [hw1] at hE1
  have hC1 := edges_any (c := 1) (((w.alloc (.cells #[.slice A l.length c] 37))).alloc (.cells #[.slice A l.length c] 37)) (by simp) hE1
  have HC1 := Lib.hid hC1
  have hl2 := Rd.alloc hl1 (.cells #[.slice A l.length c] 37)
  have HB : Hid (Below w.heap.size w ((w.alloc (.cells #[.slice A l.length c] 37)).alloc (.cells #[.slice A l.length c] 37))) :=
    Lib.hid (((Below.refl _ _).alloc (Nat.le_refl _) _).alloc (by simp) _)
  have HQ : Hid ((((w.alloc (.cells #[.slice A l.length c] 37))).alloc (.cells #[.slice A l.length c] 37)).cell? ⟨w.heap.size, 0, none⟩ = some (.slice A l.length c)) := Lib.hid (by simp)
  have HSz : Hid ((((w.alloc (.cells #[.slice A l.length c] 37))).alloc (.cells #[.slice A l.length c] 37)).heap.size = w.heap.size + 2) := Lib.hid (by simp)
  clear hC1 hE1 hw1
  go_enter Try.func20, Try.ntmps20
  go_wp2_with (first | (go_at_call 58; refine HC1.out.mono ?_; rintro e w3 ⟨u1, rfl, hown1, hb1⟩))
  obtain ⟨A1, c1, rfl⟩ := hown1.value
  obtain ⟨_, hE2⟩ := hown1.elems (by decide) rfl
  have hC2 := made_NormOf (fun n => hasL l n) (.pointer (some ⟨w.heap.size, 0, none⟩)) (c := c1) w3 (edgesL_is [l]) hE2 (fun n w' _ _ hb' => by
    have hb2 := hb1.trans (hb'.mono hb1.size)
    exact NormOfFn_any n w.heap.size w' ((hb2.cell (p := ⟨w.heap.size, 0, none⟩) (by rw [HSz.out]; show w.heap.size < w.heap.size + 2; omega)).trans HQ.out) (Rd.below hl2 hb2))
  have HC2 := Lib.hid hC2
  clear hC2 hE2
  go_wp2_with (first | (go_at_call 57; refine HC2.out.mono ?_; rintro e w4 ⟨u2, rfl, hown2, hb2⟩))
  go_ret
  refine ⟨u2, rfl, ?_, ?_⟩
  · rw [made_norm] at hown2
    exact hown2.lower (Nat.le_trans (by rw [HSz.out]; omega) hb1.size)
  · exact HB.out.trans ((hb1.mono (by rw [HSz.out]; omega)).trans (hb2.mono (Nat.le_trans (by rw [HSz.out]; omega) hb1.size)))

/-- How many numbers a list of ranges has, if no two meet. -/
def sizeN (l : List Rg) : Int := l.foldl (fun n r => n + (r.2 - r.1 + 1)) 0
theorem sizeN_foldl (l : List Rg) (a : Int) : l.foldl (fun n r => n + (r.2 - r.1 + 1)) a = a + sizeN l := by
  unfold sizeN
  induction l generalizing a with
  | nil => simp
  | cons r t ih => simp only [List.foldl_cons]; rw [ih, ih (0 + _)]; omega
theorem sizeN_cons (r : Rg) (l : List Rg) : sizeN (r :: l) = (r.2 - r.1 + 1) + sizeN l := by
  show (r :: l).foldl _ 0 = _
  rw [List.foldl_cons, sizeN_foldl]; omega
theorem sizeN_bd : ∀ {l : List Rg} {a : Int}, GoodFrom a l → 0 ≤ sizeN l ∧ (a ≤ MX → sizeN l ≤ MX - a)
  | [], a, _ => by simp [sizeN]
  | r :: t, a, h => by
    obtain ⟨h1, h2, h3, h4, h5⟩ := h
    have h6 := sizeN_bd h5
    have h7 := h6.2 h2
    rw [sizeN_cons]
    omega
theorem GoodFrom.take : ∀ {l : List Rg} {a : Int} (k : Nat), GoodFrom a l → GoodFrom a (l.take k)
  | [], _, k, _ => by rw [List.take_nil]; trivial
  | r :: t, _, 0, _ => trivial
  | r :: t, _, k + 1, h => ⟨h.1, h.2.1, h.2.2.1, h.2.2.2.1, GoodFrom.take k h.2.2.2.2⟩
theorem sizeN_take {l : List Rg} (h : GoodS l) (k : Nat) : 0 ≤ sizeN (l.take k) ∧ sizeN (l.take k) ≤ 2000002 := by
  have h1 := sizeN_bd (GoodFrom.take k h)
  have h2 := h1.2 (by unfold MX; omega)
  unfold MX at h2
  exact ⟨h1.1, by omega⟩
theorem sizeN_snoc {l : List Rg} {k : Nat} {r : Rg} (h : l[k]? = some r) : sizeN (l.take (k + 1)) = sizeN (l.take k) + (r.2 - r.1 + 1) := by
  unfold sizeN; rw [foldl_take_succ h]
theorem GoodS_len {l : List Rg} (h : GoodS l) : l.length ≤ 2000002 := by
  have key : ∀ {l : List Rg} {a : Int}, GoodFrom a l → a ≤ MX → (l.length : Int) ≤ MX - a := by
    intro l
    induction l with
    | nil => intro a _ _; simp; omega
    | cons r t ih =>
      intro a h ha
      obtain ⟨h1, h2, h3, h4, h5⟩ := h
      have := ih h5 h2
      simp only [List.length_cons]
      omega
  have := key h (by unfold MX; omega)
  unfold MX at this
  omega

set_option maxHeartbeats 1600000 in
theorem SizeOf_any {S : Nat → Prop} {v : Value} {l : List Rg} (w : World) (hl : rRgs.rel w S [v] l) :
    Calls Try.prog 26 #[v] w fun e w' => e = .returned (.int .i64 (sizeN (normS l))) ∧ Below w.heap.size w w' := by
  have hg := (normS_good l).1
  have HC := Lib.hid (NormOf_any w hl)
  clear hl
  generalize hm : normS l = m at *
  have HM := Lib.hid hm
  have HG := Lib.hid hg
  have hlen := GoodS_len hg
  clear hm hg
  go_enter Try.func26, Try.ntmps26
  go_wp2_with (first | (go_at_call 20; refine HC.out.mono ?_; rintro e w1 ⟨u, rfl, hown, hb1⟩; obtain ⟨A1, c1, rfl⟩ := hown.value))
  obtain ⟨_, hE⟩ := hown.elems (by decide) rfl
  clear hown
  go_loopw [3, 9] (fun s i wr => ∃ k : Nat, k ≤ m.length ∧ i = .int .i64 k ∧ s = .int .i64 (sizeN (m.take k)) ∧ Below w1.heap.size w1 wr) (fun _ i _ => m.length - (intOf i).toNat)
  case atStart => exact ⟨0, Nat.zero_le _, rfl, rfl, Below.refl _ _⟩
  case round =>
    obtain ⟨k, hk, rfl, rfl, hbl⟩ := hrel
    by_cases hlt : k < m.length
    · obtain ⟨b, off, lo, up, rfl, _, hb, hx, _, _, h1, h2⟩ := hE.rg hlt
      rw [← hbl.cell (p := ⟨b, _, none⟩) hb] at h1 h2
      have hs := sizeN_snoc hx
      have hbd := sizeN_take HG.out k
      have hr := HG.out.his (lo, up) (List.mem_of_getElem? hx)
      have hr' : -1000000 ≤ lo ∧ up ≤ 1000000 ∧ lo ≤ up := by unfold MX at hr; dsimp only at hr; omega
      have HS := Lib.hid hs
      clear hs hx hE hr
      generalize sizeN (m.take k) = s0 at *
      go_wp2
      go_roundw
      case rel => exact ⟨k + 1, by omega, by go_num, by (rw [HS.out]; try (congr 1; dsimp only; omega)), hbl.alloc hbl.size _⟩
      case measure => simp [intOf]; omega
    · go_wp2
      go_ret
      exact ⟨ret_int (by rw [List.take_of_length_le (by omega)]), hb1.trans (hbl.mono hb1.size)⟩
set_option maxHeartbeats 1600000 in
theorem Size_any {S : Nat → Prop} {v : Value} {l : List Rg} (w : World) (hl : rRgs.rel w S [v] l) :
    Calls Try.prog 25 #[v] w fun e w' => e = .returned (.int .i64 (sizeN (normS l))) ∧ Below w.heap.size w w' := by
  have hg := (normS_good l).1
  have HC := Lib.hid (Norm_any w hl)
  clear hl
  generalize hm : normS l = m at *
  have HM := Lib.hid hm
  have HG := Lib.hid hg
  have hlen := GoodS_len hg
  clear hm hg
  go_enter Try.func25, Try.ntmps25
  go_wp2_with (first | (go_at_call 19; refine HC.out.mono ?_; rintro e w1 ⟨u, rfl, hown, hb1⟩; obtain ⟨A1, c1, rfl⟩ := hown.value))
  obtain ⟨_, hE⟩ := hown.elems (by decide) rfl
  clear hown
  go_loopw [3, 9] (fun s i wr => ∃ k : Nat, k ≤ m.length ∧ i = .int .i64 k ∧ s = .int .i64 (sizeN (m.take k)) ∧ Below w1.heap.size w1 wr) (fun _ i _ => m.length - (intOf i).toNat)
  case atStart => exact ⟨0, Nat.zero_le _, rfl, rfl, Below.refl _ _⟩
  case round =>
    obtain ⟨k, hk, rfl, rfl, hbl⟩ := hrel
    by_cases hlt : k < m.length
    · obtain ⟨b, off, lo, up, rfl, _, hb, hx, _, _, h1, h2⟩ := hE.rg hlt
      rw [← hbl.cell (p := ⟨b, _, none⟩) hb] at h1 h2
      have hs := sizeN_snoc hx
      have hbd := sizeN_take HG.out k
      have hr := HG.out.his (lo, up) (List.mem_of_getElem? hx)
      have hr' : -1000000 ≤ lo ∧ up ≤ 1000000 ∧ lo ≤ up := by unfold MX at hr; dsimp only at hr; omega
      have HS := Lib.hid hs
      clear hs hx hE hr
      generalize sizeN (m.take k) = s0 at *
      go_wp2
      go_roundw
      case rel => exact ⟨k + 1, by omega, by go_num, by (rw [HS.out]; try (congr 1; dsimp only; omega)), hbl.alloc hbl.size _⟩
      case measure => simp [intOf]; omega
    · go_wp2
      go_ret
      exact ⟨ret_int (by rw [List.take_of_length_le (by omega)]), hb1.trans (hbl.mono hb1.size)⟩

end Go.Proofs.Ytlopccnehgolnaa
