
/- The contracts of the reference's search: its closure, which calls itself, at the two questions (no number holds; rules clash). -/
import Derived.Test.YtlopccnehgolnabGreatDoorGrT
import Derived.Test.YtlopccnehgolnabGreatDoorRefY
import Derived.Test.YtlopccnehgolnabGreatDoorGrU
namespace Go.Proofs.YtlopccnehgolnabGreatDoor
open Go.RowKit Rb

theorem GapFn_any {S T : Nat → Prop} {k0 k1 k2 k3 k4 v : Value} {t : Tb} {ns : List Int} (P : Nat) (w : World) (h0 : w.cell? ⟨P, 0, none⟩ = some k0) (h1 : w.cell? ⟨P, 1, none⟩ = some k1) (h2 : w.cell? ⟨P, 2, none⟩ = some k2) (h3 : w.cell? ⟨P, 3, none⟩ = some k3) (h4 : w.cell? ⟨P, 4, none⟩ = some k4)
    (hl : rTb.rel w S [k0, k1, k2, k3, k4] t) (hn : (rSl rInt).rel w T [v] ns) :
    Calls Tryz.prog 59 #[v, .pointer (some ⟨P, 0, none⟩)] w fun e w' => e = .returned (.bool (decide ((matchesL t.rules ns).length = 0))) ∧ Below w.heap.size w w' := by
  obtain ⟨vi, vr, e, hnm, hp, hi, hr⟩ := hl
  obtain ⟨rfl, rfl, rfl, rfl, rfl⟩ : k0 = _ ∧ k1 = _ ∧ k2 = _ ∧ k3 = _ ∧ k4 = _ := by simpa using e
  have HC := Lib.hid (MatchesOf_any (x0 := .string ⟨t.name.toArray⟩) (x1 := .int .i64 t.pol) (x2 := .bool t.comp) (x3 := k3) w hr hn)
  clear hi hr hn e
  go_enter Tryz.func59, Tryz.ntmps59
  go_wp2_with (first | (go_at_call 60; go_must ((with_reducible refine HC.out.mono ?_); rintro e w1 ⟨z, rfl, hown, hb⟩; obtain ⟨A, c, rfl⟩ := hown.value)))
  go_ret
  refine ⟨?_, hb⟩
  show Ending.returned (Value.bool (((matchesL t.rules ns).length : Int) == 0)) = _
  congr 2
  rw [Bool.eq_iff_iff]
  simp

theorem ClashFn_any {S T : Nat → Prop} {k0 k1 k2 k3 k4 v : Value} {t : Tb} {ns : List Int} (P : Nat) (w : World) (h0 : w.cell? ⟨P, 0, none⟩ = some k0) (h1 : w.cell? ⟨P, 1, none⟩ = some k1) (h2 : w.cell? ⟨P, 2, none⟩ = some k2) (h3 : w.cell? ⟨P, 3, none⟩ = some k3) (h4 : w.cell? ⟨P, 4, none⟩ = some k4)
    (hl : rTb.rel w S [k0, k1, k2, k3, k4] t) (hn : (rSl rInt).rel w T [v] ns) :
    Calls Tryz.prog 63 #[v, .pointer (some ⟨P, 0, none⟩)] w fun e w' => e = .returned (.bool (decide ((saysT t ns).2.2 = 4))) ∧ Below w.heap.size w w' := by
  have HC := Lib.hid (SaysOf_any w hl hn)
  generalize saysT t ns = x at *
  obtain ⟨s0, s1, s2⟩ := x
  unfold sayV at HC
  dsimp only at HC ⊢
  clear hl hn
  go_enter Tryz.func63, Tryz.ntmps63
  go_wp2_with (first | (go_at_call 64; go_must ((with_reducible refine HC.out.mono ?_); rintro e w1 ⟨rfl, hb⟩)))
  go_ret
  refine ⟨?_, hb⟩
  show Ending.returned (Value.bool (s2 == 4)) = _
  congr 2

/-- What the closure's cells say, and that the input so far is a row of the call's own. -/
structure FindSt (Wq : World) (qa qh qi qw B : Nat) (pre : List Int) (v : Value) (w : World) : Prop where
  bel : Below Wq.heap.size Wq w
  cur : w.cell? ⟨qi, 0, none⟩ = some v
  fz : w.frozen? ⟨qi, 0, none⟩ = false
  walk : w.cell? ⟨qw, 0, none⟩ = some (.func (.func 120) #[] #[.pointer (some ⟨qi, 0, none⟩), .pointer (some ⟨qa, 0, none⟩), .pointer (some ⟨qh, 0, none⟩), .pointer (some ⟨qw, 0, none⟩)])
  own : Own rInt 3 w B (fun _ => False) v pre
  big : B ≤ w.heap.size
  hq : Wq.heap.size ≤ qi ∧ Wq.heap.size ≤ qw ∧ qi < B ∧ qw < B ∧ qi ≠ qw

section
variable {Wq : World} {qa qh qi qw B : Nat} {pre pre' : List Int} {v u : Value} {w w' : World}
theorem FindSt.quiet (h : FindSt Wq qa qh qi qw B pre v w) (hb : Below w.heap.size w w') : FindSt Wq qa qh qi qw B pre v w' := by
  have hq := h.hq
  have hbig := h.big
  refine ⟨h.bel.trans (hb.mono (by omega)), (hb.cell (p := ⟨qi, 0, none⟩) (by show qi < _; omega)).trans h.cur, (hb.frozen (p := ⟨qi, 0, none⟩) (by show qi < _; omega)).trans h.fz, (hb.cell (p := ⟨qw, 0, none⟩) (by show qw < _; omega)).trans h.walk, h.own.below hb, Nat.le_trans hbig hb.size, hq⟩
theorem FindSt.put (h : FindSt Wq qa qh qi qw B pre v w) (hb : Below B w w') (ho : Own rInt 3 w' B (fun _ => False) u pre') :
    FindSt Wq qa qh qi qw B pre' u (w'.setCell ⟨qi, 0, none⟩ u) ∧ w'.cell? ⟨qi, 0, none⟩ = some v ∧ w'.frozen? ⟨qi, 0, none⟩ = false := by
  have hq := h.hq
  have hbig := h.big
  have h1 := (hb.cell (p := ⟨qi, 0, none⟩) (by show qi < _; omega)).trans h.cur
  have h2 := (hb.frozen (p := ⟨qi, 0, none⟩) (by show qi < _; omega)).trans h.fz
  have h3 := (hb.cell (p := ⟨qw, 0, none⟩) (by show qw < _; omega)).trans h.walk
  refine ⟨⟨(h.bel.trans (hb.mono (by omega))).setCell hq.1 _, World.cell?_setCell_same _ _ _ h1, by rw [World.frozen?_setCell]; exact h2, (World.cell?_setCell_other _ _ _ _ (by simp <;> omega)).trans h3, ho.setLow hq.2.2.1 _, ?_, hq⟩, h1, h2⟩
  have := hb.size
  simp
  omega
end

theorem findS_none {p : List Int → Bool} {ats : List (List Int)} {pre : List Int} {n : Int} {l : List Int} (h : findL p ats (pre ++ [n]) = none) : (n :: l).findSome? (fun n => findL p ats (pre ++ [n])) = l.findSome? (fun n => findL p ats (pre ++ [n])) := by
  rw [List.findSome?_cons, h]
theorem findS_some {p : List Int → Bool} {ats : List (List Int)} {pre : List Int} {n : Int} {l z : List Int} (h : findL p ats (pre ++ [n]) = some z) : (n :: l).findSome? (fun n => findL p ats (pre ++ [n])) = some z := by
  rw [List.findSome?_cons, h]
theorem find_end {p : List Int → Bool} {ats : List (List Int)} {pre : List Int} (h : pre.length = ats.length) : findL p (ats.drop pre.length) pre = if p pre then some pre else none := by
  rw [h, List.drop_length]; rfl
theorem find_atF {p : List Int → Bool} {ats : List (List Int)} {pre : List Int} {l : List Int} (h : ats[pre.length]? = some l) : findL p (ats.drop pre.length) pre = l.findSome? fun n => findL p (ats.drop (pre.length + 1)) (pre ++ [n]) := by
  rw [drop_cons h]; rfl

/-- The closure's answer, and what it leaves: the input found, or the one it was called with. -/
def FindOut (Wq : World) (qa qh qi qw B : Nat) (pre : List Int) (f : Option (List Int)) (e : Ending) (w' : World) : Prop :=
  ∃ v, e = .returned (.bool f.isSome) ∧ FindSt Wq qa qh qi qw B (f.getD pre) v w'

set_option maxRecDepth 100000 in
theorem searchGap_fn {p : List Int → Bool} {P va : Value} {S : Nat → Prop} {ats : List (List Int)} {qa qh qi qw B : Nat} {Wq : World} (hla : Wq.cell? ⟨qa, 0, none⟩ = some va) (hat : (rSl (rSl rInt)).rel Wq S [va] ats) (hh : Wq.cell? ⟨qh, 0, none⟩ = some (.func (.func 59) #[] #[P]))
    (hp : ∀ (w' : World), Below Wq.heap.size Wq w' → ∀ (T : Nat → Prop) (v : Value) (ns : List Int), (rSl rInt).rel w' T [v] ns → Calls Tryz.prog 59 #[v, P] w' fun e w'' => e = .returned (.bool (p ns)) ∧ Below w'.heap.size w' w'') :
    ∀ (m : Nat) (pre : List Int) (v : Value) (w : World), pre.length + m = ats.length → FindSt Wq qa qh qi qw B pre v w →
      Calls Tryz.prog 120 #[.pointer (some ⟨qi, 0, none⟩), .pointer (some ⟨qa, 0, none⟩), .pointer (some ⟨qh, 0, none⟩), .pointer (some ⟨qw, 0, none⟩)] w (FindOut Wq qa qh qi qw B pre (findL p (ats.drop pre.length) pre)) := by
  have HP := Lib.hid hp
  have hbl := rSl.lenle hat (by decide)
  obtain ⟨A, c, rfl, _, _, _, hE⟩ := rSl.elems hat
  have HE := Lib.hid hE
  have HA := Lib.hid hla
  have HH := Lib.hid hh
  have hqa := World.block_lt_of_cell? Wq _ hla
  have hqh := World.block_lt_of_cell? Wq _ hh
  clear hp hat hE hla hh
  intro m
  induction m with
  | zero =>
    intro pre v w hm hst
    obtain ⟨B', d, rfl⟩ := hst.own.value
    have a0 := hst.cur
    have a1 := (hst.bel.cell (p := ⟨qa, 0, none⟩) hqa).trans HA.out
    have a2 := (hst.bel.cell (p := ⟨qh, 0, none⟩) hqh).trans HH.out
    have HC := Lib.hid (HP.out w hst.bel _ _ pre (hst.own.rel (by decide)))
    have HST := Lib.hid hst
    have HF := Lib.hid (find_end (p := p) (ats := ats) (pre := pre) (by omega))
    have heq : (pre.length : Int) = (ats.length : Int) := by omega
    clear hst
    go_enter Tryz.func120, Tryz.ntmps120
    go_wp2_with (first | (go_at_call 59; go_must ((with_reducible refine HC.out.mono ?_); rintro e w1 ⟨rfl, hb⟩)))
    go_ret
    rw [HF.out]
    refine ⟨.slice B' pre.length d, ?_, ?_⟩
    · show Ending.returned (Value.bool (p pre)) = _
      cases p pre <;> rfl
    · have := HST.out.quiet hb
      split <;> exact this
  | succ m ih =>
    intro pre v w hm hst
    have hlt : pre.length < ats.length := by omega
    obtain ⟨B', d, rfl⟩ := hst.own.value
    obtain ⟨bA, off, vl, l, rfl, _, hbA, hx, hs, g1⟩ := HE.out.sl hlt
    obtain ⟨C, d', rfl, _, _, hbl', hL⟩ := rSl.elems hs
    have hll : l.length ≤ 17592186044416 := by simp only [rInt] at hbl'; omega
    have a0 := hst.cur
    have a1 := (hst.bel.cell (p := ⟨qa, 0, none⟩) hqa).trans HA.out
    have a3 := (hst.bel.cell (p := ⟨bA, off + pre.length, none⟩) hbA).trans g1
    have hne : (pre.length : Int) ≠ (ats.length : Int) := by omega
    have hik : (pre.length : Int) < (ats.length : Int) := by omega
    have HF := Lib.hid (find_atF (p := p) hx)
    have HST := Lib.hid hst
    have HL := Lib.hid hL
    have HIH := Lib.hid fun n v w h => ih (pre ++ [n]) v w (by simp; omega) h
    simp only [List.length_append, List.length_singleton] at HIH
    clear hst hs hL hx ih
    go_enter Tryz.func120, Tryz.ntmps120
    go_wp2
    go_loopw [21] (fun i wr => ∃ (k : Nat) (v : Value), k ≤ l.length ∧ i = .int .i64 k ∧ Hid (FindSt Wq qa qh qi qw B pre v wr) ∧ Hid (findL p (ats.drop pre.length) pre = (l.drop k).findSome? fun n => findL p (ats.drop (pre.length + 1)) (pre ++ [n]))) (fun i _ => l.length - (intOf i).toNat)
    case atStart => exact ⟨0, _, Nat.zero_le _, rfl, HST, HF⟩
    case round =>
      clear HF HST a0 a1 a3
      obtain ⟨k, v, hk, rfl, HST, HF⟩ := hrel
      obtain ⟨B', d, rfl⟩ := HST.out.own.value
      by_cases hlt : k < l.length
      · obtain ⟨b, off', n, rfl, _, hb, hx, hin, h1⟩ := HL.out.int hlt
        have b0 := HST.out.cur
        have b1 := (HST.out.bel.cell (p := ⟨b, off' + k, none⟩) hb).trans h1
        have hik2 : (k : Int) < (l.length : Int) := by omega
        have HOW := Lib.hid HST.out.own
        have HBIG := Lib.hid HST.out.big
        have HBY : Hid ((pre.length + 1) * rInt.bytes ≤ 140737488355328) := Lib.hid (by simp only [rInt]; omega)
        have HIN := Lib.hid hin
        have HPUT := Lib.hid fun (u : Value) (w' : World) (pre' : List Int) => HST.out.put (w' := w') (pre' := pre') (u := u)
        have HIH2 := Lib.hid fun v w h => HIH.out n v w h
        have hdr := drop_cons hx
        have HD := Lib.hid hdr
        cases hf : findL p (ats.drop (pre.length + 1)) (pre ++ [n]) with
        | some z =>
          have HFF := Lib.hid (HF.out.trans ((congrArg _ hdr).trans (findS_some hf)))
          have HZ := Lib.hid hf
          clear hdr hf hx h1 hin
          go_wp2_with (first | (at_builtin; go_must (refine wpList_append_new (R := rInt) (x := n) el_Int rfl (.tmp 25) (.tmp 27) rfl rfl HOW.out [.int .i64 n] rfl rfl (fun _ => False) ⟨rfl, HIN.out⟩ (fun _ h => h.elim) HBY.out HBIG.out ?_); intro v9 w9 hown9 hb9 _ _; obtain ⟨A9, d9, e9⟩ := hown9.value; rw [List.length_append, List.length_singleton] at e9; subst e9; obtain ⟨hst9, c9, z9⟩ := HPUT.out _ w9 _ hb9 hown9; obtain ⟨W5, e5, HST5, c5⟩ : ∃ W5, w9.setCell ⟨qi, 0, none⟩ (.slice A9 (pre.length + 1) d9) = W5 ∧ Hid (FindSt Wq qa qh qi qw B (pre ++ [n]) (.slice A9 (pre.length + 1) d9) W5) ∧ W5.cell? ⟨qw, 0, none⟩ = _ := ⟨_, rfl, Lib.hid hst9, hst9.walk⟩; clear hst9 hown9 hb9) | (go_at_call 120; go_must ((with_reducible refine (HIH2.out _ _ HST5.out).mono ?_); rintro e w6 ⟨v6, e6, hst6⟩; rw [HZ.out] at e6 hst6; replace e6 : e = .returned (.bool true) := e6; subst e6)))
          go_ret
          rw [HFF.out]
          exact ⟨_, rfl, hst6⟩
        | none =>
          have HFF := Lib.hid (HF.out.trans ((congrArg _ hdr).trans (findS_none hf)))
          have HZ := Lib.hid hf
          clear hdr hf hx h1 hin
          go_wp2_with (first | (at_builtin; go_must (refine wpList_append_new (R := rInt) (x := n) el_Int rfl (.tmp 25) (.tmp 27) rfl rfl HOW.out [.int .i64 n] rfl rfl (fun _ => False) ⟨rfl, HIN.out⟩ (fun _ h => h.elim) HBY.out HBIG.out ?_); intro v9 w9 hown9 hb9 _ _; obtain ⟨A9, d9, e9⟩ := hown9.value; rw [List.length_append, List.length_singleton] at e9; subst e9; obtain ⟨hst9, c9, z9⟩ := HPUT.out _ w9 _ hb9 hown9; obtain ⟨W5, e5, HST5, c5⟩ : ∃ W5, w9.setCell ⟨qi, 0, none⟩ (.slice A9 (pre.length + 1) d9) = W5 ∧ Hid (FindSt Wq qa qh qi qw B (pre ++ [n]) (.slice A9 (pre.length + 1) d9) W5) ∧ W5.cell? ⟨qw, 0, none⟩ = _ := ⟨_, rfl, Lib.hid hst9, hst9.walk⟩; clear hst9 hown9 hb9) | (go_at_call 120; go_must ((with_reducible refine (HIH2.out _ _ HST5.out).mono ?_); rintro e w6 ⟨v6, e6, hst6⟩; rw [HZ.out] at e6 hst6; replace e6 : e = .returned (.bool false) := e6; subst e6; replace hst6 : FindSt Wq qa qh qi qw B (pre ++ [n]) v6 w6 := hst6; obtain ⟨A6, d6, e6⟩ := hst6.own.value; rw [List.length_append, List.length_singleton] at e6; subst e6; have hst7 := hst6.put (Below.refl _ _) (hst6.own.take (k := pre.length) rfl (by rw [List.length_append]; omega)); obtain ⟨W7, e7, HST7⟩ : ∃ W7, w6.setCell ⟨qi, 0, none⟩ (.slice A6 pre.length d6) = W7 ∧ Hid (FindSt Wq qa qh qi qw B pre (.slice A6 pre.length d6) W7) := ⟨_, rfl, Lib.hid (by have := hst7.1; rwa [List.take_left'  rfl] at this)⟩; have c6 := hst7.2.1; have z6 := hst7.2.2; have hsub : IntKind.i64.wrap (((pre.length + 1 : Nat) : Int) - 1) = pre.length := (IntWalk.i64_in _ (by omega)).trans (by omega); have hsub2 : IntKind.i64.wrap ((pre.length : Int) + 1 - 1) = pre.length := (IntWalk.i64_in _ (by omega)).trans (by omega); have hcap6 := hst6.own.cap rfl; rw [List.length_append, List.length_singleton] at hcap6; have hcap7 : pre.length ≤ d6 := (by omega); clear hst6 hst7 hcap6)))
          go_roundw
          case rel => exact ⟨k + 1, _, by omega, by go_num, HST7, HFF⟩
          case measure => simp [intOf]; omega
      · have HFF : Hid (findL p (ats.drop pre.length) pre = none) := Lib.hid (by rw [HF.out, List.drop_eq_nil_of_le (show l.length ≤ k by omega)]; rfl)
        go_wp2
        go_ret
        rw [HFF.out]
        exact ⟨_, rfl, HST.out⟩
set_option maxRecDepth 100000 in
theorem searchClash_fn {p : List Int → Bool} {P va : Value} {S : Nat → Prop} {ats : List (List Int)} {qa qh qi qw B : Nat} {Wq : World} (hla : Wq.cell? ⟨qa, 0, none⟩ = some va) (hat : (rSl (rSl rInt)).rel Wq S [va] ats) (hh : Wq.cell? ⟨qh, 0, none⟩ = some (.func (.func 63) #[] #[P]))
    (hp : ∀ (w' : World), Below Wq.heap.size Wq w' → ∀ (T : Nat → Prop) (v : Value) (ns : List Int), (rSl rInt).rel w' T [v] ns → Calls Tryz.prog 63 #[v, P] w' fun e w'' => e = .returned (.bool (p ns)) ∧ Below w'.heap.size w' w'') :
    ∀ (m : Nat) (pre : List Int) (v : Value) (w : World), pre.length + m = ats.length → FindSt Wq qa qh qi qw B pre v w →
      Calls Tryz.prog 120 #[.pointer (some ⟨qi, 0, none⟩), .pointer (some ⟨qa, 0, none⟩), .pointer (some ⟨qh, 0, none⟩), .pointer (some ⟨qw, 0, none⟩)] w (FindOut Wq qa qh qi qw B pre (findL p (ats.drop pre.length) pre)) := by
  have HP := Lib.hid hp
  have hbl := rSl.lenle hat (by decide)
  obtain ⟨A, c, rfl, _, _, _, hE⟩ := rSl.elems hat
  have HE := Lib.hid hE
  have HA := Lib.hid hla
  have HH := Lib.hid hh
  have hqa := World.block_lt_of_cell? Wq _ hla
  have hqh := World.block_lt_of_cell? Wq _ hh
  clear hp hat hE hla hh
  intro m
  induction m with
  | zero =>
    intro pre v w hm hst
    obtain ⟨B', d, rfl⟩ := hst.own.value
    have a0 := hst.cur
    have a1 := (hst.bel.cell (p := ⟨qa, 0, none⟩) hqa).trans HA.out
    have a2 := (hst.bel.cell (p := ⟨qh, 0, none⟩) hqh).trans HH.out
    have HC := Lib.hid (HP.out w hst.bel _ _ pre (hst.own.rel (by decide)))
    have HST := Lib.hid hst
    have HF := Lib.hid (find_end (p := p) (ats := ats) (pre := pre) (by omega))
    have heq : (pre.length : Int) = (ats.length : Int) := by omega
    clear hst
    go_enter Tryz.func120, Tryz.ntmps120
    go_wp2_with (first | (go_at_call 63; go_must ((with_reducible refine HC.out.mono ?_); rintro e w1 ⟨rfl, hb⟩)))
    go_ret
    rw [HF.out]
    refine ⟨.slice B' pre.length d, ?_, ?_⟩
    · show Ending.returned (Value.bool (p pre)) = _
      cases p pre <;> rfl
    · have := HST.out.quiet hb
      split <;> exact this
  | succ m ih =>
    intro pre v w hm hst
    have hlt : pre.length < ats.length := by omega
    obtain ⟨B', d, rfl⟩ := hst.own.value
    obtain ⟨bA, off, vl, l, rfl, _, hbA, hx, hs, g1⟩ := HE.out.sl hlt
    obtain ⟨C, d', rfl, _, _, hbl', hL⟩ := rSl.elems hs
    have hll : l.length ≤ 17592186044416 := by simp only [rInt] at hbl'; omega
    have a0 := hst.cur
    have a1 := (hst.bel.cell (p := ⟨qa, 0, none⟩) hqa).trans HA.out
    have a3 := (hst.bel.cell (p := ⟨bA, off + pre.length, none⟩) hbA).trans g1
    have hne : (pre.length : Int) ≠ (ats.length : Int) := by omega
    have hik : (pre.length : Int) < (ats.length : Int) := by omega
    have HF := Lib.hid (find_atF (p := p) hx)
    have HST := Lib.hid hst
    have HL := Lib.hid hL
    have HIH := Lib.hid fun n v w h => ih (pre ++ [n]) v w (by simp; omega) h
    simp only [List.length_append, List.length_singleton] at HIH
    clear hst hs hL hx ih
    go_enter Tryz.func120, Tryz.ntmps120
    go_wp2
    go_loopw [21] (fun i wr => ∃ (k : Nat) (v : Value), k ≤ l.length ∧ i = .int .i64 k ∧ Hid (FindSt Wq qa qh qi qw B pre v wr) ∧ Hid (findL p (ats.drop pre.length) pre = (l.drop k).findSome? fun n => findL p (ats.drop (pre.length + 1)) (pre ++ [n]))) (fun i _ => l.length - (intOf i).toNat)
    case atStart => exact ⟨0, _, Nat.zero_le _, rfl, HST, HF⟩
    case round =>
      clear HF HST a0 a1 a3
      obtain ⟨k, v, hk, rfl, HST, HF⟩ := hrel
      obtain ⟨B', d, rfl⟩ := HST.out.own.value
      by_cases hlt : k < l.length
      · obtain ⟨b, off', n, rfl, _, hb, hx, hin, h1⟩ := HL.out.int hlt
        have b0 := HST.out.cur
        have b1 := (HST.out.bel.cell (p := ⟨b, off' + k, none⟩) hb).trans h1
        have hik2 : (k : Int) < (l.length : Int) := by omega
        have HOW := Lib.hid HST.out.own
        have HBIG := Lib.hid HST.out.big
        have HBY : Hid ((pre.length + 1) * rInt.bytes ≤ 140737488355328) := Lib.hid (by simp only [rInt]; omega)
        have HIN := Lib.hid hin
        have HPUT := Lib.hid fun (u : Value) (w' : World) (pre' : List Int) => HST.out.put (w' := w') (pre' := pre') (u := u)
        have HIH2 := Lib.hid fun v w h => HIH.out n v w h
        have hdr := drop_cons hx
        have HD := Lib.hid hdr
        cases hf : findL p (ats.drop (pre.length + 1)) (pre ++ [n]) with
        | some z =>
          have HFF := Lib.hid (HF.out.trans ((congrArg _ hdr).trans (findS_some hf)))
          have HZ := Lib.hid hf
          clear hdr hf hx h1 hin
          go_wp2_with (first | (at_builtin; go_must (refine wpList_append_new (R := rInt) (x := n) el_Int rfl (.tmp 25) (.tmp 27) rfl rfl HOW.out [.int .i64 n] rfl rfl (fun _ => False) ⟨rfl, HIN.out⟩ (fun _ h => h.elim) HBY.out HBIG.out ?_); intro v9 w9 hown9 hb9 _ _; obtain ⟨A9, d9, e9⟩ := hown9.value; rw [List.length_append, List.length_singleton] at e9; subst e9; obtain ⟨hst9, c9, z9⟩ := HPUT.out _ w9 _ hb9 hown9; obtain ⟨W5, e5, HST5, c5⟩ : ∃ W5, w9.setCell ⟨qi, 0, none⟩ (.slice A9 (pre.length + 1) d9) = W5 ∧ Hid (FindSt Wq qa qh qi qw B (pre ++ [n]) (.slice A9 (pre.length + 1) d9) W5) ∧ W5.cell? ⟨qw, 0, none⟩ = _ := ⟨_, rfl, Lib.hid hst9, hst9.walk⟩; clear hst9 hown9 hb9) | (go_at_call 120; go_must ((with_reducible refine (HIH2.out _ _ HST5.out).mono ?_); rintro e w6 ⟨v6, e6, hst6⟩; rw [HZ.out] at e6 hst6; replace e6 : e = .returned (.bool true) := e6; subst e6)))
          go_ret
          rw [HFF.out]
          exact ⟨_, rfl, hst6⟩
        | none =>
          have HFF := Lib.hid (HF.out.trans ((congrArg _ hdr).trans (findS_none hf)))
          have HZ := Lib.hid hf
          clear hdr hf hx h1 hin
          go_wp2_with (first | (at_builtin; go_must (refine wpList_append_new (R := rInt) (x := n) el_Int rfl (.tmp 25) (.tmp 27) rfl rfl HOW.out [.int .i64 n] rfl rfl (fun _ => False) ⟨rfl, HIN.out⟩ (fun _ h => h.elim) HBY.out HBIG.out ?_); intro v9 w9 hown9 hb9 _ _; obtain ⟨A9, d9, e9⟩ := hown9.value; rw [List.length_append, List.length_singleton] at e9; subst e9; obtain ⟨hst9, c9, z9⟩ := HPUT.out _ w9 _ hb9 hown9; obtain ⟨W5, e5, HST5, c5⟩ : ∃ W5, w9.setCell ⟨qi, 0, none⟩ (.slice A9 (pre.length + 1) d9) = W5 ∧ Hid (FindSt Wq qa qh qi qw B (pre ++ [n]) (.slice A9 (pre.length + 1) d9) W5) ∧ W5.cell? ⟨qw, 0, none⟩ = _ := ⟨_, rfl, Lib.hid hst9, hst9.walk⟩; clear hst9 hown9 hb9) | (go_at_call 120; go_must ((with_reducible refine (HIH2.out _ _ HST5.out).mono ?_); rintro e w6 ⟨v6, e6, hst6⟩; rw [HZ.out] at e6 hst6; replace e6 : e = .returned (.bool false) := e6; subst e6; replace hst6 : FindSt Wq qa qh qi qw B (pre ++ [n]) v6 w6 := hst6; obtain ⟨A6, d6, e6⟩ := hst6.own.value; rw [List.length_append, List.length_singleton] at e6; subst e6; have hst7 := hst6.put (Below.refl _ _) (hst6.own.take (k := pre.length) rfl (by rw [List.length_append]; omega)); obtain ⟨W7, e7, HST7⟩ : ∃ W7, w6.setCell ⟨qi, 0, none⟩ (.slice A6 pre.length d6) = W7 ∧ Hid (FindSt Wq qa qh qi qw B pre (.slice A6 pre.length d6) W7) := ⟨_, rfl, Lib.hid (by have := hst7.1; rwa [List.take_left'  rfl] at this)⟩; have c6 := hst7.2.1; have z6 := hst7.2.2; have hsub : IntKind.i64.wrap (((pre.length + 1 : Nat) : Int) - 1) = pre.length := (IntWalk.i64_in _ (by omega)).trans (by omega); have hsub2 : IntKind.i64.wrap ((pre.length : Int) + 1 - 1) = pre.length := (IntWalk.i64_in _ (by omega)).trans (by omega); have hcap6 := hst6.own.cap rfl; rw [List.length_append, List.length_singleton] at hcap6; have hcap7 : pre.length ≤ d6 := (by omega); clear hst6 hst7 hcap6)))
          go_roundw
          case rel => exact ⟨k + 1, _, by omega, by go_num, HST7, HFF⟩
          case measure => simp [intOf]; omega
      · have HFF : Hid (findL p (ats.drop pre.length) pre = none) := Lib.hid (by rw [HF.out, List.drop_eq_nil_of_le (show l.length ≤ k by omega)]; rfl)
        go_wp2
        go_ret
        rw [HFF.out]
        exact ⟨_, rfl, HST.out⟩

end Go.Proofs.YtlopccnehgolnabGreatDoor
