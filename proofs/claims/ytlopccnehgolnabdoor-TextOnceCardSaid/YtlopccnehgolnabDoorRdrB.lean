
/- The reader's name and number. -/
import Derived.Test.YtlopccnehgolnabDoorRdr
import Derived.Test.YtlopccnehgolnabDoorShTx
import Derived.Test.YtlopccnehgolnabDoorTabA
namespace Go.Proofs.YtlopccnehgolnabDoor
open Go.RowKit Rb

theorem LibW.below {w w' : World} (h : LibW w) (hb : Below w.heap.size w w') : LibW w' := by
  have hg : ∀ (n : String) (cs : Array Value), w.var? Tryd.prog n = some cs → w'.var? Tryd.prog n = some cs := by
    intro n cs hv
    unfold World.var? at hv ⊢
    cases hg : Tryd.prog.globalNamed n with
    | none => rw [hg] at hv; cases hv
    | some g =>
      rw [hg] at hv
      simp only [Option.bind_some] at hv ⊢
      have hlt : g < w.heap.size := by
        rcases Nat.lt_or_ge g w.heap.size with hl | hge
        · exact hl
        · rw [Array.getElem?_eq_none hge] at hv; cases hv
      rw [hb.block g hlt]
      exact hv
  obtain ⟨h1, ⟨tp, p, h2⟩, ⟨tq, q, h3⟩⟩ := h
  exact ⟨hg _ _ h1, ⟨tp, p, hg _ _ h2⟩, ⟨tq, q, hg _ _ h3⟩⟩

def nameR (r : Rs) : Txt × Rs := ((nextR r).1, ⟨(nextR r).2.l, (nextR r).2.bad || !named (nextR r).1⟩)
/-- The number that a word is, if it is one. -/
def numOf (s : Txt) : Option Int := match Lib.atoiAll s with | .ok v => if Lib.itoa v = s ∧ -1000000 ≤ v ∧ v ≤ 1000000 then some v else none | _ => none
def numberR (r : Rs) : Int × Rs := match numOf (nextR r).1 with | some v => (v, (nextR r).2) | none => (0, ⟨(nextR r).2.l, true⟩)

theorem RdAt.wlen {w : World} {q : Nat} {r : Rs} (h : RdAt w q r) : (nextR r).1.length ≤ 140737488355328 := by
  obtain ⟨l, bad⟩ := r
  cases l with
  | nil => simp [nextR]
  | cons s l =>
    obtain ⟨A, c, h0, h1, z0, z1, hr⟩ := h
    obtain ⟨A1, k1, hA0, hc1, hc2, hby, hE⟩ := rSl.elems hr
    obtain ⟨b, off, x, _, _, _, hx, hxl, _⟩ := hE.str (i := 0) (by simp)
    obtain rfl : s = x := Option.some.inj hx
    exact hxl

set_option maxRecDepth 100000 in
set_option maxHeartbeats 800000 in
theorem rname_any {q : Nat} {r : Rs} (w : World) (h : RdAt w q r) :
    Calls Tryd.prog 24 #[.pointer (some ⟨q, 0, none⟩)] w fun e w' => e = .returned (.string ⟨(nameR r).1.toArray⟩) ∧ RdAt w' q (nameR r).2 ∧ Only q w w' := by
  have HN := Lib.hid (next_any w h)
  have hsl := h.wlen
  obtain ⟨⟨s, l1, b1⟩, hn⟩ : ∃ x, nextR r = x := ⟨_, rfl⟩
  have HR : Hid (nameR r = (s, ⟨l1, b1 || !named s⟩)) := Lib.hid (by unfold nameR; rw [hn])
  rw [hn] at HN hsl
  rw [HR.out]
  obtain ⟨f, hf⟩ : ∃ x, named s = x := ⟨_, rfl⟩
  have HM : Hid (∀ w, Calls Tryd.prog 45 #[.string ⟨s.toArray⟩] w fun e w' => e = .returned (.bool f) ∧ w = w') := Lib.hid fun w => hf ▸ Named_any s w hsl
  rw [hf]
  clear hn hf h
  go_enter Tryd.func24, Tryd.ntmps24
  cases b1
  all_goals
    go_wp2_with (first | (go_at_call 55; go_must ((with_reducible refine HN.out.mono ?_); rintro e w1 ⟨rfl, h1, o1⟩; obtain ⟨k1, z1⟩ := h1.bad; have H1 := Lib.hid h1; have O1 := Lib.hid o1; clear h1 o1)) | (go_at_call 45; go_must ((with_reducible refine (HM.out w1).mono ?_); rintro e w2 ⟨rfl, rfl⟩)))
    go_ret
    exact ⟨rfl, H1.out.setBad _, O1.out.trans (Only.set _ _ _)⟩

theorem numOf_ok {s : Txt} {v : Int} (h : Lib.atoiAll s = .ok v) : numOf s = if Lib.itoa v = s ∧ -1000000 ≤ v ∧ v ≤ 1000000 then some v else none := by unfold numOf; rw [h]
theorem numOf_no {s : Txt} (h : ∀ v, Lib.atoiAll s ≠ .ok v) : numOf s = none := by
  unfold numOf
  split
  · rename_i v hv; exact absurd hv (h v)
  · rfl
theorem atoi_in {s : Txt} {v : Int} (h : Lib.atoiAll s = .ok v) : InI v := by
  unfold Lib.atoiAll at h
  split at h
  · cases h
  · rename_i c r
    dsimp only at h
    split at h
    · cases h
    · cases h
    · rename_i u hu
      split at h
      · cases h
      · split at h
        · cases h
        · rename_i h1 h2
          have hv : (if c.toNat = 45 then -(u : Int) else (u : Int)) = v := by injection h
          unfold InI
          by_cases hc : c.toNat = 45
          · rw [if_pos hc] at hv
            have : ¬ 9223372036854775808 < u := fun h => h2 ⟨hc, h⟩
            omega
          · rw [if_neg hc] at hv
            have : ¬ 9223372036854775808 ≤ u := fun h => h1 ⟨hc, h⟩
            omega

set_option maxRecDepth 100000 in
set_option maxHeartbeats 1600000 in
theorem rnumber_any {q : Nat} {r : Rs} (w : World) (h : RdAt w q r) (hq : ∀ w', Only q w w' → LibW w') :
    Calls Tryd.prog 25 #[.pointer (some ⟨q, 0, none⟩)] w fun e w' => e = .returned (.int .i64 (numberR r).1) ∧ RdAt w' q (numberR r).2 ∧ Only q w w' := by
  have HN := Lib.hid (next_any w h)
  have hsl := h.wlen
  obtain ⟨⟨s, l1, b1⟩, hn⟩ : ∃ x, nextR r = x := ⟨_, rfl⟩
  have HR : Hid (numberR r = match numOf s with | some v => (v, ⟨l1, b1⟩) | none => (0, ⟨l1, true⟩)) := Lib.hid (by unfold numberR; rw [hn])
  rw [hn] at HN hsl
  rw [HR.out]
  have HL := Lib.hid hq
  have HSL := Lib.hid hsl
  clear hn h hq hsl
  by_cases hok : ∃ v, Lib.atoiAll s = .ok v
  · obtain ⟨v, hv⟩ := hok
    have HV := Lib.hid hv
    have HIN := Lib.hid (atoi_in hv)
    have HNO := Lib.hid (numOf_ok hv)
    obtain ⟨t, ht⟩ : ∃ x, Lib.itoa v = x := ⟨_, rfl⟩
    have HIT : Hid (∀ w, LibW w → Calls Tryd.prog 20 #[.int .i64 v] w fun e w' => e = .returned (.string ⟨t.toArray⟩) ∧ Below w.heap.size w w') := Lib.hid fun w hw => ht ▸ Itoa_any v HIN.out w hw
    rw [ht] at HNO
    clear hv ht
    go_enter Tryd.func25, Tryd.ntmps25
    by_cases hts : t = s
    · subst hts
      have htt : (t != t) = false := by simp
      by_cases h1 : v < -1000000
      · have HE : Hid (numOf t = none) := Lib.hid (by rw [HNO.out, if_neg (by omega)])
        rw [HE.out]
        go_wp2_with (first | (go_at_call 55; go_must ((with_reducible refine HN.out.mono ?_); rintro e w1 ⟨rfl, h1, o1⟩; have H1 := Lib.hid h1; have O1 := Lib.hid o1; have L1 := Lib.hid (HL.out _ o1); clear h1 o1)) | (go_at_call 56; go_must ((with_reducible refine (Atoi_ok _ HSL.out v HV.out w1).mono ?_); rintro e w2 ⟨rfl, hb2⟩; have H2 := Lib.hid (H1.out.below hb2); have O2 := Lib.hid (O1.out.trans (Only.below hb2)); have L2 := Lib.hid (L1.out.below hb2); clear hb2)) | (go_at_call 20; go_must ((with_reducible refine (HIT.out w2 L2.out).mono ?_); rintro e w3 ⟨rfl, hb3⟩; have h3 := H2.out.below hb3; obtain ⟨k1, z1⟩ := h3.bad; have H3 := Lib.hid h3; have O3 := Lib.hid (O2.out.trans (Only.below hb3)); clear hb3 h3)))
        go_ret
        exact ⟨rfl, H3.out.setBad true, O3.out.trans (Only.set _ _ _)⟩
      · by_cases h2 : 1000000 < v
        · have HE : Hid (numOf t = none) := Lib.hid (by rw [HNO.out, if_neg (by omega)])
          rw [HE.out]
          go_wp2_with (first | (go_at_call 55; go_must ((with_reducible refine HN.out.mono ?_); rintro e w1 ⟨rfl, h1, o1⟩; have H1 := Lib.hid h1; have O1 := Lib.hid o1; have L1 := Lib.hid (HL.out _ o1); clear h1 o1)) | (go_at_call 56; go_must ((with_reducible refine (Atoi_ok _ HSL.out v HV.out w1).mono ?_); rintro e w2 ⟨rfl, hb2⟩; have H2 := Lib.hid (H1.out.below hb2); have O2 := Lib.hid (O1.out.trans (Only.below hb2)); have L2 := Lib.hid (L1.out.below hb2); clear hb2)) | (go_at_call 20; go_must ((with_reducible refine (HIT.out w2 L2.out).mono ?_); rintro e w3 ⟨rfl, hb3⟩; have h3 := H2.out.below hb3; obtain ⟨k1, z1⟩ := h3.bad; have H3 := Lib.hid h3; have O3 := Lib.hid (O2.out.trans (Only.below hb3)); clear hb3 h3)))
          go_ret
          exact ⟨rfl, H3.out.setBad true, O3.out.trans (Only.set _ _ _)⟩
        · have HE : Hid (numOf t = some v) := Lib.hid (by rw [HNO.out, if_pos ⟨rfl, by omega, by omega⟩])
          rw [HE.out]
          go_wp2_with (first | (go_at_call 55; go_must ((with_reducible refine HN.out.mono ?_); rintro e w1 ⟨rfl, h1, o1⟩; have H1 := Lib.hid h1; have O1 := Lib.hid o1; have L1 := Lib.hid (HL.out _ o1); clear h1 o1)) | (go_at_call 56; go_must ((with_reducible refine (Atoi_ok _ HSL.out v HV.out w1).mono ?_); rintro e w2 ⟨rfl, hb2⟩; have H2 := Lib.hid (H1.out.below hb2); have O2 := Lib.hid (O1.out.trans (Only.below hb2)); have L2 := Lib.hid (L1.out.below hb2); clear hb2)) | (go_at_call 20; go_must ((with_reducible refine (HIT.out w2 L2.out).mono ?_); rintro e w3 ⟨rfl, hb3⟩; have h3 := H2.out.below hb3; obtain ⟨k1, z1⟩ := h3.bad; have H3 := Lib.hid h3; have O3 := Lib.hid (O2.out.trans (Only.below hb3)); clear hb3 h3)))
          go_ret
          exact ⟨rfl, H3.out, O3.out⟩
    · have htt : (t != s) = true := by simpa using hts
      have htf : (t == s) = false := by simpa using hts
      have HE : Hid (numOf s = none) := Lib.hid (by rw [HNO.out, if_neg (fun h => hts h.1)])
      rw [HE.out]
      go_wp2_with (first | (go_at_call 55; go_must ((with_reducible refine HN.out.mono ?_); rintro e w1 ⟨rfl, h1, o1⟩; have H1 := Lib.hid h1; have O1 := Lib.hid o1; have L1 := Lib.hid (HL.out _ o1); clear h1 o1)) | (go_at_call 56; go_must ((with_reducible refine (Atoi_ok _ HSL.out v HV.out w1).mono ?_); rintro e w2 ⟨rfl, hb2⟩; have H2 := Lib.hid (H1.out.below hb2); have O2 := Lib.hid (O1.out.trans (Only.below hb2)); have L2 := Lib.hid (L1.out.below hb2); clear hb2)) | (go_at_call 20; go_must ((with_reducible refine (HIT.out w2 L2.out).mono ?_); rintro e w3 ⟨rfl, hb3⟩; have h3 := H2.out.below hb3; obtain ⟨k1, z1⟩ := h3.bad; have H3 := Lib.hid h3; have O3 := Lib.hid (O2.out.trans (Only.below hb3)); clear hb3 h3)))
      go_ret
      exact ⟨rfl, H3.out.setBad true, O3.out.trans (Only.set _ _ _)⟩
  · have HE : Hid (numOf s = none) := Lib.hid (numOf_no fun v h => hok ⟨v, h⟩)
    have HK : Hid (∀ v, Lib.atoiAll s ≠ .ok v) := Lib.hid fun v h => hok ⟨v, h⟩
    rw [HE.out]
    clear hok
    go_enter Tryd.func25, Tryd.ntmps25
    go_wp2_with (first | (go_at_call 55; go_must ((with_reducible refine HN.out.mono ?_); rintro e w1 ⟨rfl, h1, o1⟩; have H1 := Lib.hid h1; have O1 := Lib.hid o1; have L1 := Lib.hid (HL.out _ o1); clear h1 o1)) | (go_at_call 56; go_must ((with_reducible refine (Atoi_no _ HSL.out HK.out w1 L1.out).mono ?_); rintro e w3 ⟨n3, N3, rfl, hb3⟩; have h3 := H1.out.below hb3; obtain ⟨k1, z1⟩ := h3.bad; have H3 := Lib.hid h3; have O3 := Lib.hid (O1.out.trans (Only.below hb3)); clear hb3 h3)))
    go_ret
    exact ⟨rfl, H3.out.setBad true, O3.out.trans (Only.set _ _ _)⟩

end Go.Proofs.YtlopccnehgolnabDoor
