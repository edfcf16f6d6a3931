/- BoxSplits returns true, for every two boxes and every input. No condition. -/
import Derived.Test.YtlopccnehgolnaaBoxF
namespace Go.Proofs.Ytlopccnehgolnaa
open Go.RowKit Rb

theorem BGood_b {S : Nat → Prop} {v : Value} {b : Bx} {n : Int} {r : Bool} (w : World) (hl : rBx.rel w S [v] b) (h : goodBx b n = r) :
    Calls Try.prog 38 #[v, .int .i64 n] w fun e w' => e = .returned (.bool r) ∧ Below w.heap.size w w' := h ▸ BGood_any n w hl
theorem BHas_b {S T : Nat → Prop} {v u : Value} {b : Bx} {ns : List Int} {r : Bool} (w : World) (hl : rBx.rel w S [v] b) (hn : (rSl rInt).rel w T [u] ns) (h : inBx b ns = r) :
    Calls Try.prog 40 #[v, u] w fun e w' => e = .returned (.bool r) ∧ Below w.heap.size w w' := h ▸ BHas_any w hl hn
theorem BSize_at {S : Nat → Prop} {v : Value} {b : Bx} {z : Int} (w : World) (hl : rBx.rel w S [v] b) (h : sizeBx b = z) :
    Calls Try.prog 42 #[v] w fun e w' => e = .returned (.int .i64 z) ∧ Below w.heap.size w w' := h ▸ BSize_any w hl

theorem BLess_at {S T : Nat → Prop} {v u : Value} {a b : Bx} {L : List Bx} (w : World) (hl : rBx.rel w S [v] a) (hm : rBx.rel w T [u] b) (h : lessB a b = L) :
    Calls Try.prog 46 #[v, u] w fun e w' => ∃ z, e = .returned z ∧ Own rBx 46 w' w.heap.size S z L ∧ Below w.heap.size w w' := h ▸ BLess_any w hl hm
theorem count_at {S T : Nat → Prop} {v u : Value} {l : List Bx} {ns : List Int} {cn : Nat} {z : Int} (w : World) (hl : (rSl rBx).rel w S [v] l) (hn : (rSl rInt).rel w T [u] ns) (hsz : sumSz l ≤ 9223372036854775807) (h1 : cntIn l ns = cn) (h2 : sumSz l = z) :
    Calls Try.prog 47 #[v, u] w fun e w' => e = .returned (.tuple #[.int .i64 cn, .int .i64 z]) ∧ Below w.heap.size w w' := h1 ▸ h2 ▸ count_any w hl hn hsz
theorem BBoth_at {S T : Nat → Prop} {v u : Value} {a b o : Bx} {r : Bool} (w : World) (hl : rBx.rel w S [v] a) (hm : rBx.rel w T [u] b) (h1 : someBx (bothBx a b) = r) (h2 : optBx (bothBx a b) = o) :
    Calls Try.prog 35 #[v, u] w fun e w' => ∃ z, e = .returned (.tuple #[z, .bool r]) ∧ Own (rSl rRg) 37 w' w.heap.size (fun _ => False) z o ∧ Below w.heap.size w w' := h1 ▸ h2 ▸ BBoth_any w hl hm
theorem lessB_good {a b : Bx} (ha : goodBx a (a.length : Int) = true) (hb : goodBx b (a.length : Int) = true) : ∀ x ∈ lessB a b, Sets x ∧ x.length = a.length := by
  intro x hx
  obtain ⟨h1, _, h3⟩ := goodBx_iff.1 ha
  obtain ⟨h4, h5, _⟩ := goodBx_iff.1 hb
  unfold lessB at hx
  rw [ha, hb] at hx
  have := lessGo_sets (pre := []) (fun y hy => by simp at hy) h1 x (by simpa using hx)
  exact ⟨this.1, by have := this.2 (by omega); simpa using this⟩
theorem inBx_no {x : Bx} {ns : List Int} (h : x.length ≠ ns.length) : inBx x ns = false := hasBx_no h
theorem lessB_count {a b : Bx} (ha : goodBx a (a.length : Int) = true) (hb : goodBx b (a.length : Int) = true) (ns : List Int) : cntIn (lessB a b) ns = if inBx a ns && !inBx b ns then 1 else 0 := by
  obtain ⟨h1, _, h3⟩ := goodBx_iff.1 ha
  obtain ⟨h4, h5, _⟩ := goodBx_iff.1 hb
  by_cases hl : a.length = ns.length
  · have := lessGo_count (pre := []) (ms := []) (ns := ns) h1 h4 (by omega) hl rfl
    unfold lessB
    rw [ha, hb]
    simpa [inBx] using this
  · have hz : cntIn (lessB a b) ns = 0 := by
      unfold cntIn
      rw [List.length_eq_zero_iff, List.filter_eq_nil_iff]
      intro x hx
      rw [inBx_no (by rw [(lessB_good ha hb x hx).2]; exact hl)]
      simp
    rw [hz, inBx_no hl]; rfl
theorem lessB_sum {a b : Bx} (ha : goodBx a (a.length : Int) = true) (hb : goodBx b (a.length : Int) = true) : sumSz (lessB a b) + (if someBx (bothBx a b) then sizeBx (optBx (bothBx a b)) else 0) = sizeBx a := by
  obtain ⟨h1, _, h3⟩ := goodBx_iff.1 ha
  obtain ⟨h4, h5, _⟩ := goodBx_iff.1 hb
  have hs := lessGo_size (a := a) (b := b) (pre := []) h1 (by omega)
  have hz := zipBoth_size a b
  have hg := lessB_good ha hb
  rw [sumSz_of fun x hx => ⟨(hg x hx).1, by have := (hg x hx).2; omega⟩, sizeBx_of h1 (by omega)]
  have hlb : lessB a b = lessGo [] a b := by unfold lessB; rw [ha, hb]; rfl
  have hbb : bothBx a b = zipBoth a b := by unfold bothBx; rw [ha, hb]; rfl
  rw [hlb, hbb]
  simp only [prodS, Int.one_mul] at hs
  rw [← hs, ← hz.1]
  cases hc : zipBoth a b with
  | none => simp [someBx]
  | some x =>
    have := hz.2 x hc
    simp only [someBx, optBx, if_true]
    rw [sizeBx_of this.1 (by have := this.2 (by omega); omega)]

set_option maxRecDepth 100000 in
set_option maxHeartbeats 1600000 in
theorem BoxSplits_walk {S T U : Nat → Prop} {v u x : Value} {a b : Bx} {ns : List Int} (w : World) (hl : rBx.rel w S [v] a) (hm : rBx.rel w T [u] b) (hn : (rSl rInt).rel w U [x] ns) :
    Calls Try.prog 10 #[v, u, x] w fun e w' => e = .returned (.bool true) ∧ Below w.heap.size w w' := by
  have hal := rSl.lenle hl (by decide)
  obtain ⟨A, c, rfl, _⟩ := rSl.elems hl
  obtain ⟨B, d, rfl, _⟩ := rSl.elems hm
  obtain ⟨C, g, rfl, _⟩ := rSl.elems hn
  have HA := Lib.hid (show rBx.rel _ _ _ _ from hl)
  have HB := Lib.hid (show rBx.rel _ _ _ _ from hm)
  have HN := Lib.hid hn
  have HBW := Lib.hid (Below.refl w.heap.size w)
  clear hl hm hn
  rcases Nat.eq_zero_or_pos a.length with ha0 | ha0
  · go_enter Try.func10, Try.ntmps10
    go_wp2_with (first | (go_at_call 45; ((with_reducible refine (boxesKeep_any _).mono ?_); rintro e w1 ⟨rfl, hb1⟩; (try replace HA := Lib.hid (Rd.below HA.out hb1)); (try replace HB := Lib.hid (Rd.below HB.out hb1)); (try replace HN := Lib.hid (Rd.below HN.out hb1)); (try replace HL := Lib.hid (Rd.below HL.out hb1)); (try replace HX := Lib.hid (Rd.below HX.out hb1)); replace HBW := Lib.hid (HBW.out.trans (hb1.mono HBW.out.size)); clear hb1)))
    go_ret
    exact ⟨rfl, HBW.out⟩
  have hq0 : ((a.length : Int) == 0) = false := by rw [beq_eq_false_iff_ne]; omega
  have hq1 : ¬ a.length = 0 := by omega
  have hgs : goodBx a (a.length : Int) = false ∨ (goodBx a (a.length : Int) = true ∧ goodBx b (a.length : Int) = false) ∨ (goodBx a (a.length : Int) = true ∧ goodBx b (a.length : Int) = true) := by
    cases goodBx a (a.length : Int) <;> cases goodBx b (a.length : Int) <;> simp
  rcases hgs with h1 | ⟨h1, h2⟩ | ⟨h1, h2⟩
  · have hgA := Lib.hid h1
    have hgB := Lib.hid (Eq.refl (goodBx b (a.length : Int)))
    clear h1
    go_enter Try.func10, Try.ntmps10
    go_wp2_with (first | (go_at_call 38; ((first | with_reducible refine (BGood_b _ HA.out hgA.out).mono ?_ | with_reducible refine (BGood_b _ HB.out hgB.out).mono ?_); rintro e w1 ⟨rfl, hb1⟩; (try replace HA := Lib.hid (Rd.below HA.out hb1)); (try replace HB := Lib.hid (Rd.below HB.out hb1)); (try replace HN := Lib.hid (Rd.below HN.out hb1)); (try replace HL := Lib.hid (Rd.below HL.out hb1)); (try replace HX := Lib.hid (Rd.below HX.out hb1)); replace HBW := Lib.hid (HBW.out.trans (hb1.mono HBW.out.size)); clear hb1)) | (go_at_call 45; ((with_reducible refine (boxesKeep_any _).mono ?_); rintro e w1 ⟨rfl, hb1⟩; (try replace HA := Lib.hid (Rd.below HA.out hb1)); (try replace HB := Lib.hid (Rd.below HB.out hb1)); (try replace HN := Lib.hid (Rd.below HN.out hb1)); (try replace HL := Lib.hid (Rd.below HL.out hb1)); (try replace HX := Lib.hid (Rd.below HX.out hb1)); replace HBW := Lib.hid (HBW.out.trans (hb1.mono HBW.out.size)); clear hb1)))
    go_ret
    exact ⟨rfl, HBW.out⟩
  · have hgA := Lib.hid h1
    have hgB := Lib.hid h2
    clear h1 h2
    go_enter Try.func10, Try.ntmps10
    go_wp2_with (first | (go_at_call 38; ((first | with_reducible refine (BGood_b _ HA.out hgA.out).mono ?_ | with_reducible refine (BGood_b _ HB.out hgB.out).mono ?_); rintro e w1 ⟨rfl, hb1⟩; (try replace HA := Lib.hid (Rd.below HA.out hb1)); (try replace HB := Lib.hid (Rd.below HB.out hb1)); (try replace HN := Lib.hid (Rd.below HN.out hb1)); (try replace HL := Lib.hid (Rd.below HL.out hb1)); (try replace HX := Lib.hid (Rd.below HX.out hb1)); replace HBW := Lib.hid (HBW.out.trans (hb1.mono HBW.out.size)); clear hb1)) | (go_at_call 45; ((with_reducible refine (boxesKeep_any _).mono ?_); rintro e w1 ⟨rfl, hb1⟩; (try replace HA := Lib.hid (Rd.below HA.out hb1)); (try replace HB := Lib.hid (Rd.below HB.out hb1)); (try replace HN := Lib.hid (Rd.below HN.out hb1)); (try replace HL := Lib.hid (Rd.below HL.out hb1)); (try replace HX := Lib.hid (Rd.below HX.out hb1)); replace HBW := Lib.hid (HBW.out.trans (hb1.mono HBW.out.size)); clear hb1)))
    go_ret
    exact ⟨rfl, HBW.out⟩
  have hgA := Lib.hid h1
  have hgB := Lib.hid h2
  have hcnt := Lib.hid (lessB_count h1 h2 ns)
  have hsum := Lib.hid (lessB_sum h1 h2)
  have hset := Lib.hid (lessB_good h1 h2)
  have ha3 : a.length ≤ 3 := by have := (goodBx_iff.1 h1).2.2; omega
  have hlen3 := lessB_len a b
  have HCB : Hid (sumSz (lessB a b) ≤ 9223372036854775807) := Lib.hid (by
    have h3 := hsum.out
    have h4 := sizeBx_bd a
    have h5 := sizeBx_bd (optBx (bothBx a b))
    split at h3 <;> omega)
  clear h1 h2
  generalize hL : lessB a b = L at *
  have qL := Lib.hid hL
  clear hL
  go_enter Try.func10, Try.ntmps10
  go_wp2_with (first | (go_at_call 38; ((first | with_reducible refine (BGood_b _ HA.out hgA.out).mono ?_ | with_reducible refine (BGood_b _ HB.out hgB.out).mono ?_); rintro e w1 ⟨rfl, hb1⟩; (try replace HA := Lib.hid (Rd.below HA.out hb1)); (try replace HB := Lib.hid (Rd.below HB.out hb1)); (try replace HN := Lib.hid (Rd.below HN.out hb1)); (try replace HL := Lib.hid (Rd.below HL.out hb1)); (try replace HX := Lib.hid (Rd.below HX.out hb1)); replace HBW := Lib.hid (HBW.out.trans (hb1.mono HBW.out.size)); clear hb1)) | (go_at_call 46; ((with_reducible refine (BLess_at _ HA.out HB.out qL.out).mono ?_); rintro e w1 ⟨uu, rfl, hoo, hb1⟩; obtain ⟨AAHL, ccHL, rfl⟩ := hoo.value; have HL := Lib.hid (show (rSl rBx).rel _ _ _ _ from hoo.rel (by decide)); clear hoo; (try replace HA := Lib.hid (Rd.below HA.out hb1)); (try replace HB := Lib.hid (Rd.below HB.out hb1)); (try replace HN := Lib.hid (Rd.below HN.out hb1)); (try replace HX := Lib.hid (Rd.below HX.out hb1)); replace HBW := Lib.hid (HBW.out.trans (hb1.mono HBW.out.size)); clear hb1)))
  go_loopw [39] (fun i wr => ∃ k : Nat, k ≤ L.length ∧ i = .int .i64 k ∧ Hid (Below w.heap.size w wr) ∧ Hid (∃ S', rBx.rel wr S' [.slice A a.length c] a) ∧ Hid (∃ S', rBx.rel wr S' [.slice B b.length d] b) ∧ Hid (∃ S', (rSl rInt).rel wr S' [.slice C ns.length g] ns) ∧ Hid (∃ S', (rSl rBx).rel wr S' [.slice AAHL L.length ccHL] L)) (fun i _ => L.length - (intOf i).toNat)
  case atStart => exact ⟨0, Nat.zero_le _, rfl, HBW, Lib.hid ⟨_, HA.out⟩, Lib.hid ⟨_, HB.out⟩, Lib.hid ⟨_, HN.out⟩, Lib.hid ⟨_, HL.out⟩⟩
  case round =>
    clear HBW HA HB HN HL
    obtain ⟨k, hk, rfl, HBW, ⟨SA, HA⟩, ⟨SB, HB⟩, ⟨SN, HN⟩, ⟨SL, HL⟩⟩ := hrel
    replace HA := Lib.hid HA
    replace HB := Lib.hid HB
    replace HN := Lib.hid HN
    replace HL := Lib.hid HL
    by_cases hlt : k < L.length
    · obtain ⟨A9, c9, h9, _, _, _, hE9⟩ := rSl.elems HL.out
      simp only [Value.slice.injEq, true_and] at h9
      obtain ⟨rfl, rfl⟩ := h9
      obtain ⟨p, off, vx, xx, rfl, _, hp, hx, hs, h1⟩ := Elems.sl (R := rSl rRg) hE9 hlt
      have HX := Lib.hid (show rBx.rel _ _ _ _ from hs)
      have hgX := Lib.hid (goodBx_of (hset.out xx (List.mem_of_getElem? hx)).1 (hset.out xx (List.mem_of_getElem? hx)).2 ha3)
      have hik : (k : Int) < (L.length : Int) := by omega
      obtain ⟨A2, c2, rfl, _⟩ := rSl.elems hs
      clear hE9 hx hs
      go_wp2_with (first | (go_at_call 38; ((with_reducible refine (BGood_b _ HX.out hgX.out).mono ?_); rintro e w1 ⟨rfl, hb1⟩; (try replace HA := Lib.hid (Rd.below HA.out hb1)); (try replace HB := Lib.hid (Rd.below HB.out hb1)); (try replace HN := Lib.hid (Rd.below HN.out hb1)); (try replace HL := Lib.hid (Rd.below HL.out hb1)); (try replace HX := Lib.hid (Rd.below HX.out hb1)); replace HBW := Lib.hid (HBW.out.trans (hb1.mono HBW.out.size)); clear hb1)))
      go_roundw
      case rel => exact ⟨k + 1, by omega, by go_num, HBW, Lib.hid ⟨_, HA.out⟩, Lib.hid ⟨_, HB.out⟩, Lib.hid ⟨_, HN.out⟩, Lib.hid ⟨_, HL.out⟩⟩
      case measure => simp [intOf]; omega
    · have hbz := sizeBx_bd a
      have hs0 := hsum.out
      have hc0 := hcnt.out
      obtain ⟨ob, hob⟩ : ∃ o, optBx (bothBx a b) = o := ⟨_, rfl⟩
      rw [hob] at hs0
      obtain ⟨zb, hzb⟩ : ∃ z, sizeBx ob = z := ⟨_, rfl⟩
      have hbb := sizeBx_bd ob
      rw [hzb] at hs0 hbb
      obtain ⟨zl, hzl⟩ : ∃ z, sumSz L = z := ⟨_, rfl⟩
      have hzl0 := sumSz_nonneg L
      rw [hzl] at hs0 hzl0
      have qo := Lib.hid hob
      have qx := Lib.hid hzb
      have qs := Lib.hid hzl
      clear hob hzb hzl
      cases hpa : inBx a ns
      all_goals
        have qa := Lib.hid hpa
        rw [hpa] at hc0
        clear hpa
        cases hpb : inBx b ns
        all_goals
          have qb := Lib.hid hpb
          rw [hpb] at hc0
          clear hpb
          have qc := Lib.hid hc0
          clear hc0
          cases hr : someBx (bothBx a b)
          · rw [hr] at hs0
            have qr := Lib.hid hr
            have hw : IntKind.i64.wrap zl = zl := IntWalk.i64_in _ (by simp at hs0; omega)
            have qz := Lib.hid (show sizeBx a = zl by rw [← hs0]; simp)
            clear hr hs0
            go_wp2_with (first | (go_at_call 47; ((with_reducible refine (count_at _ HL.out HN.out HCB.out qc.out qs.out).mono ?_); rintro e w1 ⟨rfl, hb1⟩; (try replace HA := Lib.hid (Rd.below HA.out hb1)); (try replace HB := Lib.hid (Rd.below HB.out hb1)); (try replace HN := Lib.hid (Rd.below HN.out hb1)); (try replace HL := Lib.hid (Rd.below HL.out hb1)); (try replace HX := Lib.hid (Rd.below HX.out hb1)); replace HBW := Lib.hid (HBW.out.trans (hb1.mono HBW.out.size)); clear hb1)) | (go_at_call 40; ((first | with_reducible refine (BHas_b _ HA.out HN.out qa.out).mono ?_ | with_reducible refine (BHas_b _ HB.out HN.out qb.out).mono ?_); rintro e w1 ⟨rfl, hb1⟩; (try replace HA := Lib.hid (Rd.below HA.out hb1)); (try replace HB := Lib.hid (Rd.below HB.out hb1)); (try replace HN := Lib.hid (Rd.below HN.out hb1)); (try replace HL := Lib.hid (Rd.below HL.out hb1)); (try replace HX := Lib.hid (Rd.below HX.out hb1)); replace HBW := Lib.hid (HBW.out.trans (hb1.mono HBW.out.size)); clear hb1)) | (go_at_call 35; ((with_reducible refine (BBoth_at _ HA.out HB.out qr.out qo.out).mono ?_); rintro e w1 ⟨uu, rfl, hoo, hb1⟩; obtain ⟨AAHX, ccHX, rfl⟩ := hoo.value; have HX := Lib.hid (show rBx.rel _ _ _ _ from hoo.rel (by decide)); clear hoo; (try replace HA := Lib.hid (Rd.below HA.out hb1)); (try replace HB := Lib.hid (Rd.below HB.out hb1)); (try replace HN := Lib.hid (Rd.below HN.out hb1)); (try replace HL := Lib.hid (Rd.below HL.out hb1)); replace HBW := Lib.hid (HBW.out.trans (hb1.mono HBW.out.size)); clear hb1)) | (go_at_call 42; ((first | with_reducible refine (BSize_at _ HX.out qx.out).mono ?_ | with_reducible refine (BSize_at _ HA.out qz.out).mono ?_); rintro e w1 ⟨rfl, hb1⟩; (try replace HA := Lib.hid (Rd.below HA.out hb1)); (try replace HB := Lib.hid (Rd.below HB.out hb1)); (try replace HN := Lib.hid (Rd.below HN.out hb1)); (try replace HL := Lib.hid (Rd.below HL.out hb1)); (try replace HX := Lib.hid (Rd.below HX.out hb1)); replace HBW := Lib.hid (HBW.out.trans (hb1.mono HBW.out.size)); clear hb1)) | (go_at_call 45; ((with_reducible refine (boxesKeep_any _).mono ?_); rintro e w1 ⟨rfl, hb1⟩; (try replace HA := Lib.hid (Rd.below HA.out hb1)); (try replace HB := Lib.hid (Rd.below HB.out hb1)); (try replace HN := Lib.hid (Rd.below HN.out hb1)); (try replace HL := Lib.hid (Rd.below HL.out hb1)); (try replace HX := Lib.hid (Rd.below HX.out hb1)); replace HBW := Lib.hid (HBW.out.trans (hb1.mono HBW.out.size)); clear hb1)))
            go_ret
            exact ⟨rfl, HBW.out⟩
          · rw [hr] at hs0
            have qr := Lib.hid hr
            have hw : IntKind.i64.wrap (zl + zb) = zl + zb := IntWalk.i64_in _ (by simp at hs0; omega)
            have qz := Lib.hid (show sizeBx a = zl + zb by rw [← hs0]; simp)
            clear hr hs0
            go_wp2_with (first | (go_at_call 47; ((with_reducible refine (count_at _ HL.out HN.out HCB.out qc.out qs.out).mono ?_); rintro e w1 ⟨rfl, hb1⟩; (try replace HA := Lib.hid (Rd.below HA.out hb1)); (try replace HB := Lib.hid (Rd.below HB.out hb1)); (try replace HN := Lib.hid (Rd.below HN.out hb1)); (try replace HL := Lib.hid (Rd.below HL.out hb1)); (try replace HX := Lib.hid (Rd.below HX.out hb1)); replace HBW := Lib.hid (HBW.out.trans (hb1.mono HBW.out.size)); clear hb1)) | (go_at_call 40; ((first | with_reducible refine (BHas_b _ HA.out HN.out qa.out).mono ?_ | with_reducible refine (BHas_b _ HB.out HN.out qb.out).mono ?_); rintro e w1 ⟨rfl, hb1⟩; (try replace HA := Lib.hid (Rd.below HA.out hb1)); (try replace HB := Lib.hid (Rd.below HB.out hb1)); (try replace HN := Lib.hid (Rd.below HN.out hb1)); (try replace HL := Lib.hid (Rd.below HL.out hb1)); (try replace HX := Lib.hid (Rd.below HX.out hb1)); replace HBW := Lib.hid (HBW.out.trans (hb1.mono HBW.out.size)); clear hb1)) | (go_at_call 35; ((with_reducible refine (BBoth_at _ HA.out HB.out qr.out qo.out).mono ?_); rintro e w1 ⟨uu, rfl, hoo, hb1⟩; obtain ⟨AAHX, ccHX, rfl⟩ := hoo.value; have HX := Lib.hid (show rBx.rel _ _ _ _ from hoo.rel (by decide)); clear hoo; (try replace HA := Lib.hid (Rd.below HA.out hb1)); (try replace HB := Lib.hid (Rd.below HB.out hb1)); (try replace HN := Lib.hid (Rd.below HN.out hb1)); (try replace HL := Lib.hid (Rd.below HL.out hb1)); replace HBW := Lib.hid (HBW.out.trans (hb1.mono HBW.out.size)); clear hb1)) | (go_at_call 42; ((first | with_reducible refine (BSize_at _ HX.out qx.out).mono ?_ | with_reducible refine (BSize_at _ HA.out qz.out).mono ?_); rintro e w1 ⟨rfl, hb1⟩; (try replace HA := Lib.hid (Rd.below HA.out hb1)); (try replace HB := Lib.hid (Rd.below HB.out hb1)); (try replace HN := Lib.hid (Rd.below HN.out hb1)); (try replace HL := Lib.hid (Rd.below HL.out hb1)); (try replace HX := Lib.hid (Rd.below HX.out hb1)); replace HBW := Lib.hid (HBW.out.trans (hb1.mono HBW.out.size)); clear hb1)) | (go_at_call 45; ((with_reducible refine (boxesKeep_any _).mono ?_); rintro e w1 ⟨rfl, hb1⟩; (try replace HA := Lib.hid (Rd.below HA.out hb1)); (try replace HB := Lib.hid (Rd.below HB.out hb1)); (try replace HN := Lib.hid (Rd.below HN.out hb1)); (try replace HL := Lib.hid (Rd.below HL.out hb1)); (try replace HX := Lib.hid (Rd.below HX.out hb1)); replace HBW := Lib.hid (HBW.out.trans (hb1.mono HBW.out.size)); clear hb1)))
            go_ret
            exact ⟨rfl, HBW.out⟩

end Go.Proofs.Ytlopccnehgolnaa
