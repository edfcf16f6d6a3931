/- BoxRests: the plain law and the walk. -/
import Derived.Test.YtlopccnehgolnaaRest
namespace Go.Proofs.Ytlopccnehgolnaa
open Go.RowKit Rb

/-- What Rest must leave of an input: one box, or none. -/
def leftB (a : Bx) (l : List Bx) (ns : List Int) : Nat := if inBx a ns && !(l.any fun b => goodBx b (a.length : Int) && inBx b ns) then 1 else 0

theorem leftB_nil (a : Bx) (ns : List Int) : leftB a [] ns = if inBx a ns then 1 else 0 := by simp [leftB]
theorem leftB_take {a : Bx} {l : List Bx} {ns : List Int} {k : Nat} {x : Bx} (h : l[k]? = some x) :
    leftB a (l.take (k + 1)) ns = if goodBx x (a.length : Int) && inBx x ns then 0 else leftB a (l.take k) ns := by
  rw [take_getElem? h]
  unfold leftB
  simp only [List.any_append, List.any_cons, List.any_nil, Bool.or_false]
  cases (goodBx x (a.length : Int) && inBx x ns) <;> simp
theorem leftB_le (a : Bx) (l : List Bx) (ns : List Int) : leftB a l ns ≤ 1 := by unfold leftB; split <;> omega

/-- All boxes are good, of n sets. -/
def AllG (n : Nat) (out : List Bx) : Prop := ∀ x ∈ out, Sets x ∧ x.length = n

theorem flat_count {out : List Bx} {b : Bx} {n : Nat} (hn : n ≤ 3) (hg : AllG n out) (hb : goodBx b (n : Int) = true) (ns : List Int) :
    cntIn (out.flatMap (lessB · b)) ns = if inBx b ns then 0 else cntIn out ns := by
  induction out with
  | nil => simp [cntIn_nil]
  | cons x out ih =>
    obtain ⟨h1, h2⟩ := hg x (by simp)
    have hx : goodBx x (x.length : Int) = true := goodBx_of h1 rfl (by omega)
    rw [List.flatMap_cons, cntIn_append, cntIn_cons, ih fun y hy => hg y (by simp [hy]), lessB_count hx (by rw [h2]; exact hb)]
    cases inBx b ns <;> cases inBx x ns <;> simp

theorem flat_sum {out : List Bx} {b : Bx} {n : Nat} (hn : n ≤ 3) (hg : AllG n out) (hb : goodBx b (n : Int) = true) : sumSz (out.flatMap (lessB · b)) ≤ sumSz out := by
  induction out with
  | nil => simp
  | cons x out ih =>
    obtain ⟨h1, h2⟩ := hg x (by simp)
    have hx : goodBx x (x.length : Int) = true := goodBx_of h1 rfl (by omega)
    have h3 := lessB_sum hx (b := b) (by rw [h2]; exact hb)
    have h4 := ih fun y hy => hg y (by simp [hy])
    have h5 := sizeBx_bd (optBx (bothBx x b))
    have e : sumSz (x :: out) = sumSz [x] + sumSz out := by rw [← sumSz_append]; rfl
    have e2 : sumSz [x] = sizeBx x := by simp [sumSz]
    rw [List.flatMap_cons, sumSz_append, e, e2]
    split at h3 <;> omega

theorem flat_good {out : List Bx} {b : Bx} {n : Nat} (hn : n ≤ 3) (hg : AllG n out) (hb : goodBx b (n : Int) = true) : AllG n (out.flatMap (lessB · b)) := by
  intro y hy
  rw [List.mem_flatMap] at hy
  obtain ⟨x, hx, hy⟩ := hy
  obtain ⟨h1, h2⟩ := hg x hx
  have := lessB_good (goodBx_of h1 rfl (by omega)) (by rw [h2]; exact hb) y hy
  exact ⟨this.1, by rw [this.2, h2]⟩

theorem fold_law {n : Nat} (hn : n ≤ 3) (ns : List Int) : ∀ (l : List Bx) (out : List Bx) (c : Bool), AllG n out → cntIn out ns = (if c then 1 else 0) →
    AllG n (l.foldl (restStep n) out) ∧ sumSz (l.foldl (restStep n) out) ≤ sumSz out ∧ cntIn (l.foldl (restStep n) out) ns = if c && !(l.any fun b => goodBx b (n : Int) && inBx b ns) then 1 else 0 := by
  intro l
  induction l with
  | nil => intro out c hg hc; exact ⟨hg, Int.le_refl _, by simpa using hc⟩
  | cons b l ih =>
    intro out c hg hc
    rw [List.foldl_cons]
    cases hb : goodBx b (n : Int)
    · have hs : restStep n out b = out := by unfold restStep; rw [hb]; rfl
      rw [hs]
      have := ih out c hg hc
      simpa [hb] using this
    · have hs : restStep n out b = out.flatMap (lessB · b) := by unfold restStep; rw [hb]; rfl
      rw [hs]
      have h1 := ih (out.flatMap (lessB · b)) (c && !inBx b ns) (flat_good hn hg hb) (by rw [flat_count hn hg hb, hc]; cases c <;> cases inBx b ns <;> simp)
      refine ⟨h1.1, Int.le_trans h1.2.1 (flat_sum hn hg hb), ?_⟩
      rw [h1.2.2]
      simp only [List.any_cons, hb, Bool.true_and]
      cases c <;> cases inBx b ns <;> simp

theorem restB_law {a : Bx} (ha : goodBx a (a.length : Int) = true) (l : List Bx) (ns : List Int) :
    AllG a.length (restB a l) ∧ sumSz (restB a l) ≤ sizeBx a ∧ cntIn (restB a l) ns = leftB a l ns := by
  obtain ⟨h1, _, h3⟩ := goodBx_iff.1 ha
  have hf := fold_law (n := a.length) (by omega) ns l [a] (inBx a ns) (fun x hx => by rw [List.mem_singleton] at hx; rw [hx]; exact ⟨h1, rfl⟩) (by rw [cntIn_cons, cntIn_nil]; rfl)
  have e : restB a l = l.foldl (restStep a.length) [a] := by unfold restB; rw [ha]; rfl
  have e2 : sumSz [a] = sizeBx a := by simp [sumSz]
  rw [e]
  exact ⟨hf.1, by rw [← e2]; exact hf.2.1, hf.2.2⟩

theorem restStep_le (n : Nat) : ∀ (l out : List Bx), (l.foldl (restStep n) out).length ≤ 3 ^ l.length * out.length := by
  intro l
  induction l with
  | nil => intro out; simp
  | cons b l ih =>
    intro out
    rw [List.foldl_cons, List.length_cons, Nat.pow_succ]
    have h1 := ih (restStep n out b)
    have h2 := restStep_len n out b
    calc _ ≤ 3 ^ l.length * (restStep n out b).length := h1
      _ ≤ 3 ^ l.length * (3 * out.length) := Nat.mul_le_mul_left _ h2
      _ = 3 ^ l.length * 3 * out.length := by rw [Nat.mul_assoc]

theorem Rest_at {S T : Nat → Prop} {v u : Value} {a : Bx} {l L : List Bx} (w : World) (hl : rBx.rel w S [v] a) (hm : (rSl rBx).rel w T [u] l) (hl6 : l.length ≤ 6) (h : restB a l = L) :
    Calls Try.prog 48 #[v, u] w fun e w' => ∃ z S', e = .returned z ∧ (rSl rBx).rel w' S' [z] L ∧ Below w.heap.size w w' := h ▸ Rest_any w hl hm hl6

theorem Point_at {S : Nat → Prop} {v : Value} {b : Bx} {p : List Int} (w : World) (hl : rBx.rel w S [v] b) (h : pointBx b = p) :
    Calls Try.prog 49 #[v] w fun e w' => ∃ z, e = .returned z ∧ Own rInt 3 w' w.heap.size (fun _ => False) z p ∧ Below w.heap.size w w' := h ▸ Point_any w hl

set_option maxRecDepth 100000 in
set_option maxHeartbeats 1600000 in
theorem BoxRests_walk {S T U : Nat → Prop} {v u x : Value} {a : Bx} {l : List Bx} {ns : List Int} (w : World) (hl : rBx.rel w S [v] a) (hm : (rSl rBx).rel w T [u] l) (hn : (rSl rInt).rel w U [x] ns) :
    Calls Try.prog 11 #[v, u, x] w fun e w' => e = .returned (.bool true) ∧ Below w.heap.size w w' := by
  have hal := rSl.lenle hl (by decide)
  have hll := rSl.lenle hm (by decide)
  obtain ⟨A, c, rfl, _⟩ := rSl.elems hl
  obtain ⟨B, d, rfl, _⟩ := rSl.elems hm
  obtain ⟨C, g, rfl, _⟩ := rSl.elems hn
  have HA := Lib.hid (show rBx.rel _ _ _ _ from hl)
  have HM := Lib.hid hm
  have HN := Lib.hid hn
  have HBW := Lib.hid (Below.refl w.heap.size w)
  clear hl hm hn
  rcases Nat.eq_zero_or_pos a.length with ha0 | ha0
  · go_enter Try.func11, Try.ntmps11
    go_wp2_with (first | (go_at_call 45; ((with_reducible refine (boxesKeep_any _).mono ?_); rintro e w1 ⟨rfl, hb1⟩; (try replace HA := Lib.hid (Rd.below HA.out hb1)); (try replace HM := Lib.hid (Rd.below HM.out hb1)); (try replace HN := Lib.hid (Rd.below HN.out hb1)); (try replace HL := Lib.hid (Rd.below HL.out hb1)); (try replace HX := Lib.hid (Rd.below HX.out hb1)); replace HBW := Lib.hid (HBW.out.trans (hb1.mono HBW.out.size)); clear hb1)))
    go_ret
    exact ⟨rfl, HBW.out⟩
  have hq0 : ((a.length : Int) == 0) = false := by rw [beq_eq_false_iff_ne]; omega
  have hq1 : ¬ a.length = 0 := by omega
  cases h1 : goodBx a (a.length : Int)
  · have hgA := Lib.hid h1
    clear h1
    go_enter Try.func11, Try.ntmps11
    go_wp2_with (first | (go_at_call 38; ((with_reducible refine (BGood_b _ HA.out hgA.out).mono ?_); rintro e w1 ⟨rfl, hb1⟩; (try replace HA := Lib.hid (Rd.below HA.out hb1)); (try replace HM := Lib.hid (Rd.below HM.out hb1)); (try replace HN := Lib.hid (Rd.below HN.out hb1)); (try replace HL := Lib.hid (Rd.below HL.out hb1)); (try replace HX := Lib.hid (Rd.below HX.out hb1)); replace HBW := Lib.hid (HBW.out.trans (hb1.mono HBW.out.size)); clear hb1)) | (go_at_call 45; ((with_reducible refine (boxesKeep_any _).mono ?_); rintro e w1 ⟨rfl, hb1⟩; (try replace HA := Lib.hid (Rd.below HA.out hb1)); (try replace HM := Lib.hid (Rd.below HM.out hb1)); (try replace HN := Lib.hid (Rd.below HN.out hb1)); (try replace HL := Lib.hid (Rd.below HL.out hb1)); (try replace HX := Lib.hid (Rd.below HX.out hb1)); replace HBW := Lib.hid (HBW.out.trans (hb1.mono HBW.out.size)); clear hb1)))
    go_ret
    exact ⟨rfl, HBW.out⟩
  have hgA := Lib.hid h1
  by_cases hl6 : l.length ≤ 6
  case neg =>
    clear h1
    have hi6 : (6 : Int) < (l.length : Int) := by omega
    go_enter Try.func11, Try.ntmps11
    go_wp2_with (first | (go_at_call 38; ((with_reducible refine (BGood_b _ HA.out hgA.out).mono ?_); rintro e w1 ⟨rfl, hb1⟩; (try replace HA := Lib.hid (Rd.below HA.out hb1)); (try replace HM := Lib.hid (Rd.below HM.out hb1)); (try replace HN := Lib.hid (Rd.below HN.out hb1)); (try replace HL := Lib.hid (Rd.below HL.out hb1)); (try replace HX := Lib.hid (Rd.below HX.out hb1)); replace HBW := Lib.hid (HBW.out.trans (hb1.mono HBW.out.size)); clear hb1)) | (go_at_call 45; ((with_reducible refine (boxesKeep_any _).mono ?_); rintro e w1 ⟨rfl, hb1⟩; (try replace HA := Lib.hid (Rd.below HA.out hb1)); (try replace HM := Lib.hid (Rd.below HM.out hb1)); (try replace HN := Lib.hid (Rd.below HN.out hb1)); (try replace HL := Lib.hid (Rd.below HL.out hb1)); (try replace HX := Lib.hid (Rd.below HX.out hb1)); replace HBW := Lib.hid (HBW.out.trans (hb1.mono HBW.out.size)); clear hb1)))
    go_ret
    exact ⟨rfl, HBW.out⟩
  obtain ⟨hset, hsum, hcnt⟩ := restB_law h1 l ns
  have ha3 : a.length ≤ 3 := by have := (goodBx_iff.1 h1).2.2; omega
  have hi6 : ¬ (6 : Int) < (l.length : Int) := by omega
  have hbz := sizeBx_bd a
  have hLl : (restB a l).length ≤ 729 := by
    have e : restB a l = l.foldl (restStep a.length) [a] := by unfold restB; rw [h1]; rfl
    have := restStep_le a.length l [a]
    have h9 := pow3 l.length hl6
    rw [e]
    simp at this
    omega
  clear h1
  generalize hL : restB a l = L at *
  have qL := Lib.hid hL
  clear hL
  obtain ⟨cn, hcn⟩ : ∃ cn, leftB a l ns = cn := ⟨_, rfl⟩
  have hc1 : cn ≤ 1 := hcn ▸ leftB_le a l ns
  obtain ⟨zl, hzl⟩ : ∃ z, sumSz L = z := ⟨_, rfl⟩
  obtain ⟨za, hza⟩ : ∃ z, sizeBx a = z := ⟨_, rfl⟩
  have hz0 := sumSz_nonneg L
  rw [hzl, hza] at hsum
  rw [hzl] at hz0
  rw [hza] at hbz
  have HCB : Hid (sumSz L ≤ 9223372036854775807) := Lib.hid (by omega)
  have qc := Lib.hid (hcnt.trans hcn)
  have qs := Lib.hid hzl
  have qz := Lib.hid hza
  have hset := Lib.hid hset
  have HCN := Lib.hid hcn
  clear hzl hza hcn hcnt
  obtain ⟨ia, hia⟩ : ∃ r, inBx a ns = r := ⟨_, rfl⟩
  have qa := Lib.hid hia
  have HI0 : Hid (leftB a (l.take 0) ns = if ia then 1 else 0) := Lib.hid (by rw [List.take_zero, leftB_nil, hia])
  clear hia
  go_enter Try.func11, Try.ntmps11
  go_wp2_with (first | (go_at_call 38; ((with_reducible refine (BGood_b _ HA.out hgA.out).mono ?_); rintro e w1 ⟨rfl, hb1⟩; (try replace HA := Lib.hid (Rd.below HA.out hb1)); (try replace HM := Lib.hid (Rd.below HM.out hb1)); (try replace HN := Lib.hid (Rd.below HN.out hb1)); (try replace HL := Lib.hid (Rd.below HL.out hb1)); (try replace HX := Lib.hid (Rd.below HX.out hb1)); replace HBW := Lib.hid (HBW.out.trans (hb1.mono HBW.out.size)); clear hb1)) | (go_at_call 48; ((with_reducible refine (Rest_at _ HA.out HM.out hl6 qL.out).mono ?_); rintro e w1 ⟨uu, SR, rfl, hoo, hb1⟩; obtain ⟨AL, cL, rfl, _⟩ := rSl.elems hoo; have HL := Lib.hid hoo; clear hoo; (try replace HA := Lib.hid (Rd.below HA.out hb1)); (try replace HM := Lib.hid (Rd.below HM.out hb1)); (try replace HN := Lib.hid (Rd.below HN.out hb1)); replace HBW := Lib.hid (HBW.out.trans (hb1.mono HBW.out.size)); clear hb1)) | (go_at_call 47; ((with_reducible refine (count_at _ HL.out HN.out HCB.out qc.out qs.out).mono ?_); rintro e w1 ⟨rfl, hb1⟩; (try replace HA := Lib.hid (Rd.below HA.out hb1)); (try replace HM := Lib.hid (Rd.below HM.out hb1)); (try replace HN := Lib.hid (Rd.below HN.out hb1)); (try replace HL := Lib.hid (Rd.below HL.out hb1)); (try replace HX := Lib.hid (Rd.below HX.out hb1)); replace HBW := Lib.hid (HBW.out.trans (hb1.mono HBW.out.size)); clear hb1)))
  have HS1 : Hid (∃ o, leftB a (l.take 0) ns = o) := Lib.hid ⟨_, rfl⟩
  cases ia
  all_goals
    go_wp2_with (first | (go_at_call 40; ((with_reducible refine (BHas_b _ HA.out HN.out qa.out).mono ?_); rintro e w1 ⟨rfl, hb1⟩; (try replace HA := Lib.hid (Rd.below HA.out hb1)); (try replace HM := Lib.hid (Rd.below HM.out hb1)); (try replace HN := Lib.hid (Rd.below HN.out hb1)); (try replace HL := Lib.hid (Rd.below HL.out hb1)); (try replace HX := Lib.hid (Rd.below HX.out hb1)); replace HBW := Lib.hid (HBW.out.trans (hb1.mono HBW.out.size)); clear hb1)))
    go_loopw [10, 45] (fun o i wr => ∃ (k one : Nat), k ≤ l.length ∧ one ≤ 1 ∧ i = .int .i64 k ∧ o = .int .i64 one ∧ Hid (leftB a (l.take k) ns = one) ∧ Hid (Below w.heap.size w wr) ∧ Hid (∃ S', rBx.rel wr S' [.slice A a.length c] a) ∧ Hid (∃ S', (rSl rBx).rel wr S' [.slice B l.length d] l) ∧ Hid (∃ S', (rSl rInt).rel wr S' [.slice C ns.length g] ns) ∧ Hid (∃ S', (rSl rBx).rel wr S' [.slice AL L.length cL] L)) (fun _ i _ => l.length - (intOf i).toNat)
    case atStart => first | exact ⟨0, 1, Nat.zero_le _, Nat.le_refl _, rfl, rfl, Lib.hid (by have := HI0.out; simpa using this), HBW, Lib.hid ⟨_, HA.out⟩, Lib.hid ⟨_, HM.out⟩, Lib.hid ⟨_, HN.out⟩, Lib.hid ⟨_, HL.out⟩⟩ | exact ⟨0, 0, Nat.zero_le _, Nat.zero_le _, rfl, rfl, Lib.hid (by have := HI0.out; simpa using this), HBW, Lib.hid ⟨_, HA.out⟩, Lib.hid ⟨_, HM.out⟩, Lib.hid ⟨_, HN.out⟩, Lib.hid ⟨_, HL.out⟩⟩
    case round =>
      clear HBW HA HM HN HL
      obtain ⟨k, one, hk, ho1, rfl, rfl, HI, HBW, ⟨SA, HA⟩, ⟨SM, HM⟩, ⟨SN, HN⟩, ⟨SL, HL⟩⟩ := hrel
      replace HA := Lib.hid HA
      replace HM := Lib.hid HM
      replace HN := Lib.hid HN
      replace HL := Lib.hid HL
      by_cases hlt : k < l.length
      · obtain ⟨A9, c9, h9, _, _, _, hE9⟩ := rSl.elems HM.out
        simp only [Value.slice.injEq, true_and] at h9
        obtain ⟨rfl, rfl⟩ := h9
        obtain ⟨p, off, vx, xx, rfl, _, hp, hx, hs, h1⟩ := Elems.sl (R := rSl rRg) hE9 hlt
        have HX := Lib.hid (show rBx.rel _ _ _ _ from hs)
        have hik : (k : Int) < (l.length : Int) := by omega
        obtain ⟨A2, c2, rfl, _⟩ := rSl.elems hs
        cases hg : goodBx xx (a.length : Int)
        · have hgX := Lib.hid hg
          have HI2 : Hid (leftB a (l.take (k + 1)) ns = one) := Lib.hid (by rw [leftB_take hx, hg, Bool.false_and]; exact HI.out)
          clear hg hE9 hs hx
          go_wp2_with (first | (go_at_call 38; ((with_reducible refine (BGood_b _ HX.out hgX.out).mono ?_); rintro e w1 ⟨rfl, hb1⟩; (try replace HA := Lib.hid (Rd.below HA.out hb1)); (try replace HM := Lib.hid (Rd.below HM.out hb1)); (try replace HN := Lib.hid (Rd.below HN.out hb1)); (try replace HL := Lib.hid (Rd.below HL.out hb1)); (try replace HX := Lib.hid (Rd.below HX.out hb1)); replace HBW := Lib.hid (HBW.out.trans (hb1.mono HBW.out.size)); clear hb1)) | (go_at_call 40; ((with_reducible refine (BHas_b _ HX.out HN.out hiX.out).mono ?_); rintro e w1 ⟨rfl, hb1⟩; (try replace HA := Lib.hid (Rd.below HA.out hb1)); (try replace HM := Lib.hid (Rd.below HM.out hb1)); (try replace HN := Lib.hid (Rd.below HN.out hb1)); (try replace HL := Lib.hid (Rd.below HL.out hb1)); (try replace HX := Lib.hid (Rd.below HX.out hb1)); replace HBW := Lib.hid (HBW.out.trans (hb1.mono HBW.out.size)); clear hb1)))
          go_roundw
          case rel => exact ⟨k + 1, one, by omega, ho1, by go_num, rfl, HI2, HBW, Lib.hid ⟨_, HA.out⟩, Lib.hid ⟨_, HM.out⟩, Lib.hid ⟨_, HN.out⟩, Lib.hid ⟨_, HL.out⟩⟩
          case measure => simp [intOf]; omega
        · have hgX := Lib.hid hg
          cases hi : inBx xx ns
          · have hiX := Lib.hid hi
            have HI2 : Hid (leftB a (l.take (k + 1)) ns = one) := Lib.hid (by rw [leftB_take hx, hi, Bool.and_false]; exact HI.out)
            clear hg hi hE9 hs hx
            go_wp2_with (first | (go_at_call 38; ((with_reducible refine (BGood_b _ HX.out hgX.out).mono ?_); rintro e w1 ⟨rfl, hb1⟩; (try replace HA := Lib.hid (Rd.below HA.out hb1)); (try replace HM := Lib.hid (Rd.below HM.out hb1)); (try replace HN := Lib.hid (Rd.below HN.out hb1)); (try replace HL := Lib.hid (Rd.below HL.out hb1)); (try replace HX := Lib.hid (Rd.below HX.out hb1)); replace HBW := Lib.hid (HBW.out.trans (hb1.mono HBW.out.size)); clear hb1)) | (go_at_call 40; ((with_reducible refine (BHas_b _ HX.out HN.out hiX.out).mono ?_); rintro e w1 ⟨rfl, hb1⟩; (try replace HA := Lib.hid (Rd.below HA.out hb1)); (try replace HM := Lib.hid (Rd.below HM.out hb1)); (try replace HN := Lib.hid (Rd.below HN.out hb1)); (try replace HL := Lib.hid (Rd.below HL.out hb1)); (try replace HX := Lib.hid (Rd.below HX.out hb1)); replace HBW := Lib.hid (HBW.out.trans (hb1.mono HBW.out.size)); clear hb1)))
            go_roundw
            case rel => exact ⟨k + 1, one, by omega, ho1, by go_num, rfl, HI2, HBW, Lib.hid ⟨_, HA.out⟩, Lib.hid ⟨_, HM.out⟩, Lib.hid ⟨_, HN.out⟩, Lib.hid ⟨_, HL.out⟩⟩
            case measure => simp [intOf]; omega
          · have hiX := Lib.hid hi
            have HI2 : Hid (leftB a (l.take (k + 1)) ns = 0) := Lib.hid (by rw [leftB_take hx, hg, hi]; rfl)
            clear hg hi hE9 hs hx
            go_wp2_with (first | (go_at_call 38; ((with_reducible refine (BGood_b _ HX.out hgX.out).mono ?_); rintro e w1 ⟨rfl, hb1⟩; (try replace HA := Lib.hid (Rd.below HA.out hb1)); (try replace HM := Lib.hid (Rd.below HM.out hb1)); (try replace HN := Lib.hid (Rd.below HN.out hb1)); (try replace HL := Lib.hid (Rd.below HL.out hb1)); (try replace HX := Lib.hid (Rd.below HX.out hb1)); replace HBW := Lib.hid (HBW.out.trans (hb1.mono HBW.out.size)); clear hb1)) | (go_at_call 40; ((with_reducible refine (BHas_b _ HX.out HN.out hiX.out).mono ?_); rintro e w1 ⟨rfl, hb1⟩; (try replace HA := Lib.hid (Rd.below HA.out hb1)); (try replace HM := Lib.hid (Rd.below HM.out hb1)); (try replace HN := Lib.hid (Rd.below HN.out hb1)); (try replace HL := Lib.hid (Rd.below HL.out hb1)); (try replace HX := Lib.hid (Rd.below HX.out hb1)); replace HBW := Lib.hid (HBW.out.trans (hb1.mono HBW.out.size)); clear hb1)))
            go_roundw
            case rel => exact ⟨k + 1, 0, by omega, by omega, by go_num, rfl, HI2, HBW, Lib.hid ⟨_, HA.out⟩, Lib.hid ⟨_, HM.out⟩, Lib.hid ⟨_, HN.out⟩, Lib.hid ⟨_, HL.out⟩⟩
            case measure => simp [intOf]; omega
      · have h9 := HI.out
        rw [List.take_of_length_le (by omega), HCN.out] at h9
        subst h9
        go_wp2
        go_loopw [61] (fun i wr => ∃ (j : Nat), j ≤ L.length ∧ i = .int .i64 j ∧ Hid (Below w.heap.size w wr) ∧ Hid (∃ S', rBx.rel wr S' [.slice A a.length c] a) ∧ Hid (∃ S', (rSl rBx).rel wr S' [.slice B l.length d] l) ∧ Hid (∃ S', (rSl rInt).rel wr S' [.slice C ns.length g] ns) ∧ Hid (∃ S', (rSl rBx).rel wr S' [.slice AL L.length cL] L)) (fun i _ => L.length - (intOf i).toNat)
        case atStart => exact ⟨0, Nat.zero_le _, rfl, HBW, Lib.hid ⟨_, HA.out⟩, Lib.hid ⟨_, HM.out⟩, Lib.hid ⟨_, HN.out⟩, Lib.hid ⟨_, HL.out⟩⟩
        case round =>
          clear HBW HA HM HN HL hlt hk HI
          obtain ⟨k, hk, rfl, HBW, ⟨SA, HA⟩, ⟨SM, HM⟩, ⟨SN, HN⟩, ⟨SL, HL⟩⟩ := hrel
          replace HA := Lib.hid HA
          replace HM := Lib.hid HM
          replace HN := Lib.hid HN
          replace HL := Lib.hid HL
          by_cases hlt : k < L.length
          · obtain ⟨A9, c9, h9, _, _, _, hE9⟩ := rSl.elems HL.out
            simp only [Value.slice.injEq, true_and] at h9
            obtain ⟨rfl, rfl⟩ := h9
            obtain ⟨p, off, vx, xx, rfl, _, hp, hx, hs, h1⟩ := Elems.sl (R := rSl rRg) hE9 hlt
            have HX := Lib.hid (show rBx.rel _ _ _ _ from hs)
            have hik : (k : Int) < (L.length : Int) := by omega
            obtain ⟨A2, c2, rfl, _⟩ := rSl.elems hs
            have hgX := Lib.hid (goodBx_of (hset.out xx (List.mem_of_getElem? hx)).1 (hset.out xx (List.mem_of_getElem? hx)).2 ha3)
            have hiX := Lib.hid (point_in (hset.out xx (List.mem_of_getElem? hx)).1)
            generalize hpp : pointBx xx = pp at *
            have qp := Lib.hid hpp
            clear hpp hE9 hs hx
            go_wp2_with (first | (go_at_call 38; ((with_reducible refine (BGood_b _ HX.out hgX.out).mono ?_); rintro e w1 ⟨rfl, hb1⟩; (try replace HA := Lib.hid (Rd.below HA.out hb1)); (try replace HM := Lib.hid (Rd.below HM.out hb1)); (try replace HN := Lib.hid (Rd.below HN.out hb1)); (try replace HL := Lib.hid (Rd.below HL.out hb1)); (try replace HX := Lib.hid (Rd.below HX.out hb1)); replace HBW := Lib.hid (HBW.out.trans (hb1.mono HBW.out.size)); clear hb1)) | (go_at_call 49; ((with_reducible refine (Point_at _ HX.out qp.out).mono ?_); rintro e w1 ⟨uu, rfl, hoo, hb1⟩; obtain ⟨AP, cP, rfl⟩ := hoo.value; have HP := Lib.hid (show (rSl rInt).rel _ _ _ _ from hoo.rel (by decide)); clear hoo; (try replace HA := Lib.hid (Rd.below HA.out hb1)); (try replace HM := Lib.hid (Rd.below HM.out hb1)); (try replace HN := Lib.hid (Rd.below HN.out hb1)); (try replace HL := Lib.hid (Rd.below HL.out hb1)); (try replace HX := Lib.hid (Rd.below HX.out hb1)); replace HBW := Lib.hid (HBW.out.trans (hb1.mono HBW.out.size)); clear hb1)) | (go_at_call 40; ((with_reducible refine (BHas_b _ HX.out HP.out hiX.out).mono ?_); rintro e w1 ⟨rfl, hb1⟩; (try replace HA := Lib.hid (Rd.below HA.out hb1)); (try replace HM := Lib.hid (Rd.below HM.out hb1)); (try replace HN := Lib.hid (Rd.below HN.out hb1)); (try replace HL := Lib.hid (Rd.below HL.out hb1)); (try replace HX := Lib.hid (Rd.below HX.out hb1)); replace HBW := Lib.hid (HBW.out.trans (hb1.mono HBW.out.size)); clear hb1)))
            go_roundw
            case rel => exact ⟨k + 1, by omega, by go_num, HBW, Lib.hid ⟨_, HA.out⟩, Lib.hid ⟨_, HM.out⟩, Lib.hid ⟨_, HN.out⟩, Lib.hid ⟨_, HL.out⟩⟩
            case measure => simp [intOf]; omega
          · go_wp2_with (first | (go_at_call 42; ((with_reducible refine (BSize_at _ HA.out qz.out).mono ?_); rintro e w1 ⟨rfl, hb1⟩; (try replace HA := Lib.hid (Rd.below HA.out hb1)); (try replace HM := Lib.hid (Rd.below HM.out hb1)); (try replace HN := Lib.hid (Rd.below HN.out hb1)); (try replace HL := Lib.hid (Rd.below HL.out hb1)); (try replace HX := Lib.hid (Rd.below HX.out hb1)); replace HBW := Lib.hid (HBW.out.trans (hb1.mono HBW.out.size)); clear hb1)) | (go_at_call 45; ((with_reducible refine (boxesKeep_any _).mono ?_); rintro e w1 ⟨rfl, hb1⟩; (try replace HA := Lib.hid (Rd.below HA.out hb1)); (try replace HM := Lib.hid (Rd.below HM.out hb1)); (try replace HN := Lib.hid (Rd.below HN.out hb1)); (try replace HL := Lib.hid (Rd.below HL.out hb1)); (try replace HX := Lib.hid (Rd.below HX.out hb1)); replace HBW := Lib.hid (HBW.out.trans (hb1.mono HBW.out.size)); clear hb1)))
            go_ret
            exact ⟨rfl, HBW.out⟩

end Go.Proofs.Ytlopccnehgolnaa
