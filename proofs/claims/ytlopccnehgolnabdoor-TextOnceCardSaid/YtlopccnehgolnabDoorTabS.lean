
/- The contract of Says. -/
import Derived.Test.YtlopccnehgolnabDoorTabG
namespace Go.Proofs.YtlopccnehgolnabDoor
open Go.RowKit Rb

def outAt (rs : List Rl) (i : Int) : Int := match rs[i.toNat]? with | some r => r.out | none => 0
def sayLoop (pol : Int) : Int → List Int → Int × Bool × Int
  | n, [] => (n, true, 0)
  | n, o :: t =>
    if pol = 1 then (0, false, 4)
    else if pol = 2 then (if o ≠ n then (0, false, 4) else sayLoop pol n t)
    else if pol = 4 then sayLoop pol (min n o) t
    else if pol = 5 then sayLoop pol (max n o) t
    else if pol = 6 then sayLoop pol (n + o) t
    else sayLoop pol n t
def sayL (t : Tb) (l : List Int) : Int × Bool × Int :=
  if t.pol = 7 then ((l.length : Int), true, 0) else
  match l.map (outAt t.rules) with
  | [] => (0, false, 0)
  | o :: os => sayLoop t.pol o os
def saysT (t : Tb) (ns : List Int) : Int × Bool × Int :=
  if goodT t = true ∧ ns.length = t.ins.length then sayL t (matchesL t.rules ns) else (0, false, 1)
def sayV (x : Int × Bool × Int) : Value := .tuple #[.int .i64 x.1, .bool x.2.1, .int .i64 x.2.2]

theorem matchesL_lt {rs : List Rl} {ns : List Int} {i : Int} (h : i ∈ matchesL rs ns) : ∃ k : Nat, i = k ∧ k < rs.length := by
  unfold matchesL matchesTo at h
  simp only [List.mem_map, List.mem_filter, List.mem_range] at h
  obtain ⟨k, ⟨h1, _⟩, rfl⟩ := h
  exact ⟨k, rfl, h1⟩
theorem goodT_out {t : Tb} (h : goodT t = true) {r : Rl} (hr : r ∈ t.rules) : -1000000 ≤ r.out ∧ r.out ≤ 1000000 := by
  unfold goodT at h
  simp only [Bool.and_eq_true, List.all_eq_true] at h
  have h1 := h.2 r hr
  unfold goodRule at h1
  simp only [Bool.and_eq_true] at h1
  exact (isNum_iff _).1 h1.1.1
theorem goodT_head {t : Tb} (h : goodT t = true) : 1 ≤ t.pol ∧ t.pol ≤ 7 ∧ 1 ≤ t.ins.length ∧ t.ins.length ≤ 3 ∧ 1 ≤ t.rules.length ∧ t.rules.length ≤ 6 := by
  unfold goodT at h
  simp only [Bool.and_eq_true] at h
  exact (head_yes h.1.1).2

theorem says3 {x : Int × Bool × Int} {a : Int} {b : Bool} {c : Int} (h : x = (a, b, c)) : Ending.returned (.tuple #[.int .i64 a, .bool b, .int .i64 c]) = .returned (sayV x) := by rw [h]; rfl

set_option maxRecDepth 100000 in
set_option maxHeartbeats 1000000 in
theorem Says_any {S T : Nat → Prop} {cs : List Value} {t : Tb} {u : Value} {ns : List Int} (w : World) (hl : rTb.rel w S cs t) (hn : (rSl rInt).rel w T [u] ns) :
    Calls Tryd.prog 33 #[.agg cs.toArray, u] w fun e w' => e = .returned (sayV (saysT t ns)) ∧ Below w.heap.size w w' := by
  have HG := Lib.hid fun o => TGood_any (w.alloc o) (Rd.alloc hl o)
  obtain ⟨vi, vr, rfl, hnm, hp, hi, hr⟩ := hl
  obtain ⟨A, c, rfl, hi1, hi2, hi3, hE⟩ := rSl.elems hi
  obtain ⟨B, d, rfl, hr1, hr2, hr3, hF⟩ := rSl.elems hr
  obtain ⟨C, g, rfl, _, _, hn3, hN⟩ := rSl.elems hn
  have hn3' : ns.length ≤ 17592186044416 := by simp only [rInt] at hn3; omega
  have hi3' : t.ins.length ≤ 8796093022208 := by simp only [rStr] at hi3; omega
  have HM : Hid (∀ w', Below w.heap.size w w' → Calls Tryd.prog 60 #[.agg #[.string ⟨t.name.toArray⟩, .int .i64 t.pol, .bool t.comp, .slice A t.ins.length c, .slice B t.rules.length d], .slice C ns.length g] w' fun e w2 => ∃ z, e = .returned z ∧ Own rInt 3 w2 w'.heap.size (fun _ => False) z (matchesL t.rules ns) ∧ Below w'.heap.size w' w2) :=
    Lib.hid fun w' hb => Matches_any w' (Rd.below hr hb) (Rd.below hn hb)
  obtain ⟨W0, e0, hb0, c0, c1, c2, c3, c4, hs0⟩ : ∃ W0, w.alloc (.cells #[.string ⟨t.name.toArray⟩, .int .i64 t.pol, .bool t.comp, .slice A t.ins.length c, .slice B t.rules.length d] 25) = W0 ∧ Below w.heap.size w W0 ∧
      W0.cell? ⟨w.heap.size, 0, none⟩ = some (.string ⟨t.name.toArray⟩) ∧ W0.cell? ⟨w.heap.size, 1, none⟩ = some (.int .i64 t.pol) ∧ W0.cell? ⟨w.heap.size, 2, none⟩ = some (.bool t.comp) ∧ W0.cell? ⟨w.heap.size, 3, none⟩ = some (.slice A t.ins.length c) ∧ W0.cell? ⟨w.heap.size, 4, none⟩ = some (.slice B t.rules.length d) ∧ w.heap.size < W0.heap.size :=
    ⟨_, rfl, (Below.refl _ _).alloc (Nat.le_refl _) _, World.cell?_alloc_new _ _ _ _, World.cell?_alloc_new _ _ _ _, World.cell?_alloc_new _ _ _ _, World.cell?_alloc_new _ _ _ _, World.cell?_alloc_new _ _ _ _, by simp⟩
  have HG0 := Lib.hid (by have := HG.out (.cells #[.string ⟨t.name.toArray⟩, .int .i64 t.pol, .bool t.comp, .slice A t.ins.length c, .slice B t.rules.length d] 25); rw [e0] at this; exact this)
  clear hi hr hE hi3 hr3 hn hn3 HG
  cases hgt : goodT t
  · have HF : Hid (saysT t ns = (0, false, 1)) := Lib.hid (by unfold saysT; rw [if_neg (by simp [hgt])])
    rw [hgt] at HG0
    clear hgt
    go_enter Tryd.func33, Tryd.ntmps33

    go_wp2_with (first | (go_at_call 17; refine HG0.out.mono ?_; rintro e w1 ⟨rfl, hb1⟩))
    go_ret3
    exact ⟨says3 HF.out, hb0.trans (hb1.mono hb0.size)⟩
  rw [hgt] at HG0
  by_cases hlen : ns.length = t.ins.length
  case neg =>
    have hne : ((ns.length : Int) != (t.ins.length : Int)) = true := by rw [bne_iff_ne]; omega
    have HF : Hid (saysT t ns = (0, false, 1)) := Lib.hid (by unfold saysT; rw [if_neg (by simp [hlen])])
    clear hgt hlen
    go_enter Tryd.func33, Tryd.ntmps33
    go_wp2_with (first | (go_at_call 17; refine HG0.out.mono ?_; rintro e w1 ⟨rfl, hb1⟩; have k0 := (hb1.cell (p := ⟨w.heap.size, 0, none⟩) hs0).trans c0; have k1 := (hb1.cell (p := ⟨w.heap.size, 1, none⟩) hs0).trans c1; have k2 := (hb1.cell (p := ⟨w.heap.size, 2, none⟩) hs0).trans c2; have k3 := (hb1.cell (p := ⟨w.heap.size, 3, none⟩) hs0).trans c3; have k4 := (hb1.cell (p := ⟨w.heap.size, 4, none⟩) hs0).trans c4; have hb1' := hb0.trans (hb1.mono hb0.size); have hs1 := Nat.lt_of_lt_of_le hs0 hb1.size))
    go_ret3
    exact ⟨says3 HF.out, hb1'⟩
  have hne : ((ns.length : Int) != (t.ins.length : Int)) = false := by rw [bne_eq_false_iff_eq]; omega
  have HS : Hid (saysT t ns = sayL t (matchesL t.rules ns)) := Lib.hid (by unfold saysT; rw [if_pos ⟨hgt, hlen⟩])
  have hlt := fun i => matchesL_lt (rs := t.rules) (ns := ns) (i := i)
  have hml : (matchesL t.rules ns).length ≤ t.rules.length := matchesTo_len _ _ _
  have hout := fun r => goodT_out hgt (r := r)
  obtain ⟨hp1, hp7, _, _, _, hr6⟩ := goodT_head hgt
  generalize matchesL t.rules ns = l at *
  have HO := Lib.hid hout
  have HLT := Lib.hid hlt
  clear hgt hlen hout hlt
  obtain ⟨p, hpe⟩ : ∃ p, t.pol = p := ⟨_, rfl⟩
  have HPE := Lib.hid hpe
  rw [hpe] at HM HG0 c1 hp1 hp7 e0
  rw [hpe]
  clear hpe
  by_cases hp : p = 7
  · subst hp
    have HF : Hid (saysT t ns = ((l.length : Int), true, 0)) := Lib.hid (by rw [HS.out, sayL, if_pos HPE.out])
    go_enter Tryd.func33, Tryd.ntmps33
    go_wp2_with (first | (go_at_call 17; refine HG0.out.mono ?_; rintro e w1 ⟨rfl, hb1⟩; have k0 := (hb1.cell (p := ⟨w.heap.size, 0, none⟩) hs0).trans c0; have k1 := (hb1.cell (p := ⟨w.heap.size, 1, none⟩) hs0).trans c1; have k2 := (hb1.cell (p := ⟨w.heap.size, 2, none⟩) hs0).trans c2; have k3 := (hb1.cell (p := ⟨w.heap.size, 3, none⟩) hs0).trans c3; have k4 := (hb1.cell (p := ⟨w.heap.size, 4, none⟩) hs0).trans c4; have hb1' := hb0.trans (hb1.mono hb0.size); have hs1 := Nat.lt_of_lt_of_le hs0 hb1.size) | (go_at_call 60; go_must (refine (HM.out _ hb1').mono ?_); rintro e w2 ⟨z, rfl, hown, hb2⟩; have m1 := (hb2.cell (p := ⟨w.heap.size, 1, none⟩) hs1).trans k1; have m4 := (hb2.cell (p := ⟨w.heap.size, 4, none⟩) hs1).trans k4; have hb2' := hb1'.trans (hb2.mono hb1'.size); obtain ⟨AZ, cz, rfl⟩ := hown.value))
    go_ret3
    exact ⟨says3 HF.out, hb2'⟩
  have hp' : (p == 7) = false := by simpa using hp
  have HQ : Hid (saysT t ns = match l.map (outAt t.rules) with | [] => (0, false, 0) | o :: os => sayLoop p o os) := Lib.hid (by rw [HS.out, sayL, if_neg (by rw [HPE.out]; exact hp), HPE.out])
  clear HS hp
  rcases l with _ | ⟨x0, l⟩
  · have HF : Hid (saysT t ns = (0, false, 0)) := HQ
    clear HQ
    go_enter Tryd.func33, Tryd.ntmps33
    go_wp2_with (first | (go_at_call 17; refine HG0.out.mono ?_; rintro e w1 ⟨rfl, hb1⟩; have k0 := (hb1.cell (p := ⟨w.heap.size, 0, none⟩) hs0).trans c0; have k1 := (hb1.cell (p := ⟨w.heap.size, 1, none⟩) hs0).trans c1; have k2 := (hb1.cell (p := ⟨w.heap.size, 2, none⟩) hs0).trans c2; have k3 := (hb1.cell (p := ⟨w.heap.size, 3, none⟩) hs0).trans c3; have k4 := (hb1.cell (p := ⟨w.heap.size, 4, none⟩) hs0).trans c4; have hb1' := hb0.trans (hb1.mono hb0.size); have hs1 := Nat.lt_of_lt_of_le hs0 hb1.size) | (go_at_call 60; go_must (refine (HM.out _ hb1').mono ?_); rintro e w2 ⟨z, rfl, hown, hb2⟩; have m1 := (hb2.cell (p := ⟨w.heap.size, 1, none⟩) hs1).trans k1; have m4 := (hb2.cell (p := ⟨w.heap.size, 4, none⟩) hs1).trans k4; have hb2' := hb1'.trans (hb2.mono hb1'.size); obtain ⟨AZ, cz, rfl⟩ := hown.value))
    go_ret3
    exact ⟨says3 HF.out, hb2'⟩
  obtain ⟨j0, rfl, hj0⟩ := HLT.out x0 (by simp)
  obtain ⟨b, off, r0, q0, rfl, _, hb, hx0, _, _, h1, h2⟩ := hF.rl hj0
  have hr0 := HO.out r0 (List.mem_of_getElem? hx0)
  have HQ2 : Hid (saysT t ns = sayLoop p r0.out ((l.map (outAt t.rules)).drop 0)) := Lib.hid (by rw [HQ.out]; simp only [List.map_cons, List.drop_zero, outAt, Int.toNat_natCast, hx0])
  have hll : l.length + 1 ≤ t.rules.length := hml
  have hij0 : (j0 : Int) < (t.rules.length : Int) := by omega
  generalize hlm : (↑j0 :: l : List Int) = L at *
  have hLl : L.length = l.length + 1 := by rw [← hlm]; rfl
  have hL0 : L[0]? = some (j0 : Int) := by rw [← hlm]; rfl
  have HLM := Lib.hid hlm
  have HLl := Lib.hid hLl
  have HL0 := Lib.hid hL0
  have hposn : 0 < L.length := by omega
  have hpos : (0 : Int) < (L.length : Int) := by omega
  have hq0 : ((L.length : Int) == 0) = false := by rw [beq_eq_false_iff_ne]; omega
  clear hlm HQ hx0 hml hLl hL0
  go_enter Tryd.func33, Tryd.ntmps33
  go_wp2_with (first | (go_at_call 17; refine HG0.out.mono ?_; rintro e w1 ⟨rfl, hb1⟩; have k0 := (hb1.cell (p := ⟨w.heap.size, 0, none⟩) hs0).trans c0; have k1 := (hb1.cell (p := ⟨w.heap.size, 1, none⟩) hs0).trans c1; have k2 := (hb1.cell (p := ⟨w.heap.size, 2, none⟩) hs0).trans c2; have k3 := (hb1.cell (p := ⟨w.heap.size, 3, none⟩) hs0).trans c3; have k4 := (hb1.cell (p := ⟨w.heap.size, 4, none⟩) hs0).trans c4; have hb1' := hb0.trans (hb1.mono hb0.size); have hs1 := Nat.lt_of_lt_of_le hs0 hb1.size) | (go_at_call 60; go_must (refine (HM.out _ hb1').mono ?_); rintro e w2 ⟨z, rfl, hown, hb2⟩; have m1 := (hb2.cell (p := ⟨w.heap.size, 1, none⟩) hs1).trans k1; have m4 := (hb2.cell (p := ⟨w.heap.size, 4, none⟩) hs1).trans k4; have hb2' := hb1'.trans (hb2.mono hb1'.size); obtain ⟨AZ, cz, rfl⟩ := hown.value))
  obtain ⟨_, hE2⟩ := hown.elems (by decide) rfl
  obtain ⟨b1, off1, n0, rfl, _, hb1b, hx1, _, g1⟩ := hE2.intAt (i := 0) (by omega)
  obtain rfl : (j0 : Int) = n0 := by rw [HL0.out] at hx1; exact Option.some.inj hx1
  rw [← hb2'.cell (p := ⟨b, _, none⟩) hb] at h1 h2
  rw [Nat.add_zero] at g1
  have hi0 : (0 : Int) ≤ (j0 : Int) := by omega
  obtain ⟨_, _, hzv, hzc, hzm, _⟩ := hown.rel (by decide)
  simp only [List.cons.injEq, Value.slice.injEq, and_true, true_and] at hzv
  obtain ⟨rfl, rfl⟩ := hzv
  clear e0 k0 k2 k3 hx1 hzm
  go_quiet (fail)
  have hz1 : (1 : Int) ≤ (L.length : Int) := by omega
  have hz2 : (L.length : Int) ≤ (cz : Int) := by omega
  have HE2 := Lib.hid hE2
  rcases (show cz = 1 ∨ 1 < cz by omega) with rfl | hcz
  · have hl0 : l = [] := List.eq_nil_of_length_eq_zero (by have := HLl.out; omega)
    have HF : Hid (saysT t ns = (r0.out, true, 0)) := Lib.hid (by rw [HQ2.out, hl0]; rfl)
    have hL1 : L.length - 1 = 0 := by omega
    clear hl0
    go_wp2
    go_loop [8, 45] (fun n i => n = .int .i64 r0.out ∧ i = .int .i64 0) (fun _ _ => 0)
    case atStart => exact ⟨rfl, rfl⟩
    case round =>
      obtain ⟨rfl, rfl⟩ := hrel
      go_wp2
      go_ret3
      exact ⟨says3 HF.out, drewN_below hb2' _⟩
  have hcn : ¬ cz = 1 := by omega
  have hE3 : ∀ (k : Nat) (x : Int), l[k]? = some x → w2.cell? ⟨b1, off1 + 1 + k, none⟩ = some (.int .i64 x) := fun k x hx => by
    have hx' : L[k + 1]? = some x := by rw [← HLM.out, List.getElem?_cons_succ]; exact hx
    obtain ⟨_, _, n9, hA9, _, _, hx9, _, g9⟩ := HE2.out.intAt (i := k + 1) (List.getElem?_eq_some_iff.1 hx').1
    obtain ⟨rfl, rfl⟩ : b1 = _ ∧ off1 = _ := by simpa using hA9
    obtain rfl : x = n9 := by rw [hx'] at hx9; exact Option.some.inj hx9
    rw [show off1 + 1 + k = off1 + (k + 1) by omega]
    exact g9
  have HE3 := Lib.hid hE3
  have HX : Hid (∀ (k : Nat) (x : Int), l[k]? = some x → ∃ j : Nat, x = j ∧ j < t.rules.length) := Lib.hid fun k x hx => HLT.out x (by rw [← HLM.out]; exact List.mem_cons_of_mem _ (List.mem_of_getElem? hx))
  have hR : ∀ j : Nat, j < t.rules.length → ∃ r : Rl, t.rules[j]? = some r ∧ w2.cell? ⟨b, off + j * 2 + 1, none⟩ = some (.int .i64 r.out) ∧ -1000000 ≤ r.out ∧ r.out ≤ 1000000 := fun j hj => by
    obtain ⟨_, _, r, _, hA9, _, hb9, hx9, _, _, _, g9⟩ := hF.rl hj
    obtain ⟨rfl, rfl⟩ : b = _ ∧ off = _ := by simpa using hA9
    rw [← hb2'.cell (p := ⟨b, _, none⟩) hb] at g9
    exact ⟨r, hx9, g9, HO.out r (List.mem_of_getElem? hx9)⟩
  have HR := Lib.hid hR
  clear hE2 hE3 hR hF
  have hz9 : (1 : Int) ≤ (L.length : Int) := by omega
  have hz8 : (L.length : Int) ≤ (cz : Int) := by omega
  go_wp2
  generalize hm : L.length - 1 = m at *
  have hm5 : m ≤ 5 := by have := HLl.out; omega
  have HML : Hid (m = l.length) := Lib.hid (by have := HLl.out; omega)
  have hp6 : p = 1 ∨ p = 2 ∨ p = 3 ∨ p = 4 ∨ p = 5 ∨ p = 6 := by
    have : p ≠ 7 := by rintro rfl; simp at hp'
    omega
  clear hm
  go_loop [8, 45] (fun n i => ∃ (k : Nat) (a : Int), k ≤ m ∧ i = .int .i64 k ∧ n = .int .i64 a ∧ -1000000 * ((k : Int) + 1) ≤ a ∧ a ≤ 1000000 * ((k : Int) + 1) ∧ Hid (saysT t ns = sayLoop p a ((l.map (outAt t.rules)).drop k))) (fun _ i => m - (intOf i).toNat)
  case atStart => exact ⟨0, _, Nat.zero_le _, rfl, rfl, by omega, by omega, HQ2⟩
  case round =>
    obtain ⟨k, a, hk, rfl, rfl, ha1, ha2, HK⟩ := hrel
    by_cases hlt : k < m
    · have hkl : k < l.length := by rw [← HML.out]; exact hlt
      have hx : l[k]? = some l[k] := List.getElem?_eq_getElem hkl
      obtain ⟨j, hj, hjr⟩ := HX.out k _ hx
      obtain ⟨r, hr1, hr2, hr3, hr4⟩ := HR.out j hjr
      have g := HE3.out k _ hx
      rw [hj] at g
      have HKn : Hid (saysT t ns = sayLoop p a (r.out :: (l.map (outAt t.rules)).drop (k + 1))) := Lib.hid (by
        rw [HK.out, drop_cons (x := outAt t.rules l[k]) (by rw [List.getElem?_map, hx]; rfl)]
        congr 2
        rw [hj]
        simp only [outAt, Int.toNat_natCast, hr1])
      have hik : (k : Int) < (m : Int) := by omega
      have hijr : (j : Int) < (t.rules.length : Int) := by omega
      generalize r.out = o at *
      clear HK hx hj hr1 hkl
      rcases hp6 with rfl | rfl | rfl | rfl | rfl | rfl
      · have HF : Hid (saysT t ns = (0, false, 4)) := Lib.hid (by rw [HKn.out]; rfl)
        go_wp2
        go_ret3
        exact ⟨says3 HF.out, drewN_below hb2' _⟩
      · by_cases hoa : o = a
        · subst hoa
          have HK' : Hid (saysT t ns = sayLoop 2 o ((l.map (outAt t.rules)).drop (k + 1))) := Lib.hid (by rw [HKn.out]; simp [sayLoop])
          go_wp2
          go_round
          case rel => exact ⟨k + 1, o, by omega, by go_num, rfl, by omega, by omega, HK'⟩
          case measure => simp [intOf]; omega
        · have HF : Hid (saysT t ns = (0, false, 4)) := Lib.hid (by rw [HKn.out]; simp [sayLoop, hoa])
          have hb9 : (o != a) = true := by rw [bne_iff_ne]; exact hoa
          clear hoa
          go_wp2
          go_ret3
          exact ⟨says3 HF.out, drewN_below hb2' _⟩
      · have HK' : Hid (saysT t ns = sayLoop 3 a ((l.map (outAt t.rules)).drop (k + 1))) := Lib.hid (by rw [HKn.out]; simp [sayLoop])
        go_wp2
        go_round
        case rel => exact ⟨k + 1, a, by omega, by go_num, rfl, by omega, by omega, HK'⟩
        case measure => simp [intOf]; omega
      · have HK' : Hid (saysT t ns = sayLoop 4 (min a o) ((l.map (outAt t.rules)).drop (k + 1))) := Lib.hid (by rw [HKn.out]; simp [sayLoop])
        go_wp2
        all_goals
          go_round
          case rel => exact ⟨k + 1, min a o, by omega, by go_num, by go_num, by omega, by omega, HK'⟩
          case measure => simp [intOf]; omega
      · have HK' : Hid (saysT t ns = sayLoop 5 (max a o) ((l.map (outAt t.rules)).drop (k + 1))) := Lib.hid (by rw [HKn.out]; simp [sayLoop])
        go_wp2
        all_goals
          go_round
          case rel => exact ⟨k + 1, max a o, by omega, by go_num, by go_num, by omega, by omega, HK'⟩
          case measure => simp [intOf]; omega
      · have HK' : Hid (saysT t ns = sayLoop 6 (a + o) ((l.map (outAt t.rules)).drop (k + 1))) := Lib.hid (by rw [HKn.out]; simp [sayLoop])
        go_wp2
        go_round
        case rel => exact ⟨k + 1, a + o, by omega, by go_num, by go_num, by omega, by omega, HK'⟩
        case measure => simp [intOf]; omega
    · have HF : Hid (saysT t ns = (a, true, 0)) := Lib.hid (by
        rw [HK.out, List.drop_eq_nil_of_le (by rw [List.length_map, ← HML.out]; omega)]; rfl)
      go_wp2
      go_ret3
      exact ⟨says3 HF.out, drewN_below hb2' _⟩

end Go.Proofs.YtlopccnehgolnabDoor
