/- The contract of Says. Contracts of the little helpers of laws over tables: tables, pick. The plain law of TableOrder: but for First, what a table says does not hang on the order of its rules. What a table says, by the reference's road: least, greatest and sum of the outs that hold. Plain, no program. Contracts of the reference's CellHolds and SameNumbers. -/
import Derived.Test.YtlopccnehgolnabGreatDoorGrE
import Derived.Test.YtlopccnehgolnabGreatDoorGrC
import Derived.BigQuiet
namespace Go.Proofs.YtlopccnehgolnabGreatDoor
open Go.RowKit Rb

def outAt (rs : List Rl) (i : Int) : Int := match rs[i.toNat]? with | some r => r.out | none => 0
def sayLoop (pol : Int) : Int → List Int → Int × Bool × Int
  | n, [] => (n, true, 0)
  | n, o :: t =>
    if pol = 1 then (0, false, 4)
    else if pol = 2 then (if o ≠ n then (0, false, 4) else sayLoop pol n t)
    else if pol = 4 then sayLoop pol (min n o) t
    else if pol = 5 then sayLoop pol (max n o) t
    else if pol = 6 then sayLoop pol (n + o) t
    else sayLoop pol n t
def sayL (t : Tb) (l : List Int) : Int × Bool × Int :=
  if t.pol = 7 then ((l.length : Int), true, 0) else
  match l.map (outAt t.rules) with
  | [] => (0, false, 0)
  | o :: os => sayLoop t.pol o os
def saysT (t : Tb) (ns : List Int) : Int × Bool × Int :=
  if goodT t = true ∧ ns.length = t.ins.length then sayL t (matchesL t.rules ns) else (0, false, 1)
def sayV (x : Int × Bool × Int) : Value := .tuple #[.int .i64 x.1, .bool x.2.1, .int .i64 x.2.2]

theorem matchesL_lt {rs : List Rl} {ns : List Int} {i : Int} (h : i ∈ matchesL rs ns) : ∃ k : Nat, i = k ∧ k < rs.length := by
  unfold matchesL matchesTo at h
  simp only [List.mem_map, List.mem_filter, List.mem_range] at h
  obtain ⟨k, ⟨h1, _⟩, rfl⟩ := h
  exact ⟨k, rfl, h1⟩
theorem goodT_out {t : Tb} (h : goodT t = true) {r : Rl} (hr : r ∈ t.rules) : -1000000 ≤ r.out ∧ r.out ≤ 1000000 := by
  unfold goodT at h
  simp only [Bool.and_eq_true, List.all_eq_true] at h
  have h1 := h.2 r hr
  unfold goodRule at h1
  simp only [Bool.and_eq_true] at h1
  exact (isNum_iff _).1 h1.1.1
theorem goodT_head {t : Tb} (h : goodT t = true) : 1 ≤ t.pol ∧ t.pol ≤ 7 ∧ 1 ≤ t.ins.length ∧ t.ins.length ≤ 3 ∧ 1 ≤ t.rules.length ∧ t.rules.length ≤ 6 := by
  unfold goodT at h
  simp only [Bool.and_eq_true] at h
  exact (head_yes h.1.1).2

theorem says3 {x : Int × Bool × Int} {a : Int} {b : Bool} {c : Int} (h : x = (a, b, c)) : Ending.returned (.tuple #[.int .i64 a, .bool b, .int .i64 c]) = .returned (sayV x) := by rw [h]; rfl

set_option maxRecDepth 100000 in
set_option maxHeartbeats 1000000 in
theorem Says_any {S T : Nat → Prop} {cs : List Value} {t : Tb} {u : Value} {ns : List Int} (w : World) (hl : rTb.rel w S cs t) (hn : (rSl rInt).rel w T [u] ns) :
    Calls Tryz.prog 67 #[.agg cs.toArray, u] w fun e w' => e = .returned (sayV (saysT t ns)) ∧ Below w.heap.size w w' := by
  have HG := Lib.hid fun o => TGood_any (w.alloc o) (Rd.alloc hl o)
  obtain ⟨vi, vr, rfl, hnm, hp, hi, hr⟩ := hl
  obtain ⟨A, c, rfl, hi1, hi2, hi3, hE⟩ := rSl.elems hi
  obtain ⟨B, d, rfl, hr1, hr2, hr3, hF⟩ := rSl.elems hr
  obtain ⟨C, g, rfl, _, _, hn3, hN⟩ := rSl.elems hn
  have hn3' : ns.length ≤ 17592186044416 := by simp only [rInt] at hn3; omega
  have hi3' : t.ins.length ≤ 8796093022208 := by simp only [rStr] at hi3; omega
  have HM : Hid (∀ w', Below w.heap.size w w' → Calls Tryz.prog 13 #[.agg #[.string ⟨t.name.toArray⟩, .int .i64 t.pol, .bool t.comp, .slice A t.ins.length c, .slice B t.rules.length d], .slice C ns.length g] w' fun e w2 => ∃ z, e = .returned z ∧ Own rInt 3 w2 w'.heap.size (fun _ => False) z (matchesL t.rules ns) ∧ Below w'.heap.size w' w2) :=
    Lib.hid fun w' hb => Matches_any w' (Rd.below hr hb) (Rd.below hn hb)
  obtain ⟨W0, e0, hb0, c0, c1, c2, c3, c4, hs0⟩ : ∃ W0, w.alloc (.cells #[.string ⟨t.name.toArray⟩, .int .i64 t.pol, .bool t.comp, .slice A t.ins.length c, .slice B t.rules.length d] 42) = W0 ∧ Below w.heap.size w W0 ∧
      W0.cell? ⟨w.heap.size, 0, none⟩ = some (.string ⟨t.name.toArray⟩) ∧ W0.cell? ⟨w.heap.size, 1, none⟩ = some (.int .i64 t.pol) ∧ W0.cell? ⟨w.heap.size, 2, none⟩ = some (.bool t.comp) ∧ W0.cell? ⟨w.heap.size, 3, none⟩ = some (.slice A t.ins.length c) ∧ W0.cell? ⟨w.heap.size, 4, none⟩ = some (.slice B t.rules.length d) ∧ w.heap.size < W0.heap.size :=
    ⟨_, rfl, (Below.refl _ _).alloc (Nat.le_refl _) _, World.cell?_alloc_new _ _ _ _, World.cell?_alloc_new _ _ _ _, World.cell?_alloc_new _ _ _ _, World.cell?_alloc_new _ _ _ _, World.cell?_alloc_new _ _ _ _, by simp⟩
  have HG0 := Lib.hid (by have := HG.out (.cells #[.string ⟨t.name.toArray⟩, .int .i64 t.pol, .bool t.comp, .slice A t.ins.length c, .slice B t.rules.length d] 42); rw [e0] at this; exact this)
  clear hi hr hE hi3 hr3 hn hn3 HG
  cases hgt : goodT t
  · have HF : Hid (saysT t ns = (0, false, 1)) := Lib.hid (by unfold saysT; rw [if_neg (by simp [hgt])])
    rw [hgt] at HG0
    clear hgt
    go_enter Tryz.func67, Tryz.ntmps67

    go_wp2_with (first | (go_at_call 51; refine HG0.out.mono ?_; rintro e w1 ⟨rfl, hb1⟩))
    go_ret3
    exact ⟨says3 HF.out, hb0.trans (hb1.mono hb0.size)⟩
  rw [hgt] at HG0
  by_cases hlen : ns.length = t.ins.length
  case neg =>
    have hne : ((ns.length : Int) != (t.ins.length : Int)) = true := by rw [bne_iff_ne]; omega
    have HF : Hid (saysT t ns = (0, false, 1)) := Lib.hid (by unfold saysT; rw [if_neg (by simp [hlen])])
    clear hgt hlen
    go_enter Tryz.func67, Tryz.ntmps67
    go_wp2_with (first | (go_at_call 51; refine HG0.out.mono ?_; rintro e w1 ⟨rfl, hb1⟩; have k0 := (hb1.cell (p := ⟨w.heap.size, 0, none⟩) hs0).trans c0; have k1 := (hb1.cell (p := ⟨w.heap.size, 1, none⟩) hs0).trans c1; have k2 := (hb1.cell (p := ⟨w.heap.size, 2, none⟩) hs0).trans c2; have k3 := (hb1.cell (p := ⟨w.heap.size, 3, none⟩) hs0).trans c3; have k4 := (hb1.cell (p := ⟨w.heap.size, 4, none⟩) hs0).trans c4; have hb1' := hb0.trans (hb1.mono hb0.size); have hs1 := Nat.lt_of_lt_of_le hs0 hb1.size))
    go_ret3
    exact ⟨says3 HF.out, hb1'⟩
  have hne : ((ns.length : Int) != (t.ins.length : Int)) = false := by rw [bne_eq_false_iff_eq]; omega
  have HS : Hid (saysT t ns = sayL t (matchesL t.rules ns)) := Lib.hid (by unfold saysT; rw [if_pos ⟨hgt, hlen⟩])
  have hlt := fun i => matchesL_lt (rs := t.rules) (ns := ns) (i := i)
  have hml : (matchesL t.rules ns).length ≤ t.rules.length := matchesTo_len _ _ _
  have hout := fun r => goodT_out hgt (r := r)
  obtain ⟨hp1, hp7, _, _, _, hr6⟩ := goodT_head hgt
  generalize matchesL t.rules ns = l at *
  have HO := Lib.hid hout
  have HLT := Lib.hid hlt
  clear hgt hlen hout hlt
  obtain ⟨p, hpe⟩ : ∃ p, t.pol = p := ⟨_, rfl⟩
  have HPE := Lib.hid hpe
  rw [hpe] at HM HG0 c1 hp1 hp7 e0
  rw [hpe]
  clear hpe
  by_cases hp : p = 7
  · subst hp
    have HF : Hid (saysT t ns = ((l.length : Int), true, 0)) := Lib.hid (by rw [HS.out, sayL, if_pos HPE.out])
    go_enter Tryz.func67, Tryz.ntmps67
    go_wp2_with (first | (go_at_call 51; refine HG0.out.mono ?_; rintro e w1 ⟨rfl, hb1⟩; have k0 := (hb1.cell (p := ⟨w.heap.size, 0, none⟩) hs0).trans c0; have k1 := (hb1.cell (p := ⟨w.heap.size, 1, none⟩) hs0).trans c1; have k2 := (hb1.cell (p := ⟨w.heap.size, 2, none⟩) hs0).trans c2; have k3 := (hb1.cell (p := ⟨w.heap.size, 3, none⟩) hs0).trans c3; have k4 := (hb1.cell (p := ⟨w.heap.size, 4, none⟩) hs0).trans c4; have hb1' := hb0.trans (hb1.mono hb0.size); have hs1 := Nat.lt_of_lt_of_le hs0 hb1.size) | (go_at_call 13; go_must (refine (HM.out _ hb1').mono ?_); rintro e w2 ⟨z, rfl, hown, hb2⟩; have m1 := (hb2.cell (p := ⟨w.heap.size, 1, none⟩) hs1).trans k1; have m4 := (hb2.cell (p := ⟨w.heap.size, 4, none⟩) hs1).trans k4; have hb2' := hb1'.trans (hb2.mono hb1'.size); obtain ⟨AZ, cz, rfl⟩ := hown.value))
    go_ret3
    exact ⟨says3 HF.out, hb2'⟩
  have hp' : (p == 7) = false := by simpa using hp
  have HQ : Hid (saysT t ns = match l.map (outAt t.rules) with | [] => (0, false, 0) | o :: os => sayLoop p o os) := Lib.hid (by rw [HS.out, sayL, if_neg (by rw [HPE.out]; exact hp), HPE.out])
  clear HS hp
  rcases l with _ | ⟨x0, l⟩
  · have HF : Hid (saysT t ns = (0, false, 0)) := HQ
    clear HQ
    go_enter Tryz.func67, Tryz.ntmps67
    go_wp2_with (first | (go_at_call 51; refine HG0.out.mono ?_; rintro e w1 ⟨rfl, hb1⟩; have k0 := (hb1.cell (p := ⟨w.heap.size, 0, none⟩) hs0).trans c0; have k1 := (hb1.cell (p := ⟨w.heap.size, 1, none⟩) hs0).trans c1; have k2 := (hb1.cell (p := ⟨w.heap.size, 2, none⟩) hs0).trans c2; have k3 := (hb1.cell (p := ⟨w.heap.size, 3, none⟩) hs0).trans c3; have k4 := (hb1.cell (p := ⟨w.heap.size, 4, none⟩) hs0).trans c4; have hb1' := hb0.trans (hb1.mono hb0.size); have hs1 := Nat.lt_of_lt_of_le hs0 hb1.size) | (go_at_call 13; go_must (refine (HM.out _ hb1').mono ?_); rintro e w2 ⟨z, rfl, hown, hb2⟩; have m1 := (hb2.cell (p := ⟨w.heap.size, 1, none⟩) hs1).trans k1; have m4 := (hb2.cell (p := ⟨w.heap.size, 4, none⟩) hs1).trans k4; have hb2' := hb1'.trans (hb2.mono hb1'.size); obtain ⟨AZ, cz, rfl⟩ := hown.value))
    go_ret3
    exact ⟨says3 HF.out, hb2'⟩
  obtain ⟨j0, rfl, hj0⟩ := HLT.out x0 (by simp)
  obtain ⟨b, off, r0, q0, rfl, _, hb, hx0, _, _, h1, h2⟩ := hF.rl hj0
  have hr0 := HO.out r0 (List.mem_of_getElem? hx0)
  have HQ2 : Hid (saysT t ns = sayLoop p r0.out ((l.map (outAt t.rules)).drop 0)) := Lib.hid (by rw [HQ.out]; simp only [List.map_cons, List.drop_zero, outAt, Int.toNat_natCast, hx0])
  have hll : l.length + 1 ≤ t.rules.length := hml
  have hij0 : (j0 : Int) < (t.rules.length : Int) := by omega
  generalize hlm : (↑j0 :: l : List Int) = L at *
  have hLl : L.length = l.length + 1 := by rw [← hlm]; rfl
  have hL0 : L[0]? = some (j0 : Int) := by rw [← hlm]; rfl
  have HLM := Lib.hid hlm
  have HLl := Lib.hid hLl
  have HL0 := Lib.hid hL0
  have hposn : 0 < L.length := by omega
  have hpos : (0 : Int) < (L.length : Int) := by omega
  have hq0 : ((L.length : Int) == 0) = false := by rw [beq_eq_false_iff_ne]; omega
  clear hlm HQ hx0 hml hLl hL0
  go_enter Tryz.func67, Tryz.ntmps67
  go_wp2_with (first | (go_at_call 51; refine HG0.out.mono ?_; rintro e w1 ⟨rfl, hb1⟩; have k0 := (hb1.cell (p := ⟨w.heap.size, 0, none⟩) hs0).trans c0; have k1 := (hb1.cell (p := ⟨w.heap.size, 1, none⟩) hs0).trans c1; have k2 := (hb1.cell (p := ⟨w.heap.size, 2, none⟩) hs0).trans c2; have k3 := (hb1.cell (p := ⟨w.heap.size, 3, none⟩) hs0).trans c3; have k4 := (hb1.cell (p := ⟨w.heap.size, 4, none⟩) hs0).trans c4; have hb1' := hb0.trans (hb1.mono hb0.size); have hs1 := Nat.lt_of_lt_of_le hs0 hb1.size) | (go_at_call 13; go_must (refine (HM.out _ hb1').mono ?_); rintro e w2 ⟨z, rfl, hown, hb2⟩; have m1 := (hb2.cell (p := ⟨w.heap.size, 1, none⟩) hs1).trans k1; have m4 := (hb2.cell (p := ⟨w.heap.size, 4, none⟩) hs1).trans k4; have hb2' := hb1'.trans (hb2.mono hb1'.size); obtain ⟨AZ, cz, rfl⟩ := hown.value))
  obtain ⟨_, hE2⟩ := hown.elems (by decide) rfl
  obtain ⟨b1, off1, n0, rfl, _, hb1b, hx1, _, g1⟩ := hE2.intAt (i := 0) (by omega)
  obtain rfl : (j0 : Int) = n0 := by rw [HL0.out] at hx1; exact Option.some.inj hx1
  rw [← hb2'.cell (p := ⟨b, _, none⟩) hb] at h1 h2
  rw [Nat.add_zero] at g1
  have hi0 : (0 : Int) ≤ (j0 : Int) := by omega
  obtain ⟨_, _, hzv, hzc, hzm, _⟩ := hown.rel (by decide)
  simp only [List.cons.injEq, Value.slice.injEq, and_true, true_and] at hzv
  obtain ⟨rfl, rfl⟩ := hzv
  clear e0 k0 k2 k3 hx1 hzm
  go_quiet (fail)
  have hz1 : (1 : Int) ≤ (L.length : Int) := by omega
  have hz2 : (L.length : Int) ≤ (cz : Int) := by omega
  have HE2 := Lib.hid hE2
  rcases (show cz = 1 ∨ 1 < cz by omega) with rfl | hcz
  · have hl0 : l = [] := List.eq_nil_of_length_eq_zero (by have := HLl.out; omega)
    have HF : Hid (saysT t ns = (r0.out, true, 0)) := Lib.hid (by rw [HQ2.out, hl0]; rfl)
    have hL1 : L.length - 1 = 0 := by omega
    clear hl0
    go_wp2
    go_loop [8, 45] (fun n i => n = .int .i64 r0.out ∧ i = .int .i64 0) (fun _ _ => 0)
    case atStart => exact ⟨rfl, rfl⟩
    case round =>
      obtain ⟨rfl, rfl⟩ := hrel
      go_wp2
      go_ret3
      exact ⟨says3 HF.out, drewN_below hb2' _⟩
  have hcn : ¬ cz = 1 := by omega
  have hE3 : ∀ (k : Nat) (x : Int), l[k]? = some x → w2.cell? ⟨b1, off1 + 1 + k, none⟩ = some (.int .i64 x) := fun k x hx => by
    have hx' : L[k + 1]? = some x := by rw [← HLM.out, List.getElem?_cons_succ]; exact hx
    obtain ⟨_, _, n9, hA9, _, _, hx9, _, g9⟩ := HE2.out.intAt (i := k + 1) (List.getElem?_eq_some_iff.1 hx').1
    obtain ⟨rfl, rfl⟩ : b1 = _ ∧ off1 = _ := by simpa using hA9
    obtain rfl : x = n9 := by rw [hx'] at hx9; exact Option.some.inj hx9
    rw [show off1 + 1 + k = off1 + (k + 1) by omega]
    exact g9
  have HE3 := Lib.hid hE3
  have HX : Hid (∀ (k : Nat) (x : Int), l[k]? = some x → ∃ j : Nat, x = j ∧ j < t.rules.length) := Lib.hid fun k x hx => HLT.out x (by rw [← HLM.out]; exact List.mem_cons_of_mem _ (List.mem_of_getElem? hx))
  have hR : ∀ j : Nat, j < t.rules.length → ∃ r : Rl, t.rules[j]? = some r ∧ w2.cell? ⟨b, off + j * 2 + 1, none⟩ = some (.int .i64 r.out) ∧ -1000000 ≤ r.out ∧ r.out ≤ 1000000 := fun j hj => by
    obtain ⟨_, _, r, _, hA9, _, hb9, hx9, _, _, _, g9⟩ := hF.rl hj
    obtain ⟨rfl, rfl⟩ : b = _ ∧ off = _ := by simpa using hA9
    rw [← hb2'.cell (p := ⟨b, _, none⟩) hb] at g9
    exact ⟨r, hx9, g9, HO.out r (List.mem_of_getElem? hx9)⟩
  have HR := Lib.hid hR
  clear hE2 hE3 hR hF
  have hz9 : (1 : Int) ≤ (L.length : Int) := by omega
  have hz8 : (L.length : Int) ≤ (cz : Int) := by omega
  go_wp2
  generalize hm : L.length - 1 = m at *
  have hm5 : m ≤ 5 := by have := HLl.out; omega
  have HML : Hid (m = l.length) := Lib.hid (by have := HLl.out; omega)
  have hp6 : p = 1 ∨ p = 2 ∨ p = 3 ∨ p = 4 ∨ p = 5 ∨ p = 6 := by
    have : p ≠ 7 := by rintro rfl; simp at hp'
    omega
  clear hm
  go_loop [8, 45] (fun n i => ∃ (k : Nat) (a : Int), k ≤ m ∧ i = .int .i64 k ∧ n = .int .i64 a ∧ -1000000 * ((k : Int) + 1) ≤ a ∧ a ≤ 1000000 * ((k : Int) + 1) ∧ Hid (saysT t ns = sayLoop p a ((l.map (outAt t.rules)).drop k))) (fun _ i => m - (intOf i).toNat)
  case atStart => exact ⟨0, _, Nat.zero_le _, rfl, rfl, by omega, by omega, HQ2⟩
  case round =>
    obtain ⟨k, a, hk, rfl, rfl, ha1, ha2, HK⟩ := hrel
    by_cases hlt : k < m
    · have hkl : k < l.length := by rw [← HML.out]; exact hlt
      have hx : l[k]? = some l[k] := List.getElem?_eq_getElem hkl
      obtain ⟨j, hj, hjr⟩ := HX.out k _ hx
      obtain ⟨r, hr1, hr2, hr3, hr4⟩ := HR.out j hjr
      have g := HE3.out k _ hx
      rw [hj] at g
      have HKn : Hid (saysT t ns = sayLoop p a (r.out :: (l.map (outAt t.rules)).drop (k + 1))) := Lib.hid (by
        rw [HK.out, drop_cons (x := outAt t.rules l[k]) (by rw [List.getElem?_map, hx]; rfl)]
        congr 2
        rw [hj]
        simp only [outAt, Int.toNat_natCast, hr1])
      have hik : (k : Int) < (m : Int) := by omega
      have hijr : (j : Int) < (t.rules.length : Int) := by omega
      generalize r.out = o at *
      clear HK hx hj hr1 hkl
      rcases hp6 with rfl | rfl | rfl | rfl | rfl | rfl
      · have HF : Hid (saysT t ns = (0, false, 4)) := Lib.hid (by rw [HKn.out]; rfl)
        go_wp2
        go_ret3
        exact ⟨says3 HF.out, drewN_below hb2' _⟩
      · by_cases hoa : o = a
        · subst hoa
          have HK' : Hid (saysT t ns = sayLoop 2 o ((l.map (outAt t.rules)).drop (k + 1))) := Lib.hid (by rw [HKn.out]; simp [sayLoop])
          go_wp2
          go_round
          case rel => exact ⟨k + 1, o, by omega, by go_num, rfl, by omega, by omega, HK'⟩
          case measure => simp [intOf]; omega
        · have HF : Hid (saysT t ns = (0, false, 4)) := Lib.hid (by rw [HKn.out]; simp [sayLoop, hoa])
          have hb9 : (o != a) = true := by rw [bne_iff_ne]; exact hoa
          clear hoa
          go_wp2
          go_ret3
          exact ⟨says3 HF.out, drewN_below hb2' _⟩
      · have HK' : Hid (saysT t ns = sayLoop 3 a ((l.map (outAt t.rules)).drop (k + 1))) := Lib.hid (by rw [HKn.out]; simp [sayLoop])
        go_wp2
        go_round
        case rel => exact ⟨k + 1, a, by omega, by go_num, rfl, by omega, by omega, HK'⟩
        case measure => simp [intOf]; omega
      · have HK' : Hid (saysT t ns = sayLoop 4 (min a o) ((l.map (outAt t.rules)).drop (k + 1))) := Lib.hid (by rw [HKn.out]; simp [sayLoop])
        go_wp2
        all_goals
          go_round
          case rel => exact ⟨k + 1, min a o, by omega, by go_num, by go_num, by omega, by omega, HK'⟩
          case measure => simp [intOf]; omega
      · have HK' : Hid (saysT t ns = sayLoop 5 (max a o) ((l.map (outAt t.rules)).drop (k + 1))) := Lib.hid (by rw [HKn.out]; simp [sayLoop])
        go_wp2
        all_goals
          go_round
          case rel => exact ⟨k + 1, max a o, by omega, by go_num, by go_num, by omega, by omega, HK'⟩
          case measure => simp [intOf]; omega
      · have HK' : Hid (saysT t ns = sayLoop 6 (a + o) ((l.map (outAt t.rules)).drop (k + 1))) := Lib.hid (by rw [HKn.out]; simp [sayLoop])
        go_wp2
        go_round
        case rel => exact ⟨k + 1, a + o, by omega, by go_num, by go_num, by omega, by omega, HK'⟩
        case measure => simp [intOf]; omega
    · have HF : Hid (saysT t ns = (a, true, 0)) := Lib.hid (by
        rw [HK.out, List.drop_eq_nil_of_le (by rw [List.length_map, ← HML.out]; omega)]; rfl)
      go_wp2
      go_ret3
      exact ⟨says3 HF.out, drewN_below hb2' _⟩

end Go.Proofs.YtlopccnehgolnabGreatDoor

namespace Go.Proofs.YtlopccnehgolnabGreatDoor
open Go.RowKit Rb

def tbEx : Tb := ⟨[97], 5, false, [[98]], [⟨[⟨false, [(1, 4)]⟩], 7⟩, ⟨[⟨false, []⟩], 5⟩]⟩
theorem says_ex2 : saysT tbEx [2] = (7, true, 0) := by decide
theorem says_ex9 : saysT tbEx [9] = (5, true, 0) := by decide

theorem lit_tb (w : World) : rTb.rel (((((w.alloc (.cells #[.string ⟨#[98]⟩] 9)).alloc (.cells #[.int .i64 1, .int .i64 4] 123)).alloc (.cells #[.bool false, .slice (some ⟨w.heap.size + 1, 0, none⟩) 1 1] 97)).alloc
    (.cells #[.bool false, .slice none 0 0] 97)).alloc (.cells #[.slice (some ⟨w.heap.size + 1 + 1, 0, none⟩) 1 1, .int .i64 7, .slice (some ⟨w.heap.size + 1 + 1 + 1, 0, none⟩) 1 1, .int .i64 5] 93)) (fun _ => True)
    [.string ⟨#[97]⟩, .int .i64 5, .bool false, .slice (some ⟨w.heap.size, 0, none⟩) 1 1, .slice (some ⟨w.heap.size + 1 + 1 + 1 + 1, 0, none⟩) 2 2] tbEx := by
  have h1 := Rd.lit1 (R := rStr) (w := w) (S := fun _ => True) (x := [98]) (cells := [.string ⟨#[98]⟩]) 9 rfl (by decide) (by decide) ⟨rfl, by decide⟩
  have h2 := Rd.lit1 (R := rRg) (w := w.alloc (.cells #[.string ⟨#[98]⟩] 9)) (S := fun _ => True) (x := (1, 4)) (cells := [.int .i64 1, .int .i64 4]) (n := w.heap.size + 1) 123 (by simp) (by decide) (by decide) ⟨rfl, by unfold InI; omega, by unfold InI; omega⟩
  have h3 := Rd.lit1 (R := rCl) (S := fun _ => True) (x := ⟨false, [(1, 4)]⟩) (cells := [.bool false, .slice (some ⟨w.heap.size + 1, 0, none⟩) 1 1]) (n := w.heap.size + 1 + 1) 97 (by simp) (by decide) (by decide) ⟨_, rfl, h2⟩
  have h4 := Rd.lit1 (R := rCl) (w := ((w.alloc (.cells #[.string ⟨#[98]⟩] 9)).alloc (.cells #[.int .i64 1, .int .i64 4] 123)).alloc (.cells #[.bool false, .slice (some ⟨w.heap.size + 1, 0, none⟩) 1 1] 97))
    (S := fun _ => True) (x := ⟨false, []⟩) (cells := [.bool false, .slice none 0 0]) (n := w.heap.size + 1 + 1 + 1) 97 (by simp) (by decide) (by decide) ⟨_, rfl, none, 0, rfl, Nat.le_refl _, by decide, by decide, fun i x hx => by simp at hx⟩
  have h5 := Rd.lit2 (R := rRl) (S := fun _ => True) (x := ⟨[⟨false, [(1, 4)]⟩], 7⟩) (y := ⟨[⟨false, []⟩], 5⟩) (c1 := [.slice (some ⟨w.heap.size + 1 + 1, 0, none⟩) 1 1, .int .i64 7]) (c2 := [.slice (some ⟨w.heap.size + 1 + 1 + 1, 0, none⟩) 1 1, .int .i64 5]) (n := w.heap.size + 1 + 1 + 1 + 1) 93 (by simp) (by decide) (by decide)
    ⟨_, rfl, by unfold InI; dsimp only; omega, Rd.alloc h3 _⟩ ⟨_, rfl, by unfold InI; dsimp only; omega, h4⟩
  exact ⟨_, _, rfl, by decide, by unfold InI; decide, Rd.alloc (Rd.alloc (Rd.alloc (Rd.alloc h1 _) _) _) _, h5⟩

theorem Says_at {S T : Nat → Prop} {cs : List Value} {t : Tb} {u : Value} {ns : List Int} {x : Int × Bool × Int} (w : World) (hl : rTb.rel w S cs t) (hn : (rSl rInt).rel w T [u] ns) (hx : saysT t ns = x) :
    Calls Tryz.prog 67 #[.agg cs.toArray, u] w fun e w' => e = .returned (sayV x) ∧ Below w.heap.size w w' := hx ▸ Says_any w hl hn

set_option maxHeartbeats 800000 in
theorem tablesLaw_any (w : World) : Calls Tryz.prog 26 #[] w fun e w' => e = .returned (.bool true) ∧ Below w.heap.size w w' := by
  have hl := lit_tb w
  obtain ⟨W0, e0, hl0, hb0, hs0⟩ : ∃ W0, ((((w.alloc (.cells #[.string ⟨#[98]⟩] 9)).alloc (.cells #[.int .i64 1, .int .i64 4] 123)).alloc (.cells #[.bool false, .slice (some ⟨w.heap.size + 1, 0, none⟩) 1 1] 97)).alloc
    (.cells #[.bool false, .slice none 0 0] 97)).alloc (.cells #[.slice (some ⟨w.heap.size + 1 + 1, 0, none⟩) 1 1, .int .i64 7, .slice (some ⟨w.heap.size + 1 + 1 + 1, 0, none⟩) 1 1, .int .i64 5] 93) = W0 ∧
      rTb.rel W0 (fun _ => True) [.string ⟨#[97]⟩, .int .i64 5, .bool false, .slice (some ⟨w.heap.size, 0, none⟩) 1 1, .slice (some ⟨w.heap.size + 1 + 1 + 1 + 1, 0, none⟩) 2 2] tbEx ∧ Below w.heap.size w W0 ∧ W0.heap.size = w.heap.size + 1 + 1 + 1 + 1 + 1 :=
    ⟨_, rfl, hl, ((((((Below.refl _ _).alloc (Nat.le_refl _) _).alloc (by simp) _).alloc (by simp; omega) _).alloc (by simp; omega) _).alloc (by simp; omega) _), by simp⟩
  clear hl
  obtain ⟨W1, e1, hl1, hb1, c0, c1, c2, c3, c4, hs1⟩ : ∃ W1, W0.alloc (.cells #[.string ⟨#[97]⟩, .int .i64 5, .bool false, .slice (some ⟨w.heap.size, 0, none⟩) 1 1, .slice (some ⟨w.heap.size + 1 + 1 + 1 + 1, 0, none⟩) 2 2] 42) = W1 ∧
      rTb.rel W1 (fun _ => True) [.string ⟨#[97]⟩, .int .i64 5, .bool false, .slice (some ⟨w.heap.size, 0, none⟩) 1 1, .slice (some ⟨w.heap.size + 1 + 1 + 1 + 1, 0, none⟩) 2 2] tbEx ∧ Below w.heap.size w W1 ∧
      W1.cell? ⟨w.heap.size + 1 + 1 + 1 + 1 + 1, 0, none⟩ = some (.string ⟨#[97]⟩) ∧ W1.cell? ⟨w.heap.size + 1 + 1 + 1 + 1 + 1, 1, none⟩ = some (.int .i64 5) ∧ W1.cell? ⟨w.heap.size + 1 + 1 + 1 + 1 + 1, 2, none⟩ = some (.bool false) ∧
      W1.cell? ⟨w.heap.size + 1 + 1 + 1 + 1 + 1, 3, none⟩ = some (.slice (some ⟨w.heap.size, 0, none⟩) 1 1) ∧ W1.cell? ⟨w.heap.size + 1 + 1 + 1 + 1 + 1, 4, none⟩ = some (.slice (some ⟨w.heap.size + 1 + 1 + 1 + 1, 0, none⟩) 2 2) ∧ W1.heap.size = w.heap.size + 1 + 1 + 1 + 1 + 1 + 1 :=
    ⟨_, rfl, Rd.alloc hl0 _, hb0.alloc hb0.size _, by rw [← hs0]; exact World.cell?_alloc_new _ _ _ _, by rw [← hs0]; exact World.cell?_alloc_new _ _ _ _, by rw [← hs0]; exact World.cell?_alloc_new _ _ _ _, by rw [← hs0]; exact World.cell?_alloc_new _ _ _ _, by rw [← hs0]; exact World.cell?_alloc_new _ _ _ _, by simp [hs0]⟩
  have HL1 := Lib.hid hl1
  have hin : InI 2 ∧ InI 9 := by unfold InI; omega
  have hn2 := Rd.lit1 (R := rInt) (w := W1) (S := fun _ => True) (x := 2) (cells := [.int .i64 2]) (n := w.heap.size + 1 + 1 + 1 + 1 + 1 + 1) 3 hs1 (by decide) (by decide) ⟨rfl, hin.1⟩
  have HC2 := Lib.hid (Says_at _ (Rd.alloc hl1 (.cells #[.int .i64 2] 3)) hn2 says_ex2)
  have HB2 := Lib.hid (hb1.alloc hb1.size (.cells #[.int .i64 2] 3))
  have HR : Hid (∀ w2, Below (W1.alloc (.cells #[.int .i64 2] 3)).heap.size (W1.alloc (.cells #[.int .i64 2] 3)) w2 → ∀ o u, W1.cell? ⟨w.heap.size + 1 + 1 + 1 + 1 + 1, o, none⟩ = some u → w2.cell? ⟨w.heap.size + 1 + 1 + 1 + 1 + 1, o, none⟩ = some u) :=
    Lib.hid fun w2 hb o u hu => by
      have hb' := (((Below.refl W1.heap.size W1).alloc (Nat.le_refl _) (.cells #[.int .i64 2] 3)).trans (hb.mono (by simp)))
      rw [hb'.cell (p := ⟨w.heap.size + 1 + 1 + 1 + 1 + 1, o, none⟩) (by show w.heap.size + 1 + 1 + 1 + 1 + 1 < W1.heap.size; omega)]; exact hu
  have HC9 : Hid (∀ w2, Below (W1.alloc (.cells #[.int .i64 2] 3)).heap.size (W1.alloc (.cells #[.int .i64 2] 3)) w2 → Calls Tryz.prog 67 #[.agg #[.string ⟨#[97]⟩, .int .i64 5, .bool false, .slice (some ⟨w.heap.size, 0, none⟩) 1 1, .slice (some ⟨w.heap.size + 1 + 1 + 1 + 1, 0, none⟩) 2 2], .slice (some ⟨w2.heap.size, 0, none⟩) 1 1] (w2.alloc (.cells #[.int .i64 9] 3)) fun e w' => e = .returned (sayV (5, true, 0)) ∧ Below w.heap.size w w') :=
    Lib.hid fun w2 hb => by
      have hb' := (((Below.refl W1.heap.size W1).alloc (Nat.le_refl _) (.cells #[.int .i64 2] 3)).trans (hb.mono (by simp)))
      have hbb := hb1.trans (hb'.mono hb1.size)
      refine (Says_at _ (Rd.alloc (Rd.below HL1.out hb') (.cells #[.int .i64 9] 3)) (Rd.lit1 (R := rInt) (w := w2) (S := fun _ => True) (x := 9) (cells := [.int .i64 9]) 3 rfl (by decide) (by decide) ⟨rfl, hin.2⟩) says_ex9).mono fun e w' ⟨h1, h2⟩ => ⟨h1, ?_⟩
      exact (hbb.alloc hbb.size _).trans (h2.mono (by have := hbb.size; simp; omega))
  clear hl0 hb0 hl1 hn2
  go_enter Tryz.func26, Tryz.ntmps26
  go_wp2_with (first | (go_at_call 67; ((with_reducible refine HC2.out.mono ?_); rintro e w2 ⟨rfl, hb2⟩; unfold sayV; have k0 := HR.out w2 hb2 _ _ c0; have k1 := HR.out w2 hb2 _ _ c1; have k2 := HR.out w2 hb2 _ _ c2; have k3 := HR.out w2 hb2 _ _ c3; have k4 := HR.out w2 hb2 _ _ c4)) | (go_at_call 67; ((with_reducible refine (HC9.out _ hb2).mono ?_); rintro e w3 ⟨rfl, hb3⟩; unfold sayV)))
  go_ret
  exact ⟨rfl, hb3⟩

end Go.Proofs.YtlopccnehgolnabGreatDoor

namespace Go.Proofs.YtlopccnehgolnabGreatDoor
open Go.RowKit Rb

theorem sayLoop_perm (pol : Int) : ∀ {l m : List Int}, l.Perm m → ∀ n, sayLoop pol n l = sayLoop pol n m := by
  intro l m h
  induction h with
  | nil => intro n; rfl
  | cons x _ ih => intro n; simp only [sayLoop, ih]
  | swap x y l =>
    intro n
    simp only [sayLoop]
    by_cases h1 : pol = 1
    · simp [h1]
    by_cases h2 : pol = 2
    · subst h2
      by_cases hx : x = n <;> by_cases hy : y = n <;> simp [hx, hy]
    by_cases h4 : pol = 4
    · subst h4; simp only [show ¬ (4 : Int) = 1 by omega, show ¬ (4 : Int) = 2 by omega, if_true, if_false]; congr 1; omega
    by_cases h5 : pol = 5
    · subst h5; simp only [show ¬ (5 : Int) = 1 by omega, show ¬ (5 : Int) = 2 by omega, show ¬ (5 : Int) = 4 by omega, if_true, if_false]; congr 1; omega
    by_cases h6 : pol = 6
    · subst h6; simp only [show ¬ (6 : Int) = 1 by omega, show ¬ (6 : Int) = 2 by omega, show ¬ (6 : Int) = 4 by omega, show ¬ (6 : Int) = 5 by omega, if_true, if_false]; congr 1; omega
    simp [h1, h2, h4, h5, h6]
  | trans _ _ ih1 ih2 => intro n; rw [ih1, ih2]

def sayO (pol : Int) : List Int → Int × Bool × Int
  | [] => (0, false, 0)
  | o :: os => sayLoop pol o os
theorem sayO_perm {pol : Int} (hp : 1 ≤ pol ∧ pol ≤ 6) (h3 : pol ≠ 3) {l m : List Int} (h : l.Perm m) : sayO pol l = sayO pol m := by
  induction h with
  | nil => rfl
  | cons x h _ => exact sayLoop_perm pol h x
  | swap x y l =>
    show sayLoop pol y (x :: l) = sayLoop pol x (y :: l)
    have : pol = 1 ∨ pol = 2 ∨ pol = 4 ∨ pol = 5 ∨ pol = 6 := by omega
    rcases this with rfl | rfl | rfl | rfl | rfl
    · rfl
    · simp only [sayLoop, show ¬ (2 : Int) = 1 by omega, if_true, if_false]
      by_cases hx : x = y
      · subst hx; rfl
      · rw [if_pos hx, if_pos (Ne.symm hx)]
    · simp only [sayLoop, show ¬ (4 : Int) = 1 by omega, show ¬ (4 : Int) = 2 by omega, if_true, if_false]; congr 1; omega
    · simp only [sayLoop, show ¬ (5 : Int) = 1 by omega, show ¬ (5 : Int) = 2 by omega, show ¬ (5 : Int) = 4 by omega, if_true, if_false]; congr 1; omega
    · simp only [sayLoop, show ¬ (6 : Int) = 1 by omega, show ¬ (6 : Int) = 2 by omega, show ¬ (6 : Int) = 4 by omega, show ¬ (6 : Int) = 5 by omega, if_true, if_false]; congr 1; omega
  | trans _ _ ih1 ih2 => rw [ih1, ih2]

/-- The outs of the rules that hold, in order. -/
def outsL (rs : List Rl) (ns : List Int) : List Int := (rs.filter (ruleHolds · ns)).map (·.out)
theorem outs_eq (rs : List Rl) (ns : List Int) : (matchesL rs ns).map (outAt rs) = outsL rs ns := by
  unfold matchesL matchesTo outsL
  rw [List.map_map]
  have key : ∀ n, n ≤ rs.length → ((List.range n).filter (holdsAt rs ns)).map (outAt rs ∘ fun i => ((i : Nat) : Int)) = ((rs.take n).filter (ruleHolds · ns)).map (·.out) := by
    intro n
    induction n with
    | zero => intro _; rfl
    | succ n ih =>
      intro hn
      have hx : rs[n]? = some rs[n] := List.getElem?_eq_getElem (by omega)
      rw [List.range_succ, List.filter_append, List.map_append, ih (by omega), take_getElem? hx, List.filter_append, List.map_append]
      congr 1
      have hh : holdsAt rs ns n = ruleHolds rs[n] ns := by unfold holdsAt; rw [hx]
      cases h : ruleHolds rs[n] ns
      · simp [hh, h]
      · simp [hh, h, outAt, hx]
  have := key rs.length (Nat.le_refl _)
  rwa [List.take_length] at this
theorem sayL_eq (t : Tb) (ns : List Int) : sayL t (matchesL t.rules ns) = if t.pol = 7 then (((outsL t.rules ns).length : Int), true, 0) else sayO t.pol (outsL t.rules ns) := by
  unfold sayL
  rw [outs_eq, ← outs_eq t.rules ns, List.length_map, outs_eq]
  split
  · rfl
  · cases outsL t.rules ns <;> rfl

theorem says_perm {t u : Tb} {ns : List Int} (h1 : t.name = u.name) (h2 : t.pol = u.pol) (h4 : t.ins = u.ins) (h5 : t.rules.Perm u.rules) (hp : t.pol ≠ 3) (hg : goodT t = true) : saysT t ns = saysT u ns := by
  have hgu : goodT u = goodT t := by
    unfold goodT goodHead
    rw [h1, h2, h4, h5.length_eq]
    congr 1
    rw [Bool.eq_iff_iff, List.all_eq_true, List.all_eq_true]
    exact ⟨fun h x hx => h x (h5.mem_iff.1 hx), fun h x hx => h x (h5.mem_iff.2 hx)⟩
  have hb := goodT_head hg
  have hperm : (outsL t.rules ns).Perm (outsL u.rules ns) := (h5.filter _).map _
  unfold saysT
  rw [hgu, h4, sayL_eq, sayL_eq, ← h2, hperm.length_eq]
  by_cases h7 : t.pol = 7
  · rw [if_pos h7, if_pos h7]
  · rw [if_neg h7, if_neg h7, sayO_perm (by omega) hp hperm]

theorem swap_perm {α : Type} (l : List α) (k : Nat) (x y : α) (hx : l[k]? = some x) (hy : l[k + 1]? = some y) : l.Perm ((l.set k y).set (k + 1) x) := by
  have h1 : l = l.take k ++ x :: y :: l.drop (k + 2) := by
    conv => lhs; rw [← List.take_append_drop k l, drop_cons hx, drop_cons hy]
  have h2 : (l.set k y).set (k + 1) x = l.take k ++ y :: x :: l.drop (k + 2) := by
    have hk : k + 1 < l.length := (List.getElem?_eq_some_iff.1 hy).1
    have hlt : (l.take k).length = k := by rw [List.length_take]; omega
    conv => lhs; rw [h1]
    rw [List.set_append_right _ _ (by omega), hlt, Nat.sub_self, List.set_append_right _ _ (by omega), hlt, Nat.add_sub_cancel_left]
    rfl
  rw [h2]
  conv => lhs; rw [h1]
  exact (List.Perm.swap y x _).append_left _

end Go.Proofs.YtlopccnehgolnabGreatDoor

namespace Go.Proofs.YtlopccnehgolnabGreatDoor

structure Acc3 where
  lo : Int
  hi : Int
  sm : Int
def acc3 (a : Acc3) (x : Int) : Acc3 := ⟨min a.lo x, max a.hi x, a.sm + x⟩
def acc3To (l : List Int) : Acc3 := l.foldl acc3 ⟨l.headD 0, l.headD 0, 0⟩
def pickO (pol o : Int) (a : Acc3) : Int := if pol = 4 then a.lo else if pol = 5 then a.hi else if pol = 6 then a.sm else o
def sayR (pol : Int) (l : List Int) : Int × Bool × Int :=
  if (pol = 1 ∧ 1 < l.length) ∨ (pol = 2 ∧ (acc3To l).lo ≠ (acc3To l).hi) then (0, false, 4) else (pickO pol (l.headD 0) (acc3To l), true, 0)

theorem acc3_lo (l : List Int) (a : Acc3) : (l.foldl acc3 a).lo = l.foldl min a.lo := by
  induction l generalizing a with
  | nil => rfl
  | cons x l ih => rw [List.foldl_cons, ih]; rfl
theorem acc3_hi (l : List Int) (a : Acc3) : (l.foldl acc3 a).hi = l.foldl max a.hi := by
  induction l generalizing a with
  | nil => rfl
  | cons x l ih => rw [List.foldl_cons, ih]; rfl
theorem acc3_sm (l : List Int) (a : Acc3) : (l.foldl acc3 a).sm = l.foldl (· + ·) a.sm := by
  induction l generalizing a with
  | nil => rfl
  | cons x l ih => rw [List.foldl_cons, ih]; rfl
theorem min_le (l : List Int) (a : Int) : l.foldl min a ≤ a := by
  induction l generalizing a with
  | nil => exact Int.le_refl _
  | cons x l ih => rw [List.foldl_cons]; have := ih (min a x); omega
theorem max_ge (l : List Int) (a : Int) : a ≤ l.foldl max a := by
  induction l generalizing a with
  | nil => exact Int.le_refl _
  | cons x l ih => rw [List.foldl_cons]; have := ih (max a x); omega

theorem loop4 (l : List Int) (n : Int) : sayLoop 4 n l = (l.foldl min n, true, 0) := by
  induction l generalizing n with
  | nil => rfl
  | cons x l ih => rw [sayLoop]; simp [ih]
theorem loop5 (l : List Int) (n : Int) : sayLoop 5 n l = (l.foldl max n, true, 0) := by
  induction l generalizing n with
  | nil => rfl
  | cons x l ih => rw [sayLoop]; simp [ih]
theorem loop6 (l : List Int) (n : Int) : sayLoop 6 n l = (l.foldl (· + ·) n, true, 0) := by
  induction l generalizing n with
  | nil => rfl
  | cons x l ih => rw [sayLoop]; simp [ih]
theorem loop3 (l : List Int) (n : Int) : sayLoop 3 n l = (n, true, 0) := by
  induction l generalizing n with
  | nil => rfl
  | cons x l ih => rw [sayLoop]; simp [ih]
theorem loop2 (l : List Int) (n : Int) : sayLoop 2 n l = if l.foldl min n ≠ l.foldl max n then (0, false, 4) else (n, true, 0) := by
  induction l generalizing n with
  | nil => simp [sayLoop]
  | cons x l ih =>
    rw [sayLoop]
    simp only [List.foldl_cons]
    by_cases h : x = n
    · subst h
      simp [ih]
    · have h1 := min_le l (min n x)
      have h2 := max_ge l (max n x)
      have h3 : l.foldl min (min n x) ≠ l.foldl max (max n x) := by omega
      simp [h, h3]

theorem sayR_eq {pol : Int} (h1 : 1 ≤ pol) (h6 : pol ≤ 6) (o : Int) (l : List Int) : sayLoop pol o l = sayR pol (o :: l) := by
  have hlo : (acc3To (o :: l)).lo = l.foldl min o := by unfold acc3To; rw [acc3_lo]; simp
  have hhi : (acc3To (o :: l)).hi = l.foldl max o := by unfold acc3To; rw [acc3_hi]; simp
  have hsm : (acc3To (o :: l)).sm = l.foldl (· + ·) o := by unfold acc3To; rw [acc3_sm]; simp
  unfold sayR pickO
  rw [hlo, hhi, hsm]
  have hp : pol = 1 ∨ pol = 2 ∨ pol = 3 ∨ pol = 4 ∨ pol = 5 ∨ pol = 6 := by omega
  rcases hp with rfl | rfl | rfl | rfl | rfl | rfl
  · cases l with
    | nil => simp [sayLoop]
    | cons x l => rw [sayLoop]; simp
  · rw [loop2]; simp
  · rw [loop3]; simp
  · rw [loop4]; simp
  · rw [loop5]; simp
  · rw [loop6]; simp

theorem acc3_snoc {l : List Int} {k : Nat} {x : Int} (h : l[k]? = some x) (a : Acc3) : (l.take (k + 1)).foldl acc3 a = acc3 ((l.take k).foldl acc3 a) x := by
  rw [List.take_add_one, h, Option.toList_some, List.foldl_append]
  rfl

end Go.Proofs.YtlopccnehgolnabGreatDoor

namespace Go.Proofs.YtlopccnehgolnabGreatDoor
open Go.RowKit Rb

set_option maxRecDepth 100000 in
set_option maxHeartbeats 400000 in
theorem CellHolds_any {S : Nat → Prop} {v : Value} {c : Cl} (n : Int) (w : World) (hl : (rSl rRg).rel w S [v] c.rs) :
    Calls Tryz.prog 121 #[.agg #[.bool c.no, v], .int .i64 n] w fun e w' => e = .returned (.bool (cellHolds c n)) ∧ Below w.heap.size w w' := by
  obtain ⟨no, rs⟩ := c
  dsimp only at *
  have hv : cellHolds ⟨no, rs⟩ n = (decide (rs.length = 0) || (hasL rs n != no)) := by
    show (decide (rs.length = 0) && !no || (hasL rs n != no)) = _
    cases rs with
    | nil => cases no <;> rfl
    | cons r rs => simp
  obtain ⟨A, d, rfl, _⟩ := rSl.elems hl
  have hl2 := fun o => Rd.alloc hl o
  have hC := fun o w' hb => InSet_any n w' (Rd.below (hl2 o) hb)
  clear hl hl2
  generalize rs.length = m at *
  generalize hasL rs n = x at *
  have HC := Lib.hid hC
  have HV := Lib.hid hv
  clear hv hC
  rcases Nat.eq_zero_or_pos m with h0 | h0
  · go_enter Tryz.func121, Tryz.ntmps121
    go_wp2
    go_ret
    exact ⟨ret_bool (by rw [HV.out]; simp [h0]), (Below.refl _ _).alloc (Nat.le_refl _) _⟩
  · have h1 : ((m : Int) == 0) = false := by rw [beq_eq_false_iff_ne]; omega
    go_enter Tryz.func121, Tryz.ntmps121
    go_wp2
    refine wp_region_quiet_below (by kernel_rfl) (by kernel_rfl) ?_
    repeat (go_big_quiet_step (exact Calls.inBelow (HC.out _) _ _))
    refine wpQuiet_nil ?_
    intro _ hw'
    obtain ⟨⟨dq, osq⟩, hw''⟩ := hw'
    subst hw''
    go_wp2
    go_ret
    exact ⟨ret_bool (by rw [HV.out, decide_eq_false (show ¬ m = 0 by omega), Bool.false_or]; cases x <;> cases no <;> rfl), ((Below.refl _ _).alloc (Nat.le_refl _) _).trans ((below_regrown _ _ _).mono (by simp))⟩

set_option maxRecDepth 100000 in
set_option maxHeartbeats 400000 in
theorem SameNumbers_any {S T : Nat → Prop} {v u : Value} {a b : List Int} (w : World) (hl : (rSl rInt).rel w S [v] a) (hm : (rSl rInt).rel w T [u] b) :
    Calls Tryz.prog 23 #[v, u] w fun e w' => e = .returned (.bool (decide (a = b))) ∧ Below w.heap.size w w' := by
  obtain ⟨A, c, rfl, _, _, hba, hE⟩ := rSl.elems hl
  obtain ⟨B, d, rfl, _, _, hbb, hF⟩ := rSl.elems hm
  have hal : a.length ≤ 17592186044416 := by simp only [rInt] at hba; omega
  have hbl : b.length ≤ 17592186044416 := by simp only [rInt] at hbb; omega
  clear hl hm hba hbb
  by_cases hlen : a.length = b.length
  case neg =>
    have hne : ((a.length : Int) != (b.length : Int)) = true := by rw [bne_iff_ne]; omega
    have HF : Hid (decide (a = b) = false) := Lib.hid (decide_eq_false fun e => hlen (by rw [e]))
    clear hlen
    go_enter Tryz.func23, Tryz.ntmps23
    go_wp2
    go_ret
    exact ⟨ret_bool HF.out.symm, Below.refl _ _⟩
  have hne : ((a.length : Int) != (b.length : Int)) = false := by rw [bne_eq_false_iff_eq]; omega
  have HL := Lib.hid hlen
  clear hlen
  go_enter Tryz.func23, Tryz.ntmps23
  go_wp2
  clear hne
  go_loopw [5, 13] (fun _ i wr => ∃ k : Nat, k ≤ a.length ∧ i = .int .i64 k ∧ Hid (a.take k = b.take k) ∧ Below w.heap.size w wr) (fun _ i _ => a.length - (intOf i).toNat)
  case atStart => exact ⟨0, Nat.zero_le _, rfl, Lib.hid rfl, Below.refl _ _⟩
  case round =>
    obtain ⟨k, hk, rfl, HT, hb⟩ := hrel
    by_cases hlt : k < a.length
    · have hlt2 : k < b.length := by have := HL.out; omega
      obtain ⟨p, off, x, rfl, _, hp, hx, hxi, g1⟩ := hE.intAt hlt
      obtain ⟨q, off', y, rfl, _, hq, hy, hyi, g2⟩ := hF.intAt hlt2
      rw [← hb.cell (p := ⟨p, _, none⟩) hp] at g1
      rw [← hb.cell (p := ⟨q, _, none⟩) hq] at g2
      have hik : (k : Int) < (a.length : Int) := by omega
      have hik2 : (k : Int) < (b.length : Int) := by omega
      have HX := Lib.hid hx
      have HY := Lib.hid hy
      clear hx hy hE hF
      by_cases h1 : x = y
      · have HT' : Hid (a.take (k + 1) = b.take (k + 1)) := Lib.hid (by rw [take_getElem? HX.out, take_getElem? HY.out, HT.out, h1])
        have hxy : (x != y) = false := by rw [bne_eq_false_iff_eq]; exact h1
        clear h1
        go_wp2
        go_quiet (fail)
        go_wp2
        go_roundw
        case rel => exact ⟨k + 1, by omega, by go_num, HT', drewN_below hb _⟩
        case measure => simp [intOf]; omega
      · have HF : Hid (decide (a = b) = false) := Lib.hid (decide_eq_false fun e => h1 (by have := HX.out; rw [e, HY.out] at this; exact (Option.some.inj this).symm))
        have hxy : (x != y) = true := by rw [bne_iff_ne]; exact h1
        clear h1
        go_wp2
        go_quiet (fail)
        go_wp2
        go_ret
        exact ⟨ret_bool HF.out.symm, drewN_below hb _⟩
    · have HF : Hid (decide (a = b) = true) := Lib.hid (decide_eq_true (by
        have h1 := HT.out
        have h2 := HL.out
        rwa [List.take_of_length_le (by omega), List.take_of_length_le (by omega)] at h1))
      go_wp2
      go_ret
      exact ⟨ret_bool HF.out.symm, hb⟩

end Go.Proofs.YtlopccnehgolnabGreatDoor
