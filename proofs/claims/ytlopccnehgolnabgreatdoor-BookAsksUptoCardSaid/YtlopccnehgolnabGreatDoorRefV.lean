
/- The contract of the reference's value: what a name says, by itself. -/
import Derived.Test.YtlopccnehgolnabGreatDoorRefY
import Derived.Test.YtlopccnehgolnabGreatDoorGrH
import Derived.Test.YtlopccnehgolnabGreatDoorSays
namespace Go.Proofs.YtlopccnehgolnabGreatDoor
open Go.RowKit Rb

theorem SaysOf_m {S T : Nat → Prop} {cs : List Value} {t : Tb} {u : Value} {ns : List Int} {r : Int} {o : Bool} {e : Int} (w : World) (hl : rTb.rel w S cs t) (hn : (rSl rInt).rel w T [u] ns) (h : saysT t ns = (r, o, e)) :
    Calls Tryz.prog 64 #[.agg cs.toArray, u] w fun x w' => x = .returned (.tuple #[.int .i64 r, .bool o, .int .i64 e]) ∧ Below w.heap.size w w' := by
  have h2 := SaysOf_any w hl hn
  rw [h] at h2
  exact h2

/-- A name says what the map M says of it. -/
def ValOk (b : Bk) (ns : List Int) (M : Txt → Option An) (s : Txt) : Prop := ∀ (S T : Nat → Prop) (cs : List Value) (u : Value) (w : World), rBk.rel w S cs b → (rSl rInt).rel w T [u] ns →
    Calls Tryz.prog 74 #[.agg cs.toArray, u, .string ⟨s.toArray⟩] w fun e w' => e = .returned (.tuple #[.int .i64 (atM M s).n, .bool (atM M s).found]) ∧ Below w.heap.size w w'
theorem ValOk.at {b : Bk} {ns : List Int} {M : Txt → Option An} {s : Txt} (h : ValOk b ns M s) {nm : Txt} {fd : Bool} {nn : Int} (ha : atM M s = ⟨nm, fd, nn⟩) {S T : Nat → Prop} {cs : List Value} {u : Value} (w : World) (hb : rBk.rel w S cs b) (hn : (rSl rInt).rel w T [u] ns) :
    Calls Tryz.prog 74 #[.agg cs.toArray, u, .string ⟨s.toArray⟩] w fun e w' => e = .returned (.tuple #[.int .i64 nn, .bool fd]) ∧ Below w.heap.size w w' := by
  have h2 := h S T cs u w hb hn
  rw [ha] at h2
  exact h2

set_option maxRecDepth 100000 in
set_option maxHeartbeats 3200000 in
theorem value_one {b : Bk} {ns : List Int} {M : Txt → Option An} {s : Txt} (hs : s.length ≤ 140737488355328) (hlen : ns.length = b.doms.length) (hI : ∀ x, InI (atM M x).n)
    (hdom : ∀ (i : Nat) (d : Dm), b.doms[i]? = some d → atM M d.name = ⟨[], true, (ns[i]?).getD 0⟩)
    (htab : findD b.doms s = none → ∃ t, findT b.tabs s = some t ∧ atM M s = saysA M t ∧ ∀ x ∈ t.ins, ValOk b ns M x) : ValOk b ns M s := by
  intro S T cs u w hl hn
  have hl' := hl
  have hn' := hn
  obtain ⟨v0, u0, rfl, hd, htb⟩ := hl
  obtain ⟨A, c, rfl, _, _, hbd, hD⟩ := rSl.elems hd
  obtain ⟨B, d, rfl, _⟩ := rSl.elems htb
  obtain ⟨AN, cN, rfl, _, _, hbn, hN⟩ := rSl.elems hn
  have hld : b.doms.length ≤ 4398046511104 := by simp only [rDm] at hbd; omega
  obtain ⟨W0, e0, HB0, c0, c1, hs0, HBK, HNS⟩ : ∃ W0, w.alloc (.cells #[.slice A b.doms.length c, .slice B b.tabs.length d] 33) = W0 ∧ Hid (Below w.heap.size w W0) ∧ W0.cell? ⟨w.heap.size, 0, none⟩ = some (.slice A b.doms.length c) ∧ W0.cell? ⟨w.heap.size, 1, none⟩ = some (.slice B b.tabs.length d) ∧ w.heap.size < W0.heap.size ∧ Hid (rBk.rel W0 S [.slice A b.doms.length c, .slice B b.tabs.length d] b) ∧ Hid ((rSl rInt).rel W0 T [.slice AN ns.length cN] ns) :=
    ⟨_, rfl, Lib.hid ((Below.refl _ _).alloc (Nat.le_refl _) _), World.cell?_alloc_new _ _ _ _, World.cell?_alloc_new _ _ _ _, by simp, Lib.hid (Rd.alloc hl' _), Lib.hid (Rd.alloc hn' _)⟩
  clear hl' hn' hd htb hbd hbn hn
  have HD := Lib.hid hD
  have HN := Lib.hid hN
  have HS0 := Lib.hid hs0
  have HC00 := Lib.hid c0
  have HC10 := Lib.hid c1
  have HLEN := Lib.hid hlen
  have HII := Lib.hid hI
  have HDOM := Lib.hid hdom
  have HTAB := Lib.hid htab
  clear hD hN hs0 hlen hI hdom htab
  go_enter Tryz.func74, Tryz.ntmps74
  go_wp2
  clear e0
  go_loopw [23] (fun i wr => ∃ k : Nat, k ≤ b.doms.length ∧ i = .int .i64 k ∧ Hid (findD b.doms s = (b.doms.drop k).find? fun t => t.name == s) ∧ Hid (Below W0.heap.size W0 wr)) (fun i _ => b.doms.length - (intOf i).toNat)
  case atStart => exact ⟨0, Nat.zero_le _, rfl, Lib.hid rfl, Lib.hid (Below.refl _ _)⟩
  case round =>
    obtain ⟨k, hk, rfl, HI, HB⟩ := hrel
    have HBR : Hid (Below w.heap.size w wr) := Lib.hid (HB0.out.trans (HB.out.mono HB0.out.size))
    by_cases hlt : k < b.doms.length
    · obtain ⟨bB, off, x, rfl, hbB, hx, ⟨hxl, _⟩, g0, g1, g2⟩ := HD.out.dm hlt
      rw [← HBR.out.cell (p := ⟨bB, _, none⟩) hbB] at g0 g1 g2
      have hik : (k : Int) < (b.doms.length : Int) := by omega
      have hin : (k : Int) < (ns.length : Int) := by have := HLEN.out; omega
      have HAT := Lib.hid (find_at (p := fun t : Dm => t.name == s) hx)
      have HX := Lib.hid hx
      obtain ⟨b3, off3, n, rfl, _, hb3, hn3, _, i0⟩ := HN.out.intAt (i := k) (by omega)
      have HN3 := Lib.hid hn3
      obtain ⟨W3, e3, HB3, j0, j1, j2, hs3, i1⟩ : ∃ W3, wr.alloc (.cells #[.string ⟨x.name.toArray⟩, .int .i64 x.lo, .int .i64 x.hi] 44) = W3 ∧ Hid (Below W0.heap.size W0 W3) ∧ W3.cell? ⟨wr.heap.size, 0, none⟩ = some (.string ⟨x.name.toArray⟩) ∧ W3.cell? ⟨wr.heap.size, 1, none⟩ = some (.int .i64 x.lo) ∧ W3.cell? ⟨wr.heap.size, 2, none⟩ = some (.int .i64 x.hi) ∧ wr.heap.size < W3.heap.size ∧ W3.cell? ⟨b3, off3 + k, none⟩ = some (.int .i64 n) :=
        ⟨_, rfl, Lib.hid (HB.out.alloc HB.out.size _), World.cell?_alloc_new _ _ _ _, World.cell?_alloc_new _ _ _ _, World.cell?_alloc_new _ _ _ _, by simp, ((HBR.out.alloc HBR.out.size _).cell (p := ⟨b3, _, none⟩) hb3).trans i0⟩
      clear hx hn3 hb3
      cases hnm : (x.name == s)
      · have HI' := Lib.hid (HI.out.trans (by rw [HAT.out, if_neg (by simp [hnm])]))
        go_wp2
        go_roundw
        case rel => exact ⟨k + 1, by omega, by go_num, HI', HB3⟩
        case measure => simp [intOf]; omega
      · have HA : Hid (atM M s = ⟨[], true, n⟩) := Lib.hid (by
          have e : x.name = s := by simpa using hnm
          rw [← e, HDOM.out k x HX.out, HN3.out]
          rfl)
        go_wp2
        go_ret2
        exact ⟨by rw [HA.out] <;> rfl, HB0.out.trans (HB3.out.mono HB0.out.size)⟩
    · obtain ⟨t, hft, hat, hv⟩ := HTAB.out (by rw [HI.out, List.drop_eq_nil_of_le (by omega)]; rfl)
      have hij : ¬ (k : Int) < (b.doms.length : Int) := by omega
      have d0 := (HB.out.cell (p := ⟨w.heap.size, 0, none⟩) HS0.out).trans c0
      have d1 := (HB.out.cell (p := ⟨w.heap.size, 1, none⟩) HS0.out).trans c1
      have HBKr := Lib.hid (Rd.below HBK.out HB.out)
      have HFT := Lib.hid hft
      have HAT := Lib.hid hat
      have HVL := Lib.hid hv
      clear hft hat hv HI HBR c0 c1 hk hlt
      go_wp2_with (first | (go_at_call 78; go_must ((with_reducible refine (tableNamed_any s wr HBKr.out hs).mono ?_); rintro e w5 ⟨cs5, S5, rfl, hr5, hb5⟩; rw [HFT.out] at hr5; replace hr5 : rTb.rel w5 S5 cs5 t := hr5; obtain ⟨vi, vr, rfl, hnm5, hp5, hi5, hrr5⟩ := id hr5; obtain ⟨A5, c5, rfl, _, _, hbt5, hF5⟩ := rSl.elems hi5; obtain ⟨B5, d5, rfl, _⟩ := rSl.elems hrr5; obtain ⟨W6, e6, HB6, HR6, HF6, k0, k1, k2, k3, k4, hs6⟩ : ∃ W6, w5.alloc (.cells #[.string ⟨t.name.toArray⟩, .int .i64 t.pol, .bool t.comp, .slice A5 t.ins.length c5, .slice B5 t.rules.length d5] 42) = W6 ∧ Hid (Below W0.heap.size W0 W6) ∧ Hid (rTb.rel W6 S5 [.string ⟨t.name.toArray⟩, .int .i64 t.pol, .bool t.comp, .slice A5 t.ins.length c5, .slice B5 t.rules.length d5] t) ∧ Hid (Elems rStr W6 S5 A5 t.ins) ∧ W6.cell? ⟨w5.heap.size, 0, none⟩ = some (.string ⟨t.name.toArray⟩) ∧ W6.cell? ⟨w5.heap.size, 1, none⟩ = some (.int .i64 t.pol) ∧ W6.cell? ⟨w5.heap.size, 2, none⟩ = some (.bool t.comp) ∧ W6.cell? ⟨w5.heap.size, 3, none⟩ = some (.slice A5 t.ins.length c5) ∧ W6.cell? ⟨w5.heap.size, 4, none⟩ = some (.slice B5 t.rules.length d5) ∧ w5.heap.size < W6.heap.size := ⟨_, rfl, Lib.hid ((HB.out.trans (hb5.mono HB.out.size)).alloc (Nat.le_trans HB.out.size hb5.size) _), Lib.hid (Rd.alloc hr5 _), Lib.hid (hF5.keep (.alloc _)), World.cell?_alloc_new _ _ _ _, World.cell?_alloc_new _ _ _ _, World.cell?_alloc_new _ _ _ _, World.cell?_alloc_new _ _ _ _, World.cell?_alloc_new _ _ _ _, by simp⟩; have HLT5 : Hid (t.ins.length ≤ 8796093022208) := Lib.hid (by (simp only [rStr] at hbt5; omega)); clear hr5 hi5 hrr5 hF5 hbt5 hp5 hnm5 hb5)))
      clear e6 d0 d1
      have HC0 : Hid (W6.cell? ⟨w.heap.size, 0, none⟩ = some (.slice A b.doms.length c)) := Lib.hid ((HB6.out.cell (p := ⟨w.heap.size, 0, none⟩) HS0.out).trans HC00.out)
      have HC1 : Hid (W6.cell? ⟨w.heap.size, 1, none⟩ = some (.slice B b.tabs.length d)) := Lib.hid ((HB6.out.cell (p := ⟨w.heap.size, 1, none⟩) HS0.out).trans HC10.out)
      have HBK6 := Lib.hid (Rd.below HBK.out HB6.out)
      have HNS6 := Lib.hid (Rd.below HNS.out HB6.out)
      have HS6 : Hid (w.heap.size < W6.heap.size) := Lib.hid (Nat.lt_of_lt_of_le HS0.out HB6.out.size)
      have HK := Lib.hid (And.intro k0 (And.intro k1 (And.intro k2 (And.intro k3 k4))))
      have HS56 := Lib.hid hs6
      clear k0 k1 k2 k4 hs6
      obtain ⟨wo, hwo⟩ : ∃ x, x = wr := ⟨_, rfl⟩
      subst hwo
      go_loopw [12, 46] (fun o i wr => ∃ (k : Nat) (out : List Int), k ≤ t.ins.length ∧ i = .int .i64 k ∧ Own rInt 3 wr W6.heap.size (fun _ => False) o out ∧ Hid (out.length = k) ∧ Hid (gotM M t.ins = (gotM M (t.ins.drop k)).map (out ++ ·)) ∧ Hid (Below W6.heap.size W6 wr)) (fun _ i _ => t.ins.length - (intOf i).toNat)
      case atStart => exact ⟨0, [], Nat.zero_le _, rfl, Own.nil _ _ _ _ _, Lib.hid rfl, Lib.hid (by cases h : gotM M t.ins <;> simp [h]), Lib.hid (Below.refl _ _)⟩
      case round =>
        clear HB HBKr k3
        obtain ⟨k, out, hk, rfl, hown, HOL, HG, HB⟩ := hrel
        have hl5 := HLT5.out
        have HBZ : Hid (∀ w', Below wr.heap.size wr w' → Below w.heap.size w w') := Lib.hid fun w' hb => HB0.out.trans ((HB6.out.trans ((HB.out.trans (hb.mono HB.out.size)).mono HB6.out.size)).mono HB0.out.size)
        by_cases hlt : k < t.ins.length
        · obtain ⟨bB, off, x, rfl, _, hbB, hx, hxl, g0⟩ := HF6.out.str hlt
          rw [← HB.out.cell (p := ⟨bB, _, none⟩) hbB] at g0
          have d0 := (HB.out.cell (p := ⟨w.heap.size, 0, none⟩) HS6.out).trans HC0.out
          have d1 := (HB.out.cell (p := ⟨w.heap.size, 1, none⟩) HS6.out).trans HC1.out
          have hik : (k : Int) < (t.ins.length : Int) := by omega
          have HGA := Lib.hid (gotM_at (m := M) hx)
          have HNI := Lib.hid (HII.out x)
          have HVX := Lib.hid (HVL.out x (List.mem_of_getElem? hx))
          have HBKr := Lib.hid (Rd.below HBK6.out HB.out)
          have HNSr := Lib.hid (Rd.below HNS6.out HB.out)
          obtain ⟨⟨nm, fd, nn⟩, ha⟩ : ∃ a, atM M x = a := ⟨_, rfl⟩
          have HA := Lib.hid ha
          have HOW := Lib.hid hown
          clear hx ha hown
          cases fd
          · have HF : Hid (gotM M t.ins = none) := Lib.hid (by rw [HG.out, HGA.out, HA.out]; rfl)
            go_wp2_with (first | (go_at_call 74; go_must ((with_reducible refine (HVX.out.at HA.out wr HBKr.out HNSr.out).mono ?_); rintro e w7 ⟨rfl, hb7⟩; have HB7 := Lib.hid hb7; clear hb7)))
            go_ret2
            exact ⟨by rw [HAT.out]; unfold saysA; rw [HF.out]; rfl, HBZ.out _ HB7.out⟩
          · have HG' : Hid (gotM M t.ins = (gotM M (t.ins.drop (k + 1))).map ((out ++ [nn]) ++ ·)) := Lib.hid (by
              rw [HG.out, HGA.out, HA.out]
              cases gotM M (t.ins.drop (k + 1)) <;> simp)
            have HBY : Hid ((out.length + 1) * rInt.bytes ≤ 140737488355328) := Lib.hid (by have := HOL.out; have := HLT5.out; show (_ + 1) * 8 ≤ _; omega)
            have HNN : Hid (InI nn) := Lib.hid (by have := HNI.out; rw [HA.out] at this; exact this)
            go_wp2_with (first | (go_at_call 74; go_must ((with_reducible refine (HVX.out.at HA.out wr HBKr.out HNSr.out).mono ?_); rintro e w7 ⟨rfl, hb7⟩; have HB7 := Lib.hid hb7; have HOW7 := Lib.hid (HOW.out.below hb7); have HS7 : Hid (W6.heap.size ≤ w7.heap.size) := Lib.hid (Nat.le_trans HB.out.size hb7.size); clear hb7)) | (at_builtin; go_must (refine wpList_append_new (R := rInt) (x := nn) el_I rfl (.tmp 59) (.tmp 61) rfl rfl HOW7.out [.int .i64 nn] rfl rfl (fun _ => False) ⟨rfl, HNN.out⟩ (fun _ h => h.elim) HBY.out HS7.out ?_); intro v9 w9 hown9 hb9 _ _))
            go_roundw
            case rel => exact ⟨k + 1, out ++ [nn], by omega, by go_num, hown9, Lib.hid (by have := HOL.out; rw [List.length_append]; simp only [List.length_cons, List.length_nil]; omega), HG', Lib.hid ((HB.out.trans (HB7.out.mono HB.out.size)).trans hb9)⟩
            case measure => simp [intOf]; omega
        · have HF : Hid (gotM M t.ins = some out) := Lib.hid (by rw [HG.out, List.drop_eq_nil_of_le (by omega)]; simp [gotM])
          obtain ⟨A9, l9, rfl⟩ := hown.value
          obtain ⟨⟨r, o, e⟩, hsy⟩ : ∃ x, saysT t out = x := ⟨_, rfl⟩
          have HSY := Lib.hid hsy
          have HTr := Lib.hid (Rd.below HR6.out HB.out)
          have HOR := Lib.hid (hown.rel (by decide))
          have hik : ¬ (k : Int) < (t.ins.length : Int) := by omega
          have c0 := (HB.out.cell (p := ⟨w5.heap.size, 0, none⟩) HS56.out).trans HK.out.1
          have c1 := (HB.out.cell (p := ⟨w5.heap.size, 1, none⟩) HS56.out).trans HK.out.2.1
          have c2 := (HB.out.cell (p := ⟨w5.heap.size, 2, none⟩) HS56.out).trans HK.out.2.2.1
          have c3 := (HB.out.cell (p := ⟨w5.heap.size, 3, none⟩) HS56.out).trans HK.out.2.2.2.1
          have c4 := (HB.out.cell (p := ⟨w5.heap.size, 4, none⟩) HS56.out).trans HK.out.2.2.2.2
          clear hsy hown hlt hk
          go_wp2_with (first | (go_at_call 64; go_must ((with_reducible refine (SaysOf_m wr HTr.out HOR.out HSY.out).mono ?_); rintro x8 w8 ⟨rfl, hb8⟩; have HB8 := Lib.hid hb8; clear hb8)))
          go_ret2
          exact ⟨by rw [HAT.out]; unfold saysA; rw [HF.out]; dsimp only; rw [HSY.out] <;> rfl, HBZ.out _ HB8.out⟩

end Go.Proofs.YtlopccnehgolnabGreatDoor
