
/- What text prints: the contract of cell. -/
import Derived.Test.YtlopccnehgolnabDoorTxtP
namespace Go.Proofs.YtlopccnehgolnabDoor
open Go.RowKit Rb

theorem el_StrC : ElemOf Tryd.prog rStr 22 9 := .mk' Tryd.underlying22 (z := .string ⟨#[]⟩) (k := 1) (b := 16) (by kernel_rfl) rfl rfl rfl (by decide) (by decide)
theorem rg_rel1 (w : World) (S : Nat → Prop) (r : Rg) (h1 : InI r.1) (h2 : InI r.2) (h : r.2 ≤ r.1) : rStr.rel w S [.string ⟨(Lib.itoa r.1).toArray⟩] (rgTxt r) := by
  have := rgTxt_len r h1 h2
  refine ⟨?_, by omega⟩
  unfold rgTxt
  rw [if_neg (Int.not_lt.2 h)]
abbrev crg2 (lo up : Int) : List Value := [.string ((⟨(Lib.itoa lo).toArray⟩ : ByteArray) ++ ((⟨#[46, 46]⟩ : ByteArray) ++ ⟨(Lib.itoa up).toArray⟩))]
theorem rg_rel2 (w : World) (S : Nat → Prop) (r : Rg) (h1 : InI r.1) (h2 : InI r.2) (h : r.1 < r.2) : rStr.rel w S [.string ((⟨(Lib.itoa r.1).toArray⟩ : ByteArray) ++ ((⟨#[46, 46]⟩ : ByteArray) ++ ⟨(Lib.itoa r.2).toArray⟩))] (rgTxt r) := by
  have := rgTxt_len r h1 h2
  refine ⟨?_, by omega⟩
  unfold rgTxt
  rw [if_pos h]
  have e : (⟨(Lib.itoa r.1).toArray⟩ : ByteArray) ++ ((⟨#[46, 46]⟩ : ByteArray) ++ ⟨(Lib.itoa r.2).toArray⟩) = ⟨(Lib.itoa r.1 ++ ([46, 46] ++ Lib.itoa r.2)).toArray⟩ := by
    apply ByteArray.ext
    simp [ByteArray.data_append]
  rw [e]

set_option maxRecDepth 100000 in
set_option maxHeartbeats 3200000 in
theorem cell_any {S : Nat → Prop} {v : Value} (c : Cl) (w : World) (hl : (rSl rRg).rel w S [v] c.rs) (h4 : c.rs.length ≤ 4) (hw : LibW w) :
    Calls Tryd.prog 19 #[.agg #[.bool c.no, v]] w fun e w' => e = .returned (.string ⟨(cellTxt c).toArray⟩) ∧ Below w.heap.size w w' := by
  obtain ⟨A, cp, rfl, _, _, _, hE⟩ := rSl.elems hl
  obtain ⟨W0, e0, HB0, c0, c1, hs0, HW0⟩ : ∃ W0, w.alloc (.cells #[.bool c.no, .slice A c.rs.length cp] 53) = W0 ∧ Hid (Below w.heap.size w W0) ∧ W0.cell? ⟨w.heap.size, 0, none⟩ = some (.bool c.no) ∧ W0.cell? ⟨w.heap.size, 1, none⟩ = some (.slice A c.rs.length cp) ∧ w.heap.size < W0.heap.size ∧ Hid (LibW W0) :=
    ⟨_, rfl, Lib.hid ((Below.refl _ _).alloc (Nat.le_refl _) _), World.cell?_alloc_new _ _ _ _, World.cell?_alloc_new _ _ _ _, by simp, Lib.hid (hw.below ((Below.refl _ _).alloc (Nat.le_refl _) _))⟩
  have HE := Lib.hid hE
  have H4 := Lib.hid h4
  have HC0 := Lib.hid c0
  clear hl hE hw
  go_enter Tryd.func19, Tryd.ntmps19
  by_cases h0 : c.rs.length = 0
  · have hz : ((c.rs.length : Int) == 0) = true := by rw [h0]; rfl
    have HZ : Hid (cellTxt c = [42]) := Lib.hid (by unfold cellTxt; rw [if_pos h0])
    clear h0 h4
    go_wp2
    go_ret
    exact ⟨by rw [HZ.out]; rfl, HB0.out⟩
  · have hz : ((c.rs.length : Int) == 0) = false := beq_eq_false_iff_ne.2 (by omega)
    have HZ : Hid (cellTxt c = (if c.no then [110, 111, 116, 32] else []) ++ Lib.join (c.rs.map rgTxt) [124]) := Lib.hid (by unfold cellTxt; rw [if_neg h0])
    clear h0
    go_wp2
    clear e0 hz
    go_loopw [3, 15] (fun o i wr => ∃ k : Nat, k ≤ c.rs.length ∧ i = .int .i64 k ∧ Hid (Own rStr 9 wr W0.heap.size (fun _ => False) o ((c.rs.take k).map rgTxt)) ∧ Hid (Below W0.heap.size W0 wr)) (fun _ i _ => c.rs.length - (intOf i).toNat)
    case atStart => exact ⟨0, Nat.zero_le _, rfl, Lib.hid (Own.nil _ _ _ _ _), Lib.hid (Below.refl _ _)⟩
    case round =>
      obtain ⟨k, hk, rfl, HO, HB⟩ := hrel
      have HBR : Hid (Below w.heap.size w wr) := Lib.hid (HB0.out.trans (HB.out.mono HB0.out.size))
      by_cases hlt : k < c.rs.length
      · obtain ⟨bB, off, lo, up, rfl, _, hbB, hx, hlo, hup, g0, g1⟩ := HE.out.rg hlt
        rw [← HBR.out.cell (p := ⟨bB, _, none⟩) hbB] at g0 g1
        have hik : (k : Int) < (c.rs.length : Int) := by omega
        have HLO := Lib.hid hlo
        have HUP := Lib.hid hup
        have HTK : Hid ((c.rs.take k).map rgTxt ++ [rgTxt (lo, up)] = (c.rs.take (k + 1)).map rgTxt) := Lib.hid (by rw [List.take_add_one, hx]; simp)
        obtain ⟨W3, e3, HB3, j0, j1, hs3⟩ : ∃ W3, wr.alloc (.cells #[.int .i64 lo, .int .i64 up] 72) = W3 ∧ Hid (Below W0.heap.size W0 W3) ∧ W3.cell? ⟨wr.heap.size, 0, none⟩ = some (.int .i64 lo) ∧ W3.cell? ⟨wr.heap.size, 1, none⟩ = some (.int .i64 up) ∧ Hid (wr.heap.size < W3.heap.size) :=
          ⟨_, rfl, Lib.hid (HB.out.alloc HB.out.size _), World.cell?_alloc_new _ _ _ _, World.cell?_alloc_new _ _ _ _, Lib.hid (by simp)⟩
        have HO3 : Hid (Own rStr 9 W3 W0.heap.size (fun _ => False) u3 ((c.rs.take k).map rgTxt)) := Lib.hid (by rw [← e3]; exact HO.out.alloc _)
        have HBY : Hid ((((c.rs.take k).map rgTxt).length + 1) * rStr.bytes ≤ 140737488355328) := Lib.hid (by rw [List.length_map, List.length_take]; have := H4.out; simp only [rStr]; omega)
        have hA : (Lib.itoa lo).length ≤ 30 := itoa_len _ hlo
        have hB : (Lib.itoa up).length ≤ 30 := itoa_len _ hup
        have s1 : ¬ (9223372036854775807 < 2 + (Lib.itoa up).length) := by omega
        have s2 : ¬ (9223372036854775807 < (Lib.itoa lo).length + (2 + (Lib.itoa up).length)) := by omega
        clear hA hB hx hlo hup
        by_cases hgt : lo < up
        · have HGT := Lib.hid hgt
          go_wp2_with (first
            | (go_at_call 20; first
              | ((with_reducible refine (Itoa_any lo HLO.out W3 (HW0.out.below HB3.out)).mono ?_); rintro e w4 ⟨rfl, hb4⟩; have HB4 := Lib.hid (HB3.out.trans (hb4.mono HB3.out.size)); have HO4 := Lib.hid (HO3.out.below hb4); have i0 := (hb4.cell (p := ⟨wr.heap.size, 0, none⟩) hs3.out).trans j0; have i1 := (hb4.cell (p := ⟨wr.heap.size, 1, none⟩) hs3.out).trans j1; clear hb4)
              | (go_must ((with_reducible refine (Itoa_any up HUP.out w4 (HW0.out.below HB4.out)).mono ?_); rintro e w5 ⟨rfl, hb5⟩; have HB5 := Lib.hid (HB4.out.trans (hb5.mono HB4.out.size)); have HO5 := Lib.hid (HO4.out.below hb5); clear hb5)))
            | (at_builtin; go_must (refine wpList_append_new (R := rStr) (x := rgTxt (lo, up)) el_StrC rfl (.tmp 33) (.tmp 35) rfl rfl HO5.out (crg2 lo up) rfl rfl (fun _ => False) (rg_rel2 w5 (fun _ => False) (lo, up) HLO.out HUP.out HGT.out) (fun _ h => h.elim) HBY.out HB5.out.size ?_); intro v9 w9 hown9 hb9 _ _; have HB9 := Lib.hid (HB5.out.trans hb9)))
          go_roundw
          case rel => exact ⟨k + 1, by omega, by go_num, Lib.hid (by rw [← HTK.out]; exact hown9), HB9⟩
          case measure => simp [intOf]; omega
        · have HGT := Lib.hid hgt
          go_wp2_with (first
            | (go_at_call 20; go_must ((with_reducible refine (Itoa_any lo HLO.out W3 (HW0.out.below HB3.out)).mono ?_); rintro e w4 ⟨rfl, hb4⟩; have HB4 := Lib.hid (HB3.out.trans (hb4.mono HB3.out.size)); have HO4 := Lib.hid (HO3.out.below hb4); have i0 := (hb4.cell (p := ⟨wr.heap.size, 0, none⟩) hs3.out).trans j0; have i1 := (hb4.cell (p := ⟨wr.heap.size, 1, none⟩) hs3.out).trans j1; clear hb4))
            | (at_builtin; go_must (refine wpList_append_new (R := rStr) (x := rgTxt (lo, up)) el_StrC rfl (.tmp 33) (.tmp 35) rfl rfl HO4.out [.string ⟨(Lib.itoa lo).toArray⟩] rfl rfl (fun _ => False) (rg_rel1 w4 (fun _ => False) (lo, up) HLO.out HUP.out HGT.out) (fun _ h => h.elim) HBY.out HB4.out.size ?_); intro v9 w9 hown9 hb9 _ _; have HB9 := Lib.hid (HB4.out.trans hb9)))
          go_roundw
          case rel => exact ⟨k + 1, by omega, by go_num, Lib.hid (by rw [← HTK.out]; exact hown9), HB9⟩
          case measure => simp [intOf]; omega
      · have hij : ¬ (k : Int) < (c.rs.length : Int) := by omega
        have HOF : Hid (Own rStr 9 wr W0.heap.size (fun _ => False) u3 (c.rs.map rgTxt)) := Lib.hid (by have := HO.out; rwa [List.take_of_length_le (by omega)] at this)
        have HJL : Hid ((Lib.join (c.rs.map rgTxt) [124]).length ≤ 252) := Lib.hid (by
          have h := joinS_len (l := c.rs.map rgTxt) (sep := [124]) (m := 63) (fun x hx => by
            obtain ⟨r, hr, rfl⟩ := List.mem_map.1 hx
            obtain ⟨i, hi, rfl⟩ := List.getElem_of_mem hr
            obtain ⟨_, _, lo, up, _, _, _, hx, h1, h2, _⟩ := HE.out.rg hi
            rw [List.getElem?_eq_getElem hi] at hx
            have e := Option.some.inj hx
            rw [e]
            have := rgTxt_len (lo, up) h1 h2
            simp only [List.length_singleton]
            omega)
          rw [List.length_map] at h
          have := H4.out
          omega)
        have k0 := (HB.out.cell (p := ⟨w.heap.size, 0, none⟩) hs0).trans HC0.out
        have HS0 := Lib.hid hs0
        have hj : (Lib.join (c.rs.map rgTxt) [124]).length ≤ 252 := HJL.out
        have s3 : ¬ (9223372036854775807 < 4 + (Lib.join (c.rs.map rgTxt) [124]).length) := by omega
        obtain ⟨jt, hjt⟩ : ∃ x, Lib.join (c.rs.map rgTxt) [124] = x := ⟨_, rfl⟩
        have HJN : Hid (Calls Tryd.prog 18 #[u3, .string ⟨#[124]⟩] wr fun e w' => e = .returned (.string ⟨jt.toArray⟩) ∧ Below wr.heap.size wr w') := Lib.hid (by have := JoinS_any [124] wr (HOF.out.rel (by decide)) (by have := HJL.out; omega); rw [hjt] at this; exact this)
        rw [hjt] at HZ s3
        obtain ⟨cn, hcn⟩ : ∃ x, c.no = x := ⟨_, rfl⟩
        rw [hcn] at HZ k0
        clear hj hjt hcn hlt hk
        cases cn
        · go_wp2_with (first | (go_at_call 18; go_must ((with_reducible refine HJN.out.mono ?_); rintro e w5 ⟨rfl, hb5⟩; have HB5 := Lib.hid (HB.out.trans (hb5.mono HB.out.size)); have i0 := (hb5.cell (p := ⟨w.heap.size, 0, none⟩) (Nat.lt_of_lt_of_le HS0.out HB.out.size)).trans k0; clear hb5)))
          go_ret
          exact ⟨by rw [HZ.out]; rfl, HB0.out.trans (HB5.out.mono HB0.out.size)⟩
        · go_wp2_with (first | (go_at_call 18; go_must ((with_reducible refine HJN.out.mono ?_); rintro e w5 ⟨rfl, hb5⟩; have HB5 := Lib.hid (HB.out.trans (hb5.mono HB.out.size)); have i0 := (hb5.cell (p := ⟨w.heap.size, 0, none⟩) (Nat.lt_of_lt_of_le HS0.out HB.out.size)).trans k0; clear hb5)))
          go_ret
          refine ⟨?_, HB0.out.trans (HB5.out.mono HB0.out.size)⟩
          rw [HZ.out]
          have e : (⟨#[110, 111, 116, 32]⟩ : ByteArray) ++ ⟨jt.toArray⟩ = ⟨(([110, 111, 116, 32] : Txt) ++ jt).toArray⟩ := app_txt [110, 111, 116, 32] jt
          exact congrArg (fun x => Ending.returned (.string x)) e

end Go.Proofs.YtlopccnehgolnabDoor
