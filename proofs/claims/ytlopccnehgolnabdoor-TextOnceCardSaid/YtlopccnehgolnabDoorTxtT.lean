
/- What text prints: the contract of Table at a good table. -/
import Derived.Test.YtlopccnehgolnabDoorTxtM
import Derived.Test.YtlopccnehgolnabDoorParse
namespace Go.Proofs.YtlopccnehgolnabDoor
open Go.RowKit Rb

theorem rg_txt (w : World) (S : Nat → Prop) (c : Cl) (h : (cellTxt c).length ≤ 80) : rStr.rel w S [.string ⟨(cellTxt c).toArray⟩] (cellTxt c) := ⟨rfl, by omega⟩
theorem head_ba (nm pt J : Txt) (comp : Bool) (p : Nat) (ins : List Txt) (rules : List Rl) (hp : polTxt p = pt) (hJ : Lib.join ins [44] = J) :
    (⟨#[116, 97, 98, 108, 101, 32]⟩ : ByteArray) ++ ⟨nm.toArray⟩ ++ ⟨#[32]⟩ ++ ⟨pt.toArray⟩ ++ ⟨(if comp then [32, 99, 111, 109, 112, 108, 101, 116, 101] else [] : Txt).toArray⟩ ++ (⟨#[32, 40]⟩ ++ ⟨J.toArray⟩ ++ ⟨#[41, 32, 123, 10]⟩) = ⟨(headTxt ⟨nm, p, comp, ins, rules⟩).toArray⟩ := by
  apply ByteArray.ext
  simp [ByteArray.data_append, headTxt, hp, hJ]
theorem head_t (nm pt J : Txt) (p : Nat) (ins : List Txt) (rules : List Rl) (hp : polTxt p = pt) (hJ : Lib.join ins [44] = J) :
    (⟨#[116, 97, 98, 108, 101, 32]⟩ : ByteArray) ++ ⟨nm.toArray⟩ ++ ⟨#[32]⟩ ++ ⟨pt.toArray⟩ ++ ⟨#[32, 99, 111, 109, 112, 108, 101, 116, 101]⟩ ++ (⟨#[32, 40]⟩ ++ ⟨J.toArray⟩ ++ ⟨#[41, 32, 123, 10]⟩) = ⟨(headTxt ⟨nm, p, true, ins, rules⟩).toArray⟩ :=
  head_ba nm pt J true p ins rules hp hJ
theorem head_f (nm pt J : Txt) (p : Nat) (ins : List Txt) (rules : List Rl) (hp : polTxt p = pt) (hJ : Lib.join ins [44] = J) :
    (⟨#[116, 97, 98, 108, 101, 32]⟩ : ByteArray) ++ ⟨nm.toArray⟩ ++ ⟨#[32]⟩ ++ ⟨pt.toArray⟩ ++ (⟨#[32, 40]⟩ ++ ⟨J.toArray⟩ ++ ⟨#[41, 32, 123, 10]⟩) = ⟨(headTxt ⟨nm, p, false, ins, rules⟩).toArray⟩ := by
  apply ByteArray.ext
  simp [ByteArray.data_append, headTxt, hp, hJ]
theorem row_ba (sx J O : Txt) (r : Rl) (hJ : Lib.join (r.cells.map cellTxt) [44] = J) (hO : Lib.itoa r.out = O) :
    (⟨sx.toArray⟩ : ByteArray) ++ ((⟨#[32, 32]⟩ : ByteArray) ++ ⟨J.toArray⟩ ++ ⟨#[32, 61, 62, 32]⟩ ++ ⟨O.toArray⟩ ++ ⟨#[59, 10]⟩) = ⟨(sx ++ rowTxt r).toArray⟩ := by
  apply ByteArray.ext
  simp [ByteArray.data_append, rowTxt, hJ, hO]

set_option maxRecDepth 100000 in
set_option maxHeartbeats 6400000 in
theorem Table_any {S : Nat → Prop} {cs : List Value} (t : Tb) (w : World) (hl : rTb.rel w S cs t) (hg : goodT t = true) (hw : LibW w) (hpw : PolW w) :
    Calls Tryd.prog 6 #[.agg cs.toArray] w fun e w' => e = .returned (.tuple #[.string ⟨(tableTxt t).toArray⟩, .int .i64 0]) ∧ Below w.heap.size w w' := by
  have HL := Lib.hid hl
  obtain ⟨vi, vr, rfl, hnm, hp, hi, hr⟩ := hl
  obtain ⟨A, c, rfl, hi1, hi2, hi3, hE⟩ := rSl.elems hi
  obtain ⟨B, d, rfl, hr1, hr2, hr3, hF⟩ := rSl.elems hr
  obtain ⟨hp1, hp7, hi1', hi3', hr1', hr6'⟩ := goodT_head hg
  have HLN := Lib.hid (goodT_name hg)
  have HJL := Lib.hid (joinI_len hg)
  have HHL := Lib.hid (headTxt_len hg)
  have HTL := Lib.hid (tableTxt_len hg)
  have HGR : Hid (∀ r ∈ t.rules, goodRule t.ins.length r = true) := Lib.hid fun r hr => goodT_rule hg hr
  have HG1 := Lib.hid hg
  obtain ⟨nm, pol, comp, ins, rules⟩ := t
  dsimp only at *
  obtain ⟨p, rfl⟩ : ∃ p : Nat, pol = p := ⟨pol.toNat, by omega⟩
  obtain ⟨W0, e0, HB0, c0, c1, c2, c3, c4, hs0⟩ : ∃ W0, w.alloc (.cells #[.string ⟨nm.toArray⟩, .int .i64 p, .bool comp, .slice A ins.length c, .slice B rules.length d] 25) = W0 ∧ Hid (Below w.heap.size w W0) ∧
      W0.cell? ⟨w.heap.size, 0, none⟩ = some (.string ⟨nm.toArray⟩) ∧ W0.cell? ⟨w.heap.size, 1, none⟩ = some (.int .i64 p) ∧ W0.cell? ⟨w.heap.size, 2, none⟩ = some (.bool comp) ∧ W0.cell? ⟨w.heap.size, 3, none⟩ = some (.slice A ins.length c) ∧ W0.cell? ⟨w.heap.size, 4, none⟩ = some (.slice B rules.length d) ∧ w.heap.size < W0.heap.size :=
    ⟨_, rfl, Lib.hid ((Below.refl _ _).alloc (Nat.le_refl _) _), World.cell?_alloc_new _ _ _ _, World.cell?_alloc_new _ _ _ _, World.cell?_alloc_new _ _ _ _, World.cell?_alloc_new _ _ _ _, World.cell?_alloc_new _ _ _ _, by simp⟩
  have HG0 := Lib.hid (TGood_p W0 (Rd.below HL.out HB0.out) HG1.out)
  have HW0 := Lib.hid (hw.below HB0.out)
  have HP0 := Lib.hid (hpw.below HB0.out)
  have HI := Lib.hid hi
  have HF := Lib.hid hF
  have HR6 := Lib.hid hr6'
  have HI3 := Lib.hid hi3'
  have HS0 := Lib.hid hs0
  obtain ⟨hpt, hpl⟩ := polTxt_at (p := p) (by omega)
  obtain ⟨J, hJ⟩ : ∃ x, Lib.join ins [44] = x := ⟨_, rfl⟩
  have HJ := Lib.hid hJ
  rw [hJ] at HJL
  obtain ⟨pt, hpe⟩ : ∃ x, polTxt p = x := ⟨_, rfl⟩
  have HPE := Lib.hid hpe
  rw [hpe] at hpt hpl
  have HPT := Lib.hid hpt
  have hp0' : (0 : Int) ≤ (p : Int) := by omega
  have hp8' : (p : Int) < 8 := by omega
  have hp8n : p < 8 := by omega
  have a1 : nm.length ≤ 8 := HLN.out
  have a2 : J.length ≤ 27 := HJL.out
  have s1 : ¬ (9223372036854775807 < 6 + nm.length) := by omega
  have s2 : ¬ (9223372036854775807 < 6 + nm.length + 1) := by omega
  have s3 : ¬ (9223372036854775807 < 6 + nm.length + 1 + pt.length) := by omega
  have s4 : ¬ (9223372036854775807 < 6 + nm.length + 1 + pt.length + 9) := by omega
  have s5 : ¬ (9223372036854775807 < 2 + J.length) := by omega
  have s6 : ¬ (9223372036854775807 < 2 + J.length + 4) := by omega
  have s7 : ¬ (9223372036854775807 < 6 + nm.length + 1 + pt.length + 9 + (2 + J.length + 4)) := by omega
  have s8 : ¬ (9223372036854775807 < 6 + nm.length + 1 + pt.length + (2 + J.length + 4)) := by omega
  clear hi hr hE hF hw hpw hg hi1 hi2 hi3 hr1 hr2 hr3 hi1' hi3' hr1' hr6' hp1 hp7 hJ hpt hpe a1 a2 hnm hp hpl
  obtain ⟨hd, hhd⟩ : ∃ x, headTxt ⟨nm, p, comp, ins, rules⟩ = x := ⟨_, rfl⟩
  have HHD := Lib.hid hhd
  rw [hhd] at HHL
  clear hhd
  go_enter Tryd.func6, Tryd.ntmps6
  cases comp
  all_goals
    go_wp2_with (first
      | (go_at_call 17; go_must ((with_reducible refine HG0.out.mono ?_); rintro e w1 ⟨rfl, hb1⟩; have HB1 := Lib.hid hb1; have d0 := (hb1.cell (p := ⟨w.heap.size, 0, none⟩) hs0).trans c0; have d1 := (hb1.cell (p := ⟨w.heap.size, 1, none⟩) hs0).trans c1; have d2 := (hb1.cell (p := ⟨w.heap.size, 2, none⟩) hs0).trans c2; have d3 := (hb1.cell (p := ⟨w.heap.size, 3, none⟩) hs0).trans c3; have d4 := (hb1.cell (p := ⟨w.heap.size, 4, none⟩) hs0).trans c4; have HP1 := Lib.hid (HP0.out.below hb1); have pc := HP1.out.2 p pt HPT.out; have hbd := Lib.hid (HB0.out.trans (hb1.mono HB0.out.size)); have HS1 := Lib.hid (Nat.lt_of_lt_of_le hs0 hb1.size); clear hb1 c0 c1 c2 c3 c4)))
    go_region
    go_wp2_with (first | (go_at_call 18; go_must ((with_reducible refine (JoinS_any [44] w1.drew (Rd.below HI.out hbd.out.drew) (by rw [HJ.out]; have := HJL.out; omega)).mono ?_); rw [HJ.out]; rintro e w2 ⟨rfl, hb2⟩; have HB2 := Lib.hid (HB1.out.drew.trans (hb2.mono HB1.out.size)); have f4 := (hb2.cell (p := ⟨w.heap.size, 4, none⟩) HS1.out).trans d4; clear hb2 d0 d1 d2 d3 d4 pc)))
    clear s1 s2 s3 s4 s5 s6 s7 s8 hp0' hp8' hp8n
    go_loopw [4, 36] (fun z i wr => ∃ (k : Nat) (sx : Txt), k ≤ rules.length ∧ i = .int .i64 k ∧ z = .string ⟨sx.toArray⟩ ∧ Hid (sx = hd ++ rowsTxt (rules.take k)) ∧ Hid (Below W0.heap.size W0 wr)) (fun _ i _ => rules.length - (intOf i).toNat)
    case atStart => exact ⟨0, hd, Nat.zero_le _, rfl, by rw [← HHD.out]; first | exact congrArg Value.string (head_t nm pt J p ins rules HPE.out HJ.out) | exact congrArg Value.string (head_f nm pt J p ins rules HPE.out HJ.out), Lib.hid (by simp [rowsTxt]), HB2⟩
    case round =>
      obtain ⟨k, sx, hk, rfl, rfl, HSX, HB⟩ := hrel
      have hr6 : rules.length ≤ 6 := HR6.out
      have HBW : Hid (Below w.heap.size w wr) := Lib.hid (HB0.out.trans (HB.out.mono HB0.out.size))
      have HSL : Hid (sx.length ≤ 63 + 259 * k) := Lib.hid (by
        have h1 := rowsTxt_len (l := rules.take k) HI3.out fun r hr => HGR.out r (List.mem_of_mem_take hr)
        have h2 := HHL.out
        rw [HSX.out, List.length_append]
        rw [List.length_take_of_le hk] at h1
        omega)
      by_cases hlt : k < rules.length
      · obtain ⟨bB, off, r, v, rfl, _, hbB, hx, hro, hrc, g0, g1⟩ := HF.out.rl hlt
        obtain ⟨C, cc, rfl, _, _, _, hEC⟩ := rSl.elems hrc
        rw [← HBW.out.cell (p := ⟨bB, _, none⟩) hbB] at g0 g1
        have hik : (k : Int) < (rules.length : Int) := by omega
        have HGK : Hid (goodRule ins.length r = true) := Lib.hid (HGR.out r (List.mem_of_getElem? hx))
        have HTK : Hid (sx ++ rowTxt r = hd ++ rowsTxt (rules.take (k + 1))) := Lib.hid (by rw [HSX.out, List.append_assoc, ← rowsTxt_add, List.take_add_one, hx]; rfl)
        have HEC := Lib.hid hEC
        have HRO := Lib.hid hro
        have HNC : Hid (r.cells.length ≤ 3) := Lib.hid (by have h := HGK.out; unfold goodRule at h; simp only [Bool.and_eq_true, decide_eq_true_iff] at h; have := HI3.out; omega)
        have HGC : Hid (∀ c ∈ r.cells, goodCell c = true) := Lib.hid (by have h := HGK.out; unfold goodRule at h; simp only [Bool.and_eq_true, List.all_eq_true] at h; exact h.2)
        obtain ⟨W3, e3, HB3, j0, j1, hs3⟩ : ∃ W3, wr.alloc (.cells #[.slice C r.cells.length cc, .int .i64 r.out] 43) = W3 ∧ Hid (Below W0.heap.size W0 W3) ∧ W3.cell? ⟨wr.heap.size, 0, none⟩ = some (.slice C r.cells.length cc) ∧ W3.cell? ⟨wr.heap.size, 1, none⟩ = some (.int .i64 r.out) ∧ Hid (wr.heap.size < W3.heap.size) :=
          ⟨_, rfl, Lib.hid (HB.out.alloc HB.out.size _), World.cell?_alloc_new _ _ _ _, World.cell?_alloc_new _ _ _ _, Lib.hid (by simp)⟩
        have HBW3 : Hid (Below w.heap.size w W3) := Lib.hid (HB0.out.trans (HB3.out.mono HB0.out.size))
        clear hx hro hrc hEC
        go_wp2
        clear e3
        generalize hn8 : wr.heap.size = n8 at *
        clear hn8
        go_loopw [7, 43] (fun o i wr => ∃ j : Nat, j ≤ r.cells.length ∧ i = .int .i64 j ∧ Hid (Own rStr 9 wr W3.heap.size (fun _ => False) o ((r.cells.take j).map cellTxt)) ∧ Hid (Below W3.heap.size W3 wr)) (fun _ i _ => r.cells.length - (intOf i).toNat)
        case atStart => exact ⟨0, Nat.zero_le _, rfl, Lib.hid (Own.nil _ _ _ _ _), Lib.hid (Below.refl _ _)⟩
        case round =>
          obtain ⟨j, hj, rfl, HO, HBJ⟩ := hrel
          have hnc : r.cells.length ≤ 3 := HNC.out
          have HBX : Hid (Below w.heap.size w wr) := Lib.hid (HBW3.out.trans (HBJ.out.mono HBW3.out.size))
          by_cases hlj : j < r.cells.length
          · obtain ⟨bC, oC, cl, vv, rfl, _, hbC, hx, hcr, q0, q1⟩ := HEC.out.cl hlj
            rw [← HBX.out.cell (p := ⟨bC, _, none⟩) hbC] at q0 q1
            have hjk : (j : Int) < (r.cells.length : Int) := by omega
            have HCL : Hid (goodCell cl = true) := Lib.hid (HGC.out cl (List.mem_of_getElem? hx))
            have HTJ : Hid ((r.cells.take j).map cellTxt ++ [cellTxt cl] = (r.cells.take (j + 1)).map cellTxt) := Lib.hid (by rw [List.take_add_one, hx]; simp)
            obtain ⟨D, cd, rfl, _⟩ := rSl.elems hcr
            have HCR := Lib.hid hcr
            obtain ⟨W5, e5, HB5, z0, z1, hs5⟩ : ∃ W5, wr.alloc (.cells #[.bool cl.no, .slice D cl.rs.length cd] 53) = W5 ∧ Hid (Below W3.heap.size W3 W5) ∧ W5.cell? ⟨wr.heap.size, 0, none⟩ = some (.bool cl.no) ∧ W5.cell? ⟨wr.heap.size, 1, none⟩ = some (.slice D cl.rs.length cd) ∧ Hid (wr.heap.size < W5.heap.size) :=
              ⟨_, rfl, Lib.hid (HBJ.out.alloc HBJ.out.size _), World.cell?_alloc_new _ _ _ _, World.cell?_alloc_new _ _ _ _, Lib.hid (by simp)⟩
            have HO5 : Hid (Own rStr 9 W5 W3.heap.size (fun _ => False) u7 ((r.cells.take j).map cellTxt)) := Lib.hid (by rw [← e5]; exact HO.out.alloc _)
            have HCA : Hid (Calls Tryd.prog 19 #[.agg #[.bool cl.no, .slice D cl.rs.length cd]] W5 fun e w' => e = .returned (.string ⟨(cellTxt cl).toArray⟩) ∧ Below W5.heap.size W5 w') := Lib.hid (cell_any cl W5 (Rd.below HCR.out (HBW3.out.trans (HB5.out.mono HBW3.out.size))) (by have h := HCL.out; unfold goodCell at h; simp only [Bool.and_eq_true, decide_eq_true_iff] at h; exact h.1.1) (HW0.out.below (HB3.out.trans (HB5.out.mono HB3.out.size))))
            have HBY : Hid ((((r.cells.take j).map cellTxt).length + 1) * rStr.bytes ≤ 140737488355328) := Lib.hid (by rw [List.length_map, List.length_take]; have := HNC.out; simp only [rStr]; omega)
            have HC8 := Lib.hid (cellTxt_len HCL.out)
            clear hx hcr
            go_wp2_with (first
              | (go_at_call 19; go_must ((with_reducible refine HCA.out.mono ?_); rintro e w6 ⟨rfl, hb6⟩; have HB6 := Lib.hid (HB5.out.trans (hb6.mono HB5.out.size)); have HO6 := Lib.hid (HO5.out.below hb6); clear hb6))
              | (at_builtin; go_must (refine wpList_append_new (R := rStr) (x := cellTxt cl) el_StrC rfl (.tmp 47) (.tmp 50) rfl rfl HO6.out [.string ⟨(cellTxt cl).toArray⟩] rfl rfl (fun _ => False) (rg_txt w6 (fun _ => False) cl HC8.out) (fun _ h => h.elim) HBY.out HB6.out.size ?_); intro v9 w9 hown9 hb9 _ _; have HB9 := Lib.hid (HB6.out.trans hb9)))
            go_roundw
            case rel => exact ⟨j + 1, by omega, by go_num, Lib.hid (by rw [← HTJ.out]; exact hown9), HB9⟩
            case measure => simp [intOf]; omega
          · have hjk : ¬ (j : Int) < (r.cells.length : Int) := by omega
            have HOF : Hid (Own rStr 9 wr W3.heap.size (fun _ => False) u7 (r.cells.map cellTxt)) := Lib.hid (by have := HO.out; rwa [List.take_of_length_le (by omega)] at this)
            have HJC := Lib.hid (joinC_len HGK.out HI3.out)
            have HIO : Hid ((Lib.itoa r.out).length ≤ 30) := Lib.hid (itoa_len _ HRO.out)
            have k0 := (HBJ.out.cell (p := ⟨n8, 0, none⟩) hs3.out).trans j0
            have k1 := (HBJ.out.cell (p := ⟨n8, 1, none⟩) hs3.out).trans j1
            obtain ⟨jt, hjt⟩ : ∃ x, Lib.join (r.cells.map cellTxt) [44] = x := ⟨_, rfl⟩
            obtain ⟨ot, hot⟩ : ∃ x, Lib.itoa r.out = x := ⟨_, rfl⟩
            have HJT := Lib.hid hjt
            have HOT := Lib.hid hot
            have HJN : Hid (∀ w', Below wr.heap.size wr w' → Calls Tryd.prog 18 #[u7, .string ⟨#[44]⟩] w' fun e w'' => e = .returned (.string ⟨jt.toArray⟩) ∧ Below w'.heap.size w' w'') := Lib.hid fun w' hb => by have := JoinS_any [44] w' ((HOF.out.below hb).rel (by decide)) (by have := HJC.out; omega); rw [hjt] at this; exact this
            have HWR : Hid (LibW wr) := Lib.hid (HW0.out.below (HB3.out.trans (HBJ.out.mono HB3.out.size)))
            have HIN : Hid (∀ w', Below wr.heap.size wr w' → Calls Tryd.prog 20 #[.int .i64 r.out] w' fun e w'' => e = .returned (.string ⟨ot.toArray⟩) ∧ Below w'.heap.size w' w'') := Lib.hid fun w' hb => by have := Itoa_any r.out HRO.out w' (HWR.out.below hb); rw [hot] at this; exact this
            have b1 : jt.length ≤ 243 := by rw [← hjt]; exact HJC.out
            have b2 : ot.length ≤ 30 := by rw [← hot]; exact HIO.out
            have b3 : sx.length ≤ 2000 := by have := HSL.out; have := HR6.out; omega
            have s1 : ¬ (9223372036854775807 < 2 + jt.length) := by omega
            have s2 : ¬ (9223372036854775807 < 2 + jt.length + 4) := by omega
            have s3 : ¬ (9223372036854775807 < 2 + jt.length + 4 + ot.length) := by omega
            have s4 : ¬ (9223372036854775807 < 2 + jt.length + 4 + ot.length + 2) := by omega
            have s5 : ¬ (9223372036854775807 < sx.length + (2 + jt.length + 4 + ot.length + 2)) := by omega
            clear b1 b2 b3 hjt hot
            have hq8 : n8 < wr.heap.size := Nat.lt_of_lt_of_le hs3.out HBJ.out.size
            go_wp2
            refine wp_region_quiet_below (by kernel_rfl) (by kernel_rfl) ?_
            repeat (go_big_quiet_step (first | with_reducible exact Calls.inBelow HJN.out _ _ | with_reducible exact Calls.inBelow HIN.out _ _))
            refine wpQuiet_nil ?_
            intro _ hw'
            obtain ⟨⟨dq, osq⟩, hw''⟩ := hw'
            subst hw''
            have HBG0 : Hid (Below W0.heap.size W0 wr) := Lib.hid (HB3.out.trans (HBJ.out.mono HB3.out.size))
            have HRB := Lib.hid (row_ba sx jt ot r HJT.out HOT.out)
            go_wp2
            go_roundw
            case rel => exact ⟨k + 1, sx ++ rowTxt r, by omega, by go_num, congrArg Value.string HRB.out, HTK, Lib.hid (HBG0.out.trans ((below_regrown _ _ _).mono HBG0.out.size))⟩
            case measure => simp [intOf]; omega
      · have hij : ¬ (k : Int) < (rules.length : Int) := by omega
        have HSE : Hid (sx ++ [125, 10] = tableTxt ⟨nm, p, _, ins, rules⟩) := Lib.hid (by rw [HSX.out, ← HHD.out, List.take_of_length_le (by omega)]; rfl)
        have hsz : sx.length + 2 ≤ 1700 := by have h := HTL.out; rw [← HSE.out, List.length_append] at h; exact h
        have HZ : Hid ((⟨sx.toArray⟩ : ByteArray) ++ ⟨#[125, 10]⟩ = ⟨(sx ++ [125, 10]).toArray⟩) := Lib.hid (app_txt sx [125, 10])
        have s1 : ¬ (9223372036854775807 < sx.length + 2) := by omega
        have s2 : ¬ ((2000 : Int) < (sx.length : Int) + 2) := by omega
        have s3 : ¬ (2000 < sx.length + 2) := by omega
        clear hsz hlt hk
        go_wp2
        go_ret2
        refine ⟨?_, HBW.out⟩
        rw [← HSE.out, ← HZ.out]
        rfl

end Go.Proofs.YtlopccnehgolnabDoor
