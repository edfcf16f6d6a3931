
/- The contract of clipped. -/
import Derived.Test.YtlopccnehgolnabBookX
import Derived.Test.YtlopccnehgolnabBox
namespace Go.Proofs.Ytlopccnehgolnab
open Go.RowKit Rb

def clipV (lo hi n : Int) : Int := max lo (min n hi)
/-- Numbers brought into domains, one for each domain. -/
def clipTo (ns : List Int) (l : List Dm) : List Int := (List.range l.length).map fun i => match l[i]? with | some d => clipV d.lo d.hi ((ns[i]?).getD 0) | none => 0
theorem clipTo_take {ns : List Int} {l : List Dm} {k : Nat} {x : Dm} (h : l[k]? = some x) : clipTo ns (l.take (k + 1)) = clipTo ns (l.take k) ++ [clipV x.lo x.hi ((ns[k]?).getD 0)] := by
  have hk := (List.getElem?_eq_some_iff.1 h).1
  unfold clipTo
  rw [List.length_take, List.length_take, Nat.min_eq_left (by omega), Nat.min_eq_left (by omega), List.range_succ, List.map_append]
  congr 1
  · apply List.map_congr_left
    intro i hi
    rw [List.mem_range] at hi
    rw [List.getElem?_take, List.getElem?_take, if_pos (by omega), if_pos hi]
  · simp [h]

set_option maxRecDepth 100000 in
set_option maxHeartbeats 800000 in
theorem clipped_any {S T : Nat → Prop} {bs : List Value} {b : Bk} {u : Value} {ns : List Int} (w : World) (hb : rBk.rel w S bs b) (hn : (rSl rInt).rel w T [u] ns) :
    Calls Try.prog 18 #[.agg bs.toArray, u] w fun e w' => ∃ z, e = .returned z ∧ Own rInt 3 w' w.heap.size (fun _ => False) z (clipTo ns b.doms) ∧ Below w.heap.size w w' := by
  obtain ⟨v0, u0, rfl, hd, htb⟩ := hb
  obtain ⟨A, c, rfl, _, _, hbt, hF⟩ := rSl.elems hd
  obtain ⟨B, d, rfl, _⟩ := rSl.elems htb
  obtain ⟨C, g, rfl, _, _, _, hN⟩ := rSl.elems hn
  have hlt5 : b.doms.length ≤ 4398046511104 := by simp only [rDm] at hbt; omega
  have hnl := rSl.lenle hn (by decide)
  obtain ⟨W0, e0, hb0, c0, hs0⟩ : ∃ W0, w.alloc (.cells #[.slice A b.doms.length c, .slice B b.tabs.length d] 46) = W0 ∧ Hid (Below w.heap.size w W0) ∧ W0.cell? ⟨w.heap.size, 0, none⟩ = some (.slice A b.doms.length c) ∧ w.heap.size < W0.heap.size :=
    ⟨_, rfl, Lib.hid ((Below.refl _ _).alloc (Nat.le_refl _) _), World.cell?_alloc_new _ _ _ _, by simp⟩
  clear hd htb hbt hn
  go_enter Try.func18, Try.ntmps18
  go_wp2
  clear e0 c0
  go_loopw [5, 12] (fun o i wr => ∃ (k : Nat) (out : List Int), k ≤ b.doms.length ∧ i = .int .i64 k ∧ Own rInt 3 wr W0.heap.size (fun _ => False) o out ∧ Hid (out = clipTo ns (b.doms.take k)) ∧ Hid (out.length ≤ k) ∧ Hid (Below W0.heap.size W0 wr)) (fun _ i _ => b.doms.length - (intOf i).toNat)
  case atStart => exact ⟨0, [], Nat.zero_le _, rfl, Own.nil _ _ _ _ _, Lib.hid rfl, Lib.hid (by simp), Lib.hid (Below.refl _ _)⟩
  case round =>
    obtain ⟨k, out, hk, rfl, hown, HO, HOL, HB⟩ := hrel
    have hbw := hb0.out.trans (HB.out.mono hb0.out.size)
    by_cases hlt : k < b.doms.length
    · obtain ⟨bB, off, x, rfl, hbB, hx, hr, g0, g1, g2⟩ := hF.dm hlt
      rw [← hbw.cell (p := ⟨bB, _, none⟩) hbB] at g0 g1 g2
      have hik : (k : Int) < (b.doms.length : Int) := by omega
      have HX := Lib.hid hx
      obtain ⟨W3, e3, HB3, j1, j2, HO3⟩ : ∃ W3, wr.alloc (.cells #[.string ⟨x.name.toArray⟩, .int .i64 x.lo, .int .i64 x.hi] 55) = W3 ∧ Hid (Below W0.heap.size W0 W3) ∧ W3.cell? ⟨wr.heap.size, 1, none⟩ = some (.int .i64 x.lo) ∧ W3.cell? ⟨wr.heap.size, 2, none⟩ = some (.int .i64 x.hi) ∧ Hid (Own rInt 3 W3 W0.heap.size (fun _ => False) u5 out) :=
        ⟨_, rfl, Lib.hid (HB.out.alloc HB.out.size _), World.cell?_alloc_new _ _ _ _, World.cell?_alloc_new _ _ _ _, Lib.hid (hown.alloc _)⟩
      have HBY : Hid ((out.length + 1) * rInt.bytes ≤ 140737488355328) := Lib.hid (by have := HOL.out; show (_ + 1) * 8 ≤ _; omega)
      clear hx hown
      by_cases hln : k < ns.length
      · obtain ⟨q, off', n, rfl, _, hq, hy, hyi, h3⟩ := hN.intAt hln
        rw [← hbw.cell (p := ⟨q, _, none⟩) hq] at h3
        have h4 : W3.cell? ⟨q, off' + k, none⟩ = some (.int .i64 n) := by rw [← e3, World.cell?_alloc_lt _ _ _ (Nat.lt_of_lt_of_le hq hbw.size)]; exact h3
        have HNN : Hid ((ns[k]?).getD 0 = n) := Lib.hid (by rw [hy]; rfl)
        have HIN : Hid (∀ y, y = x.lo ∨ y = x.hi ∨ y = n → InI y) := Lib.hid (by rintro y (rfl | rfl | rfl); exact hr.2.1; exact hr.2.2; exact hyi)
        have hin : (k : Int) < (ns.length : Int) := by omega
        clear hy hyi hr hN hF h3
        by_cases h1 : x.hi < n
        · by_cases h2 : x.lo < x.hi
          · have HV : Hid (clipV x.lo x.hi n = x.hi) := Lib.hid (by unfold clipV; omega)
            have HT : Hid (clipTo ns (b.doms.take (k + 1)) = out ++ [x.hi]) := Lib.hid (by rw [clipTo_take HX.out, ← HO.out, HNN.out, HV.out])
            go_wp2_with (first | (at_builtin; go_must (refine wpList_append_new (R := rInt) (x := x.hi) el_I rfl (.tmp 25) (.tmp 33) rfl rfl HO3.out [.int .i64 x.hi] rfl rfl (fun _ => False) ⟨rfl, HIN.out _ (by simp)⟩ (fun _ h => h.elim) HBY.out HB3.out.size ?_); intro v9 w9 hown9 hb9 _ _))
            go_roundw
            case rel => exact ⟨k + 1, out ++ [x.hi], by omega, by go_num, hown9, Lib.hid HT.out.symm, Lib.hid (by have := HOL.out; rw [List.length_append]; simp only [List.length_cons, List.length_nil]; omega), Lib.hid (HB3.out.trans hb9)⟩
            case measure => simp [intOf]; omega
          · have HV : Hid (clipV x.lo x.hi n = x.lo) := Lib.hid (by unfold clipV; omega)
            have HT : Hid (clipTo ns (b.doms.take (k + 1)) = out ++ [x.lo]) := Lib.hid (by rw [clipTo_take HX.out, ← HO.out, HNN.out, HV.out])
            go_wp2_with (first | (at_builtin; go_must (refine wpList_append_new (R := rInt) (x := x.lo) el_I rfl (.tmp 25) (.tmp 33) rfl rfl HO3.out [.int .i64 x.lo] rfl rfl (fun _ => False) ⟨rfl, HIN.out _ (by simp)⟩ (fun _ h => h.elim) HBY.out HB3.out.size ?_); intro v9 w9 hown9 hb9 _ _))
            go_roundw
            case rel => exact ⟨k + 1, out ++ [x.lo], by omega, by go_num, hown9, Lib.hid HT.out.symm, Lib.hid (by have := HOL.out; rw [List.length_append]; simp only [List.length_cons, List.length_nil]; omega), Lib.hid (HB3.out.trans hb9)⟩
            case measure => simp [intOf]; omega
        · by_cases h2 : x.lo < n
          · have HV : Hid (clipV x.lo x.hi n = n) := Lib.hid (by unfold clipV; omega)
            have HT : Hid (clipTo ns (b.doms.take (k + 1)) = out ++ [n]) := Lib.hid (by rw [clipTo_take HX.out, ← HO.out, HNN.out, HV.out])
            go_wp2_with (first | (at_builtin; go_must (refine wpList_append_new (R := rInt) (x := n) el_I rfl (.tmp 25) (.tmp 33) rfl rfl HO3.out [.int .i64 n] rfl rfl (fun _ => False) ⟨rfl, HIN.out _ (by simp)⟩ (fun _ h => h.elim) HBY.out HB3.out.size ?_); intro v9 w9 hown9 hb9 _ _))
            go_roundw
            case rel => exact ⟨k + 1, out ++ [n], by omega, by go_num, hown9, Lib.hid HT.out.symm, Lib.hid (by have := HOL.out; rw [List.length_append]; simp only [List.length_cons, List.length_nil]; omega), Lib.hid (HB3.out.trans hb9)⟩
            case measure => simp [intOf]; omega
          · have HV : Hid (clipV x.lo x.hi n = x.lo) := Lib.hid (by unfold clipV; omega)
            have HT : Hid (clipTo ns (b.doms.take (k + 1)) = out ++ [x.lo]) := Lib.hid (by rw [clipTo_take HX.out, ← HO.out, HNN.out, HV.out])
            go_wp2_with (first | (at_builtin; go_must (refine wpList_append_new (R := rInt) (x := x.lo) el_I rfl (.tmp 25) (.tmp 33) rfl rfl HO3.out [.int .i64 x.lo] rfl rfl (fun _ => False) ⟨rfl, HIN.out _ (by simp)⟩ (fun _ h => h.elim) HBY.out HB3.out.size ?_); intro v9 w9 hown9 hb9 _ _))
            go_roundw
            case rel => exact ⟨k + 1, out ++ [x.lo], by omega, by go_num, hown9, Lib.hid HT.out.symm, Lib.hid (by have := HOL.out; rw [List.length_append]; simp only [List.length_cons, List.length_nil]; omega), Lib.hid (HB3.out.trans hb9)⟩
            case measure => simp [intOf]; omega
      · have HNN : Hid ((ns[k]?).getD 0 = 0) := Lib.hid (by rw [List.getElem?_eq_none (by omega)]; rfl)
        have HIN : Hid (∀ y, y = x.lo ∨ y = x.hi ∨ y = 0 → InI y) := Lib.hid (by rintro y (rfl | rfl | rfl); exact hr.2.1; exact hr.2.2; unfold InI; omega)
        have hin : ¬ (k : Int) < (ns.length : Int) := by omega
        clear hr hN hF
        by_cases h1 : x.hi < 0
        · by_cases h2 : x.lo < x.hi
          · have HV : Hid (clipV x.lo x.hi 0 = x.hi) := Lib.hid (by unfold clipV; omega)
            have HT : Hid (clipTo ns (b.doms.take (k + 1)) = out ++ [x.hi]) := Lib.hid (by rw [clipTo_take HX.out, ← HO.out, HNN.out, HV.out])
            go_wp2_with (first | (at_builtin; go_must (refine wpList_append_new (R := rInt) (x := x.hi) el_I rfl (.tmp 25) (.tmp 33) rfl rfl HO3.out [.int .i64 x.hi] rfl rfl (fun _ => False) ⟨rfl, HIN.out _ (by simp)⟩ (fun _ h => h.elim) HBY.out HB3.out.size ?_); intro v9 w9 hown9 hb9 _ _))
            go_roundw
            case rel => exact ⟨k + 1, out ++ [x.hi], by omega, by go_num, hown9, Lib.hid HT.out.symm, Lib.hid (by have := HOL.out; rw [List.length_append]; simp only [List.length_cons, List.length_nil]; omega), Lib.hid (HB3.out.trans hb9)⟩
            case measure => simp [intOf]; omega
          · have HV : Hid (clipV x.lo x.hi 0 = x.lo) := Lib.hid (by unfold clipV; omega)
            have HT : Hid (clipTo ns (b.doms.take (k + 1)) = out ++ [x.lo]) := Lib.hid (by rw [clipTo_take HX.out, ← HO.out, HNN.out, HV.out])
            go_wp2_with (first | (at_builtin; go_must (refine wpList_append_new (R := rInt) (x := x.lo) el_I rfl (.tmp 25) (.tmp 33) rfl rfl HO3.out [.int .i64 x.lo] rfl rfl (fun _ => False) ⟨rfl, HIN.out _ (by simp)⟩ (fun _ h => h.elim) HBY.out HB3.out.size ?_); intro v9 w9 hown9 hb9 _ _))
            go_roundw
            case rel => exact ⟨k + 1, out ++ [x.lo], by omega, by go_num, hown9, Lib.hid HT.out.symm, Lib.hid (by have := HOL.out; rw [List.length_append]; simp only [List.length_cons, List.length_nil]; omega), Lib.hid (HB3.out.trans hb9)⟩
            case measure => simp [intOf]; omega
        · by_cases h2 : x.lo < 0
          · have HV : Hid (clipV x.lo x.hi 0 = 0) := Lib.hid (by unfold clipV; omega)
            have HT : Hid (clipTo ns (b.doms.take (k + 1)) = out ++ [0]) := Lib.hid (by rw [clipTo_take HX.out, ← HO.out, HNN.out, HV.out])
            go_wp2_with (first | (at_builtin; go_must (refine wpList_append_new (R := rInt) (x := 0) el_I rfl (.tmp 25) (.tmp 33) rfl rfl HO3.out [.int .i64 0] rfl rfl (fun _ => False) ⟨rfl, HIN.out _ (by simp)⟩ (fun _ h => h.elim) HBY.out HB3.out.size ?_); intro v9 w9 hown9 hb9 _ _))
            go_roundw
            case rel => exact ⟨k + 1, out ++ [0], by omega, by go_num, hown9, Lib.hid HT.out.symm, Lib.hid (by have := HOL.out; rw [List.length_append]; simp only [List.length_cons, List.length_nil]; omega), Lib.hid (HB3.out.trans hb9)⟩
            case measure => simp [intOf]; omega
          · have HV : Hid (clipV x.lo x.hi 0 = x.lo) := Lib.hid (by unfold clipV; omega)
            have HT : Hid (clipTo ns (b.doms.take (k + 1)) = out ++ [x.lo]) := Lib.hid (by rw [clipTo_take HX.out, ← HO.out, HNN.out, HV.out])
            go_wp2_with (first | (at_builtin; go_must (refine wpList_append_new (R := rInt) (x := x.lo) el_I rfl (.tmp 25) (.tmp 33) rfl rfl HO3.out [.int .i64 x.lo] rfl rfl (fun _ => False) ⟨rfl, HIN.out _ (by simp)⟩ (fun _ h => h.elim) HBY.out HB3.out.size ?_); intro v9 w9 hown9 hb9 _ _))
            go_roundw
            case rel => exact ⟨k + 1, out ++ [x.lo], by omega, by go_num, hown9, Lib.hid HT.out.symm, Lib.hid (by have := HOL.out; rw [List.length_append]; simp only [List.length_cons, List.length_nil]; omega), Lib.hid (HB3.out.trans hb9)⟩
            case measure => simp [intOf]; omega
    · have HQ : Hid (clipTo ns b.doms = out) := Lib.hid (by rw [HO.out, List.take_of_length_le (by omega)])
      obtain ⟨A9, l9, rfl⟩ := hown.value
      clear hN hF
      go_wp2
      go_ret
      exact ⟨_, rfl, by rw [HQ.out]; exact hown.lower hb0.out.size, hbw⟩

end Go.Proofs.Ytlopccnehgolnab
