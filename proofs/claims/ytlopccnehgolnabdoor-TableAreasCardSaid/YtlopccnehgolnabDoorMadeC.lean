
/- Contract of the reference's made, at AreaOf's closure. -/
import Derived.Test.YtlopccnehgolnabDoorMade
namespace Go.Proofs.YtlopccnehgolnabDoor
open Go.RowKit Rb

set_option maxRecDepth 100000 in
set_option maxHeartbeats 6400000 in
theorem made_AreaOf (p : Int → Bool) (v1 v2 v3 : Value) {S : Nat → Prop} {A : Option Addr} {c : Nat} {E : List Int} (w : World) (hIs : IsE E) (hE : Elems rInt w S A E)
    (hp : ∀ (n : Int) (w' : World), -1000000 ≤ n → n ≤ 1000000 → Below w.heap.size w w' → Calls Tryd.prog 41 #[.int .i64 n, v1, v2, v3] w' fun e w'' => e = .returned (.bool (p n)) ∧ Below w'.heap.size w' w'') :
    Calls Tryd.prog 39 #[.slice A E.length c, .func (.func 41) #[] #[v1, v2, v3]] w fun e w' => ∃ u, e = .returned u ∧ Own rRg 72 w' w.heap.size (fun _ => False) u (madeL p E []) ∧ Below w.heap.size w w' := by
  have hlen := IsE_len hIs
  have HP := Lib.hid hp
  have HI := Lib.hid hIs
  clear hp hIs
  go_enter Tryd.func39, Tryd.ntmps39
  go_wp2
  go_loopw [5, 12] (fun o i wr => ∃ (k : Nat) (out : List Rg), k ≤ E.length ∧ i = .int .i64 k ∧ Own rRg 72 wr w.heap.size (fun _ => False) o out ∧ Hid (madeL p E [] = madeL p (E.drop k) out) ∧ out.length ≤ k ∧ OutOk out ∧ Below w.heap.size w wr) (fun _ i _ => E.length - (intOf i).toNat)
  case atStart => exact ⟨0, [], Nat.zero_le _, rfl, Own.nil _ _ _ _ _, Lib.hid rfl, by simp, fun x hx => by simp at hx, Below.refl _ _⟩
  case round =>
    obtain ⟨k, out, hk, rfl, hown, HM, hol, hok, hbl⟩ := hrel
    by_cases hlt : k < E.length
    · obtain ⟨b, off, n, rfl, _, hb, hx, hni, h1⟩ := hE.int hlt
      have hn := HI.out.2 n (List.mem_of_getElem? hx)
      have hn' : -1000000 ≤ n ∧ n ≤ 1000000 := hn
      rw [← hbl.cell (p := ⟨b, _, none⟩) hb] at h1
      obtain ⟨e, he, hcase⟩ : ∃ e, endOf (E.drop (k + 1)) = e ∧ ((k + 1 = E.length ∧ e = 1000000) ∨ (k + 1 < E.length ∧ ∃ m : Int, e = m - 1 ∧ -1000000 ≤ m ∧ m ≤ 1000000 ∧ wr.cell? ⟨b, off + (k + 1), none⟩ = some (.int .i64 m))) := by
        refine ⟨_, rfl, ?_⟩
        rcases Nat.lt_or_ge (k + 1) E.length with h2 | h2
        · obtain ⟨b', off', m, hA', _, hb', hx', _, h1'⟩ := hE.int h2
          obtain ⟨rfl, rfl⟩ : b = b' ∧ off = off' := by simpa using hA'
          have hm := HI.out.2 m (List.mem_of_getElem? hx')
          rw [← hbl.cell (p := ⟨b, _, none⟩) hb] at h1'
          exact .inr ⟨h2, m, by rw [drop_cons hx']; rfl, hm.1, hm.2, h1'⟩
        · exact .inl ⟨by omega, by rw [List.drop_eq_nil_of_le h2]; rfl⟩
      have hebd : -1000001 ≤ e ∧ e ≤ 1000000 := by
        rcases hcase with ⟨_, h⟩ | ⟨_, m, h, h2, h3, _⟩ <;> omega
      have hm : madeL p E [] = madeL p (E.drop (k + 1)) (if p n then pushM out n e else out) := by rw [HM.out, drop_cons hx, madeL_cons, he]
      have HM2 := Lib.hid hm
      have hok2 : OutOk (pushM out n e) := hok.push hn'.1 hn'.2 hebd.1 hebd.2
      have hol2 := pushM_len out n e
      have HOk2 := Lib.hid hok2
      have HC := Lib.hid (HP.out n wr hn'.1 hn'.2 hbl)
      clear hm hx hE he hn hok2
      rcases hcase with ⟨hend, rfl⟩ | ⟨hend, m, rfl, hm1, hm2, h2⟩
      all_goals
        (try have hw3 : IntKind.i64.wrap (m - 1) = m - 1 := IntWalk.i64_in _ (by omega))
        have hw4 : IntKind.i64.wrap (n - 1) = n - 1 := IntWalk.i64_in _ (by omega)
        cases hpn : p n
        · rw [hpn] at HC HM2
          have HM3 := HM2.out
          simp only [Bool.false_eq_true, if_false] at HM3
          have HM4 := Lib.hid HM3
          clear hpn HM3 HM2
          go_wp2_with (first | (go_at_call 41; refine HC.out.mono ?_; rintro e' w2 ⟨rfl, hb2⟩))
          go_roundw
          case rel => exact ⟨k + 1, out, by omega, by go_num, hown.below hb2, HM4, by omega, hok, hbl.trans (hb2.mono hbl.size)⟩
          case measure => simp [intOf]; omega
        · rw [hpn] at HC HM2
          have HM3 := HM2.out
          simp only [if_true] at HM3
          clear hpn HM2
          rcases List.eq_nil_or_concat out with rfl | ⟨init, x, hmx⟩
          · simp only [pushM, List.getLast?_nil] at HM3
            have HM4 := Lib.hid HM3
            clear HM3
            obtain ⟨A3, c3, rfl⟩ := hown.value
            have hown0 : Own rRg 72 wr w.heap.size (fun _ => False) (.slice A3 0 c3) [] := hown
            clear hown
            go_wp2_with (first | (go_at_call 41; refine HC.out.mono ?_; rintro e' w2 ⟨rfl, hb2⟩) | (at_builtin; refine wpList_append_new (R := rRg) (x := (n, _)) el_Rg rfl (.tmp 53) (.tmp 57) rfl rfl (hown0.below hb2) [.int .i64 n, .int .i64 _] rfl (by simp) (fun _ => False) ⟨rfl, hni, ?_⟩ (fun _ h => h.elim) ?_ ?_ ?_; (unfold InI; omega); (((try simp only [rRg, List.length_nil]) <;> omega)); (exact Nat.le_trans hbl.size hb2.size); intro v1 w1 hown1 hb1 _ _))
            go_roundw
            case rel => exact ⟨k + 1, _, by omega, by go_num, hown1, HM4, by simp, HOk2.out, (hbl.trans (hb2.mono hbl.size)).trans hb1⟩
            case measure => simp [intOf]; omega
          · rw [List.concat_eq_append] at hmx
            subst hmx
            rcases hown.form with ⟨_, he⟩ | ⟨g, cap, rfl, hgb, hgl⟩
            · exact absurd he (by simp)
            obtain ⟨_, hE3⟩ := hown.elems (by decide) rfl
            have hil : (init ++ [x]).length = init.length + 1 := by simp
            obtain ⟨b3, off3, xlo, xup, hA3, _, _, hx3, hxi, _, h3, h4⟩ := hE3.rg (i := init.length) (by omega)
            obtain ⟨rfl, rfl⟩ : g = b3 ∧ 0 = off3 := by simpa using hA3
            obtain rfl : x = (xlo, xup) := by simpa using hx3
            have hxk := hok (xlo, xup) (by simp)
            dsimp only at hxk
            clear hx3 hA3 hE3
            simp only [pushM, List.getLast?_concat, List.dropLast_concat] at HM3
            have HXC : Hid (∀ w2, Below wr.heap.size wr w2 → w2.cell? ⟨g, ((init ++ [(xlo, xup)]).length - 1) * 2 + 1, none⟩ = some (.int .i64 xup) ∧ w2.frozen? ⟨g, ((init ++ [(xlo, xup)]).length - 1) * 2 + 1, none⟩ = false) := Lib.hid (fun w2 hb2 => by
              rw [hb2.cell (p := ⟨g, _, none⟩) hgl, hb2.frozen (p := ⟨g, _, none⟩) hgl, hil, Nat.add_sub_cancel]
              exact ⟨by rw [← h4]; simp, hown.free rfl _⟩)
            generalize hNn : (init ++ [(xlo, xup)]).length = N at *
            have hN1 : 0 < N := by omega
            have hN2 : N - 1 < N := by omega
            have HN1 := Lib.hid hNn
            have HN3 : Hid (N - 1 = init.length) := Lib.hid (by omega)
            clear hNn hil h3 h4
            have hd : decide (0 < N) = true := by simp; omega
            have hw1 : IntKind.i64.wrap ((N : Int) - 1) = ((N - 1 : Nat) : Int) := by rw [IntWalk.i64_in _ (by omega)]; omega
            by_cases ht : xup = n - 1
            · rw [if_pos ht] at HM3
              have HM4 := Lib.hid HM3
              clear HM3
              have ht2 : (xup == n - 1) = true := by simp [ht]
              have hok3 := HOk2.out
              simp only [pushM, List.getLast?_concat, List.dropLast_concat] at hok3
              rw [if_pos ht] at hok3
              have HOk3 := Lib.hid hok3
              clear hok3
              have HT := Lib.hid ht
              clear ht
              have HSet := fun (w2 : World) (hb2 : Below wr.heap.size wr w2) (e : Int) (he : InI e) => by
                have h5 := Own.set (hown.below hb2) (g := g) (cap := cap) (by rw [HN1.out]) (i := init.length) (j := 1) (x' := (xlo, e)) (u := .int .i64 e) (by simp) (by decide) (fun es S' hr => by
                  obtain ⟨rfl, hr1, hr2⟩ := hr
                  simp only [List.getElem_concat_length] at hr1 hr2 ⊢
                  exact ⟨rfl, hr1, he⟩)
                have h6 : Own rRg 72 (w2.setCell ⟨g, (N - 1) * 2 + 1, none⟩ (.int .i64 e)) w.heap.size (fun _ => False) (.slice (some ⟨g, 0, none⟩) N cap) (init ++ [(xlo, e)]) := by
                  rw [HN3.out]
                  simp at h5
                  exact h5
                exact h6
              have HS2 := Lib.hid HSet
              clear HSet
              go_wp2_with (first | (go_at_call 41; refine HC.out.mono ?_; rintro e' w2 ⟨rfl, hb2⟩; have hxc := (HXC.out w2 hb2).1; have hxf := (HXC.out w2 hb2).2))
              go_roundw
              case rel => exact ⟨k + 1, _, by omega, by go_num, HS2.out w2 hb2 _ (by unfold InI; omega), HM4, by have := HN1.out; simp at this ⊢; omega, HOk3.out, (hbl.trans (hb2.mono hbl.size)).setCell (p := ⟨g, _, none⟩) hgb _⟩
              case measure => simp [intOf]; omega
            · rw [if_neg ht] at HM3
              have hok3 := HOk2.out
              simp only [pushM, List.getLast?_concat, List.dropLast_concat] at hok3
              rw [if_neg ht] at hok3
              have HOk3 := Lib.hid hok3
              have HM4 := Lib.hid HM3
              clear HM3 hok3
              have ht2 : (xup == n - 1) = false := by simp [ht]
              clear ht
              go_wp2_with (first | (go_at_call 41; refine HC.out.mono ?_; rintro e' w2 ⟨rfl, hb2⟩; have hxc := (HXC.out w2 hb2).1; have hxf := (HXC.out w2 hb2).2) | (at_builtin; refine wpList_append_new (R := rRg) (x := (n, _)) el_Rg rfl (.tmp 53) (.tmp 57) rfl rfl (hown.below hb2) [.int .i64 n, .int .i64 _] rfl (by simp) (fun _ => False) ⟨rfl, hni, ?_⟩ (fun _ h => h.elim) ?_ ?_ ?_; (unfold InI; omega); ((have := HN1.out); ((try simp only [rRg]) <;> omega)); (exact Nat.le_trans hbl.size hb2.size); intro v1 w1 hown1 hb1 _ _))
              go_roundw
              case rel => exact ⟨k + 1, _, by omega, by go_num, hown1, HM4, by have := HN1.out; simp at this ⊢; omega, HOk3.out, (hbl.trans (hb2.mono hbl.size)).trans hb1⟩
              case measure => simp [intOf]; omega
    · rw [List.drop_eq_nil_of_le (by omega)] at HM
      go_wp2
      go_ret
      exact ⟨_, rfl, by rw [HM.out]; exact hown, hbl⟩

end Go.Proofs.YtlopccnehgolnabDoor
