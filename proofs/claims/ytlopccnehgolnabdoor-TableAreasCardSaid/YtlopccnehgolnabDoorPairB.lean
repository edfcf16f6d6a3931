
/- Contract of Both: the set of what is in two sets. -/
import Derived.Test.YtlopccnehgolnabDoorSort
import Derived.Test.YtlopccnehgolnabDoorPairMath
import Derived.Deep.RegionLaw
import Derived.BigRegion
import Derived.BigQuiet
namespace Go.Proofs.YtlopccnehgolnabDoor
open Go.RowKit Rb

theorem flat_Rg : Flat rRg := fun _ _ _ _ _ _ h => h
theorem drop_at {α : Type} {l : List α} {k : Nat} {x : α} (h : l[k]? = some x) : l.drop k = x :: l.drop (k + 1) := by
  obtain ⟨hk, rfl⟩ := List.getElem?_eq_some_iff.1 h
  exact List.drop_eq_getElem_cons hk

set_option maxRecDepth 100000 in
set_option maxHeartbeats 3200000 in
theorem Both_any {S T : Nat → Prop} {v u : Value} {a b : List Rg} (w : World) (hl : rRgs.rel w S [v] a) (hm : rRgs.rel w T [u] b) (ga : GoodS a) (gb : GoodS b) :
    Calls Tryd.prog 37 #[v, u] w fun e w' => ∃ x, e = .returned x ∧ Own rRg 72 w' w.heap.size (fun _ => False) x (bothS a b) ∧ Below w.heap.size w w' := by
  obtain ⟨A, c, rfl, _, _, hn, hE⟩ := rRgs.elems hl
  obtain ⟨A', c', rfl, _, _, hn', hE'⟩ := rRgs.elems hm
  clear hl hm
  have hla := GoodS_length ga
  have hlb := GoodS_length gb
  have GA := Lib.hid ga
  have GB := Lib.hid gb
  clear ga gb
  go_enter Tryd.func37, Tryd.ntmps37
  go_wp2
  go_loopw [5, 6, 7] (fun o i j wr => ∃ (x y : Nat) (out : List Rg), x ≤ a.length ∧ y ≤ b.length ∧ i = .int .i64 x ∧ j = .int .i64 y ∧ Own rRg 72 wr w.heap.size (fun _ => False) o out ∧ out.length ≤ x + y ∧ Hid (InvB a b (a.drop x) (b.drop y) out) ∧ Below w.heap.size w wr) (fun _ i j _ => (a.length - (intOf i).toNat) + (b.length - (intOf j).toNat))
  case atStart => exact ⟨0, 0, [], Nat.zero_le _, Nat.zero_le _, rfl, rfl, Own.nil _ _ _ _ _, by simp, Lib.hid (fun n => by simp [hasL]), Below.refl _ _⟩
  case round =>
    obtain ⟨x, y, out, hx, hy, rfl, rfl, hown, hol, HI, hbl⟩ := hrel
    by_cases hlt : x < a.length
    · by_cases hlt' : y < b.length
      · obtain ⟨p, off, lo, up, rfl, _, hb, hxx, _, _, h1, h2⟩ := hE.rg hlt
        obtain ⟨p', off', lo', up', rfl, _, hb', hxx', _, _, h1', h2'⟩ := hE'.rg hlt'
        rw [← hbl.cell (p := ⟨p, _, none⟩) hb] at h1 h2
        rw [← hbl.cell (p := ⟨p', _, none⟩) hb'] at h1' h2'
        have HI2 : Hid (InvB a b ((lo, up) :: a.drop (x + 1)) ((lo', up') :: b.drop (y + 1)) out) := by rw [← drop_at hxx, ← drop_at hxx']; exact HI
        have HA : Hid (∃ q, GoodFrom q ((lo, up) :: a.drop (x + 1))) := Lib.hid (by rw [← drop_at hxx]; exact GoodFrom.drop x GA.out)
        have HB : Hid (∃ q, GoodFrom q ((lo', up') :: b.drop (y + 1))) := Lib.hid (by rw [← drop_at hxx']; exact GoodFrom.drop y GB.out)
        have hd := drop_at hxx
        have hd' := drop_at hxx'
        have HD := Lib.hid hd
        have HD' := Lib.hid hd'
        clear hxx hxx' hE hE' hd hd' HI
        have hi1 : (x : Int) < (a.length : Int) := by omega
        have hi2 : (y : Int) < (b.length : Int) := by omega
        have hp : p < wr.heap.size := Nat.lt_of_lt_of_le hb hbl.size
        have hp' : p' < wr.heap.size := Nat.lt_of_lt_of_le hb' hbl.size
        obtain ⟨x1, e1⟩ : ∃ z, max lo lo' = z := ⟨_, rfl⟩
        obtain ⟨y1, e2⟩ : ∃ z, min up up' = z := ⟨_, rfl⟩
        have hin : InI x1 ∧ InI y1 := by unfold InI at *; omega
        have HM : Hid (x1 = max lo lo' ∧ y1 = min up up') := Lib.hid ⟨e1.symm, e2.symm⟩
        have hw1 : IntKind.i64.wrap ((x : Int) + 1) = ((x + 1 : Nat) : Int) := by rw [IntWalk.i64_in _ (by omega)]; omega
        have hw2 : IntKind.i64.wrap ((y : Int) + 1) = ((y + 1 : Nat) : Int) := by rw [IntWalk.i64_in _ (by omega)]; omega
        have HMa : up < up' → Hid (InvB a b (a.drop (x + 1)) (b.drop y) (putR out (x1, y1))) := fun h => by
          obtain ⟨q, g⟩ := HB.out
          have := HI2.out.stepA g (m := (x1, y1)) HM.out h
          rw [HD'.out]; exact Lib.hid this
        have HMb : ¬ up < up' → Hid (InvB a b (a.drop x) (b.drop (y + 1)) (putR out (x1, y1))) := fun h => by
          obtain ⟨q, g⟩ := HA.out
          have := HI2.out.stepB g (m := (x1, y1)) HM.out h
          rw [HD.out]; exact Lib.hid this
        have HMA := Lib.hid HMa
        have HMB := Lib.hid HMb
        clear HMa HMb HI2 HA HB HD HD' HM
        go_wp2
        go_region
        clear e1 e2
        obtain ⟨wD, eD, hown1, hbd, c1, c2, h3, h3'⟩ : ∃ wD, (wr.alloc (.cells #[.int .i64 x1, .int .i64 y1] 72)).drew = wD ∧ Own rRg 72 wD w.heap.size (fun _ => False) u5 out ∧ Below w.heap.size w wD ∧ wD.cell? ⟨wr.heap.size, 0, none⟩ = some (.int .i64 x1) ∧ wD.cell? ⟨wr.heap.size, 1, none⟩ = some (.int .i64 y1) ∧ wD.cell? ⟨p, off + x * 2 + 1, none⟩ = some (.int .i64 up) ∧ wD.cell? ⟨p', off' + y * 2 + 1, none⟩ = some (.int .i64 up') :=
          ⟨_, rfl, (hown.alloc _).drew, drewN_below (hbl.alloc hbl.size _) 1, World.cell?_alloc_new _ _ _ _, World.cell?_alloc_new _ _ _ _, (World.cell?_alloc_lt _ _ _ hp).trans h2, (World.cell?_alloc_lt _ _ _ hp').trans h2'⟩
        rw [eD]
        clear eD h1 h2 h1' h2' hown hbl
        by_cases hud : up < up'
        · by_cases hc : x1 ≤ y1
          · have HP : Hid (putR out (x1, y1) = out ++ [(x1, y1)]) := Lib.hid (if_pos hc)
            go_wp2_with (first | (at_builtin; go_must (refine wpList_append_new (R := rRg) (x := (x1, y1)) el_Rg rfl (.tmp 47) (.tmp 49) rfl rfl hown1 [.int .i64 x1, .int .i64 y1] rfl rfl (fun _ => False) ⟨rfl, hin⟩ (fun _ h => h.elim) ?_ hbd.size ?_; (((try simp only [rRg]) <;> omega)); intro v1 w1 hown2 hb1 _ _; have k1 : w1.cell? ⟨p, off + x * 2 + 1, none⟩ = some (.int .i64 up) := (hb1.cell (p := ⟨p, _, none⟩) hb).trans h3; have k2 : w1.cell? ⟨p', off' + y * 2 + 1, none⟩ = some (.int .i64 up') := (hb1.cell (p := ⟨p', _, none⟩) hb').trans h3'; clear h3 h3' hown1)))
            go_quiet (fail)
            go_wp2
            go_roundw
            case rel => exact ⟨x + 1, y, out ++ [(x1, y1)], by omega, by omega, by go_num, by go_num, hown2.drewN _, by simp; omega, by rw [← HP.out]; exact (HMA.out hud), drewN_below (hbd.trans hb1) _⟩
            case measure => simp [intOf]; omega
          · have HP : Hid (putR out (x1, y1) = out) := Lib.hid (if_neg hc)
            go_wp2
            go_quiet (fail)
            go_wp2
            go_roundw
            case rel => exact ⟨x + 1, y, out, by omega, by omega, by go_num, by go_num, hown1.drewN _, by omega, by rw [← HP.out]; exact (HMA.out hud), drewN_below hbd _⟩
            case measure => simp [intOf]; omega
        · by_cases hc : x1 ≤ y1
          · have HP : Hid (putR out (x1, y1) = out ++ [(x1, y1)]) := Lib.hid (if_pos hc)
            go_wp2_with (first | (at_builtin; go_must (refine wpList_append_new (R := rRg) (x := (x1, y1)) el_Rg rfl (.tmp 47) (.tmp 49) rfl rfl hown1 [.int .i64 x1, .int .i64 y1] rfl rfl (fun _ => False) ⟨rfl, hin⟩ (fun _ h => h.elim) ?_ hbd.size ?_; (((try simp only [rRg]) <;> omega)); intro v1 w1 hown2 hb1 _ _; have k1 : w1.cell? ⟨p, off + x * 2 + 1, none⟩ = some (.int .i64 up) := (hb1.cell (p := ⟨p, _, none⟩) hb).trans h3; have k2 : w1.cell? ⟨p', off' + y * 2 + 1, none⟩ = some (.int .i64 up') := (hb1.cell (p := ⟨p', _, none⟩) hb').trans h3'; clear h3 h3' hown1)))
            go_quiet (fail)
            go_wp2
            go_roundw
            case rel => exact ⟨x, y + 1, out ++ [(x1, y1)], by omega, by omega, by go_num, by go_num, hown2.drewN _, by simp; omega, by rw [← HP.out]; exact (HMB.out hud), drewN_below (hbd.trans hb1) _⟩
            case measure => simp [intOf]; omega
          · have HP : Hid (putR out (x1, y1) = out) := Lib.hid (if_neg hc)
            go_wp2
            go_quiet (fail)
            go_wp2
            go_roundw
            case rel => exact ⟨x, y + 1, out, by omega, by omega, by go_num, by go_num, hown1.drewN _, by omega, by rw [← HP.out]; exact (HMB.out hud), drewN_below hbd _⟩
            case measure => simp [intOf]; omega
      · have HQ : Hid (normS out = bothS a b) := Lib.hid (by have := HI.out; rw [List.drop_eq_nil_of_le (show b.length ≤ y by omega)] at this; exact this.endB)
        clear HI hE hE'
        obtain ⟨A1, c1, rfl⟩ := hown.value
        have HC := Lib.hid (Norm_any wr (show rRgs.rel _ _ _ _ from hown.rel (by decide)))
        rw [HQ.out] at HC
        clear hown
        go_wp2_with (first | (go_at_call 36; ((with_reducible refine HC.out.mono ?_); rintro e w1 ⟨z, rfl, hoz, hb1⟩)))
        go_ret
        exact ⟨z, rfl, (hoz.flat flat_Rg).lower hbl.size, hbl.trans (hb1.mono hbl.size)⟩

    · have HQ : Hid (normS out = bothS a b) := Lib.hid (by have := HI.out; rw [List.drop_eq_nil_of_le (show a.length ≤ x by omega)] at this; exact this.endA)
      clear HI hE hE'
      obtain ⟨A1, c1, rfl⟩ := hown.value
      have HC := Lib.hid (Norm_any wr (show rRgs.rel _ _ _ _ from hown.rel (by decide)))
      rw [HQ.out] at HC
      clear hown
      go_wp2_with (first | (go_at_call 36; ((with_reducible refine HC.out.mono ?_); rintro e w1 ⟨z, rfl, hoz, hb1⟩)))
      go_ret
      exact ⟨z, rfl, (hoz.flat flat_Rg).lower hbl.size, hbl.trans (hb1.mono hbl.size)⟩

end Go.Proofs.YtlopccnehgolnabDoor
