
/- Contracts of the reference's edges. -/
import Derived.Test.YtlopccnehgolnabDoorSpanD
import Derived.Test.YtlopccnehgolnabDoorRefMath
import Derived.Deep.RegionHeld3
import Derived.Deep.RegionLaw
import Derived.BigRegion
namespace Go.Proofs.YtlopccnehgolnabDoor
open Go.RowKit Rb

def rInts : Rd (List Int) := rSl rInt
theorem el_Int : ElemOf Tryd.prog rInt 75 3 := .mk' Tryd.underlying75 (z := .int .i64 0) (k := 1) (b := 8) (by kernel_rfl) rfl rfl rfl (by decide) (by decide)

theorem Elems.int {w : World} {S : Nat → Prop} {A : Option Addr} {l : List Int} (h : Elems rInt w S A l) {i : Nat} (hi : i < l.length) : ∃ b off n, A = some ⟨b, off, none⟩ ∧ S b ∧ b < w.heap.size ∧ l[i]? = some n ∧ InI n ∧
    w.cell? ⟨b, off + i, none⟩ = some (.int .i64 n) := by
  obtain ⟨b, off, es, hA, hS, hb, ⟨rfl, h1⟩, hc⟩ := h i l[i] (List.getElem?_eq_getElem hi)
  refine ⟨b, off, l[i], hA, hS, hb, List.getElem?_eq_getElem hi, h1, ?_⟩
  have := hc 0 _ rfl
  simpa [rInt] using this

theorem setCell_one {w : World} {p : Nat} {t : TypeId} {v : Value} (h : w.heap[p]? = some (.cells #[v] t (0, 0))) (u : Value) : (w.setCell ⟨p, 0, none⟩ u).heap[p]? = some (.cells #[u] t (0, 0)) := by
  simp [World.setCell, Array.getElem?_modify, h]
theorem Own.setFlat {α : Type} {R : Rd α} {e : TypeId} {w : World} {base : Nat} {S0 : Nat → Prop} {v : Value} {xs : List α} (h : Own R e w base S0 v xs) (hF : Flat R) {a : Addr} (ha : a.block < base) (u : Value) :
    Own R e (w.setCell a u) base (fun _ => False) v xs := by
  obtain ⟨S, ⟨cells, h1, h2, h3, h4⟩, h5⟩ := h
  exact ⟨fun _ => False, ⟨cells, ownsRow_setCell_below h1 ha u, fun _ _ h => h, h3, fun i x hx => hF _ _ _ _ _ _ (h4 i x hx)⟩, fun _ h => h.elim⟩

theorem Own.cap {α : Type} {R : Rd α} {e : TypeId} {w : World} {base : Nat} {S0 : Nat → Prop} {v : Value} {xs : List α} (h : Own R e w base S0 v xs) {A : Option Addr} {n c : Nat} (hv : v = .slice A n c) : xs.length ≤ c ∧ c ≤ maxLen := by
  obtain ⟨S, ⟨cells, h1, _⟩, _⟩ := h
  rcases h1.2 with ⟨hn, h0⟩ | ⟨g, cap, cur, hv', hb, hh, hnc, hcm, _⟩
  · rw [hn] at hv; injection hv with _ _ hc; subst hc
    exact ⟨by omega, by decide⟩
  · rw [hv'] at hv; injection hv with _ _ hc; subst hc
    exact ⟨hnc, hcm⟩
theorem Elems.dropInt {w : World} {S : Nat → Prop} {b off : Nat} {xs : List Int} (h : Elems rInt w S (some ⟨b, off, none⟩) xs) (k : Nat) : Elems rInt w S (some ⟨b, off + k, none⟩) (xs.drop k) := by
  have h1 := h.drop k
  have hadd : (⟨b, off, none⟩ : Addr).add (k * rInt.k) = ⟨b, off + k, none⟩ := by
    rw [show rInt.k = 1 from rfl, Nat.mul_one]
    unfold Addr.add; split <;> simp_all
  rw [Option.map_some, hadd] at h1
  exact h1
theorem Elems.of_len0 {α : Type} {R : Rd α} {w : World} {S : Nat → Prop} {A : Option Addr} {xs : List α} (h : xs.length = 0) : Elems R w S A xs := by
  intro i x hx
  rw [List.eq_nil_of_length_eq_zero h] at hx
  simp at hx

/-- What 'add' leaves in the captured list. -/
theorem flat_Int : Flat rInt := fun _ _ _ _ _ _ h => h
def AddPost (w : World) (p : Nat) (v : Value) (l' : List Int) (e : Ending) (w' : World) : Prop :=
  e = .returned (.tuple #[]) ∧ ∃ v', w'.heap[p]? = some (.cells #[v'] 75 (0, 0)) ∧ Own rInt 3 w' (p + 1) (fun _ => False) v' l' ∧ Below p w w' ∧
    (∀ j, j < w.heap.size → j ≠ p → v.ownBlock ≠ some j → w'.heap[j]? = w.heap[j]?) ∧ (v'.ownBlock = v.ownBlock ∨ ∃ g, v'.ownBlock = some g ∧ w.heap.size ≤ g)
theorem ownBlock_slice (A : Option Addr) (n c : Nat) : (Value.slice A n c).ownBlock = A.map (·.block) := by cases A <;> rfl

theorem add_no (n : Int) (h : isNum n = false) (p : Nat) (w : World) (v : Value) (l : List Int) (hp : w.heap[p]? = some (.cells #[v] 75 (0, 0))) (hown : Own rInt 3 w (p + 1) (fun _ => False) v l) :
    Calls Tryd.prog 63 #[.int .i64 n, .pointer (some ⟨p, 0, none⟩)] w (AddPost w p v (addE n l)) := by
  have hq : addE n l = l := by simp [addE, h]
  rw [hq]
  have HC := Lib.hid (isNumber_any n w)
  rw [h] at HC
  clear hq h
  go_enter Tryd.func63, Tryd.ntmps63
  go_wp2_with (first | (go_at_call 31; refine HC.out.mono ?_; rintro e w' ⟨rfl, rfl⟩))
  refine bodyPost_ret (results_none rfl _ _ _) rfl ?_
  exact ⟨rfl, v, hp, hown, Below.refl _ _, fun _ _ _ _ => rfl, .inl rfl⟩

set_option maxHeartbeats 1600000 in
theorem add_yes (n : Int) (h : isNum n = true) (p : Nat) (w : World) (v : Value) (l : List Int) (hp : w.heap[p]? = some (.cells #[v] 75 (0, 0))) (hown : Own rInt 3 w (p + 1) (fun _ => False) v l) (hIs : IsE l) :
    Calls Tryd.prog 63 #[.int .i64 n, .pointer (some ⟨p, 0, none⟩)] w (AddPost w p v (addE n l)) := by
  have hlen := IsE_len hIs
  have hq : addE n l = insE n l := by simp [addE, h]
  rw [hq]
  have HC := Lib.hid (isNumber_any n w)
  rw [h] at HC
  have hnn := (isNum_iff n).1 h
  clear hq h
  obtain ⟨A, c, rfl⟩ := hown.value
  obtain ⟨_, hE⟩ := hown.elems (by decide) rfl
  have hcp : w.cell? ⟨p, 0, none⟩ = some (.slice A l.length c) := cell_of_row w p 0 _ _ _ hp
  go_enter Tryd.func63, Tryd.ntmps63
  go_wp2_with (first | (go_at_call 31; refine HC.out.mono ?_; rintro e w' ⟨rfl, rfl⟩))
  go_loop [3] (fun i => ∃ k : Nat, k ≤ l.length ∧ i = .int .i64 k ∧ Hid (∀ x ∈ l.drop k, n < x)) (fun i => (intOf i).toNat)
  case atStart => exact ⟨l.length, Nat.le_refl _, rfl, Lib.hid (by simp)⟩
  case round =>
    obtain ⟨k, hk, rfl, HD⟩ := hrel
    have hin : InI n := by unfold InI; omega
    have hpl : p < w.heap.size := (Array.getElem?_eq_some_iff.1 hp).1
    have hfz : w.frozen? ⟨p, 0, none⟩ = false := by simp [World.frozen?, hp]
    rcases Nat.eq_zero_or_pos k with h0 | h0
    · have hd : decide (0 < k) = false := by simp; omega
      subst h0
      have HF : Hid (insE n l = l.take 0 ++ ([n] ++ l)) := Lib.hid (by rw [insE_at n l 0 (by simp) HD.out]; simp)
      go_wp2
      go_region_law (first | (refine step_append_many (R := rInt) el_Int rfl (.tmp 33) (.tmp 36) rfl rfl (by exact (Own.fresh (R := rInt) (x := n) (S0 := fun _ => False) (by decide) [.int .i64 n] ⟨rfl, hin⟩ (by decide) rfl).drew) rfl (ys := l) (S2 := Up (fun _ => False) (p + 1)) (fun _ => False) rfl (by exact ((hown.alloc _).drew.elems (by decide) rfl).2) (fun _ _ h => flat_Int _ _ _ _ _ _ h) (fun _ h => h.elim) (by (simp only [rInt, List.length_singleton]; omega)) (by simp) ?_; intro v1 w1 hown1 hb1 _ _; have hc1 : w1.cell? ⟨p, 0, none⟩ = some (.slice A l.length c) := by (rw [hb1.cell (p := ⟨p, 0, none⟩) hpl]; go_keep)) | (obtain ⟨A1, c1, rfl⟩ := hown1.value; refine step_append_many (R := rInt) (v := .slice A 0 c) el_Int rfl (.tmp 31) (.tmp 37) rfl rfl (by exact (hown.below ((((Below.refl _ _).alloc (Nat.le_refl _) _).drew).trans hb1)).take rfl hk) rfl (ys := [n] ++ l) (S2 := Up (fun _ => False) w.heap.size) (fun _ => False) rfl (by exact (hown1.elems (by decide) rfl).2) (fun _ _ h => flat_Int _ _ _ _ _ _ h) (fun _ h => h.elim) (by (simp [rInt]; omega)) (by (have := hb1.size; simp at this; omega)) ?_; intro v2 w2 hown2 hb2 hg2 hat2; have hc2 : w2.cell? ⟨p, 0, none⟩ = some (.slice A l.length c) := (hb2.cell (p := ⟨p, 0, none⟩) (Nat.lt_succ_self p)).trans hc1; have hf2 : w2.frozen? ⟨p, 0, none⟩ = false := ((hb2.frozen (p := ⟨p, 0, none⟩) (Nat.lt_succ_self p)).trans (hb1.frozen (p := ⟨p, 0, none⟩) hpl)).trans ((((Below.refl w.heap.size w).alloc (Nat.le_refl _) _).drew.frozen (p := ⟨p, 0, none⟩) hpl).trans hfz); obtain ⟨A2, c2, rfl⟩ := hown2.value))
      all_goals
        refine bodyPost_end (results_none rfl _ _ _) rfl ?_
        have hpw : w2.heap[p]? = some (.cells #[.slice A l.length c] 75 (0, 0)) :=
          (hb2.block p (Nat.lt_succ_self p)).trans ((hb1.block p hpl).trans ((((Below.refl w.heap.size w).alloc (Nat.le_refl _) _).drew.block p hpl).trans hp))
        refine ⟨rfl, _, setCell_one hpw _, ?_, ((((((Below.refl w.heap.size w).alloc (Nat.le_refl _) _).drew.trans hb1).mono (Nat.le_of_lt hpl)).trans (hb2.mono (Nat.le_succ p))).setCell (p := ⟨p, 0, none⟩) (Nat.le_refl p) _), ?frame, ?own⟩
        rw [HF.out]
        refine Own.setFlat (S0 := fun _ => False) ?_ flat_Int (Nat.lt_succ_self p) _
        simpa using hown2
        case frame =>
          intro j hj hjp hjo
          rw [Below.heap_setCell _ _ _ _ hjp]
          exact (hg2.block j (Nat.lt_of_lt_of_le (by simp; omega) hb1.size) (fun e => hjo (by simp only [ownBlock_slice] at e ⊢; exact e.symm))).trans ((hb1.block j hj).trans (((Below.refl w.heap.size w).alloc (Nat.le_refl _) _).drew.block j hj))
        case own =>
          rcases hat2 with h | h
          · exact .inl (by simp only [ownBlock_slice] at h ⊢; exact h)
          · exact .inr ⟨_, by simp only [ownBlock_slice] at h ⊢; exact h, by have := hb1.size; simp at this; omega⟩
    · have hd : decide (0 < k) = true := by simp; omega
      have hkl : k - 1 < l.length := by omega
      obtain ⟨b, off, y, rfl, _, hb, hy, hyi, hyc⟩ := hE.int hkl
      have hw1 : IntKind.i64.wrap ((k : Int) - 1) = ((k - 1 : Nat) : Int) := by rw [IntWalk.i64_in _ (by omega)]; omega
      have HY := Lib.hid hy
      clear hy
      rcases Int.lt_trichotomy y n with hlt | heq | hgt
      · have hd1 : decide (n ≤ y) = false := by simp; omega
        have HT : Hid (∀ x ∈ l.take k, x < n) := Lib.hid (by have := sorted_take hIs.1 HY.out hlt; rwa [show k - 1 + 1 = k by omega] at this)
        have HF : Hid (insE n l = l.take k ++ ([n] ++ l.drop k)) := Lib.hid (by rw [insE_at n l k HT.out HD.out]; simp)
        have hcap := (hown.cap rfl).1
        have hkc : k ≤ c := by omega
        by_cases hck : c = k
        · obtain rfl : k = c := hck.symm
          clear hck
          go_wp2
          go_region_law (first | (refine step_append_many (R := rInt) (v := .slice (some ⟨b, off, none⟩) k k) el_Int rfl (.tmp 31) (.tmp 37) rfl rfl (by exact ((hown.alloc _).drew).take rfl hk) rfl (ys := [n]) (S2 := Up (fun _ => False) w.heap.size) (fun _ => False) rfl (by exact ((Own.fresh (R := rInt) (x := n) (S0 := fun _ => False) (by decide) [.int .i64 n] ⟨rfl, hin⟩ (by decide) rfl).drew.elems (by decide) rfl).2) (fun _ _ h => flat_Int _ _ _ _ _ _ h) (fun _ h => h.elim) (by (simp [rInt]; omega)) (by (simp; omega)) ?_; intro v2 w2 hown2 hb2 hg2 hat2; have hc2 : w2.cell? ⟨p, 0, none⟩ = some (.slice (some ⟨b, off, none⟩) l.length k) := (hb2.cell (p := ⟨p, 0, none⟩) (Nat.lt_succ_self p)).trans ((((Below.refl w.heap.size w).alloc (Nat.le_refl _) _).drew.cell (p := ⟨p, 0, none⟩) hpl).trans hcp); have hf2 : w2.frozen? ⟨p, 0, none⟩ = false := (hb2.frozen (p := ⟨p, 0, none⟩) (Nat.lt_succ_self p)).trans ((((Below.refl w.heap.size w).alloc (Nat.le_refl _) _).drew.frozen (p := ⟨p, 0, none⟩) hpl).trans hfz); obtain ⟨A2, c2, rfl⟩ := hown2.value))
          all_goals
            refine bodyPost_end (results_none rfl _ _ _) rfl ?_
            have hpw : w2.heap[p]? = some (.cells #[.slice (some ⟨b, off, none⟩) l.length k] 75 (0, 0)) :=
              (hb2.block p (Nat.lt_succ_self p)).trans ((((Below.refl w.heap.size w).alloc (Nat.le_refl _) _).drew.block p hpl).trans hp)
            refine ⟨rfl, _, setCell_one hpw _, ?_, ((((((Below.refl w.heap.size w).alloc (Nat.le_refl _) _).drew).mono (Nat.le_of_lt hpl)).trans (hb2.mono (Nat.le_succ p))).setCell (p := ⟨p, 0, none⟩) (Nat.le_refl p) _), ?frame, ?own⟩
            rw [HF.out]
            refine Own.setFlat (S0 := fun _ => False) ?_ flat_Int (Nat.lt_succ_self p) _
            rw [List.drop_eq_nil_of_le (show l.length ≤ k by omega)]
            simpa [Nat.min_eq_left hk] using hown2
            case frame =>
              intro j hj hjp hjo
              rw [Below.heap_setCell _ _ _ _ hjp]
              exact (hg2.block j (by simp; omega) (fun e => hjo (by simp only [ownBlock_slice] at e ⊢; exact e.symm))).trans (((Below.refl w.heap.size w).alloc (Nat.le_refl _) _).drew.block j hj)
            case own =>
              rcases hat2 with h | h
              · exact .inl (by simp only [ownBlock_slice] at h ⊢; exact h)
              · exact .inr ⟨w.heap.size + 1, by simp only [ownBlock_slice] at h ⊢; simpa using h, by omega⟩
        · go_wp2
          go_region_law (first | (refine step_append_many (R := rInt) el_Int rfl (.tmp 33) (.tmp 36) rfl rfl (by exact (Own.fresh (R := rInt) (x := n) (S0 := fun _ => False) (by decide) [.int .i64 n] ⟨rfl, hin⟩ (by decide) rfl).drew) rfl (ys := l.drop k) (S2 := Up (fun _ => False) (p + 1)) (fun _ => False) (by simp) (by exact ((hown.alloc _).drew.elems (by decide) rfl).2.dropInt k) (fun _ _ h => flat_Int _ _ _ _ _ _ h) (fun _ h => h.elim) (by (simp only [rInt, List.length_singleton]; omega)) (by simp) ?_; intro v1 w1 hown1 hb1 _ _; have hc1 : w1.cell? ⟨p, 0, none⟩ = some (.slice (some ⟨b, off, none⟩) l.length c) := by (rw [hb1.cell (p := ⟨p, 0, none⟩) hpl]; go_keep)) | (obtain ⟨A1, c1, rfl⟩ := hown1.value; refine step_append_many (R := rInt) (v := .slice (some ⟨b, off, none⟩) k c) el_Int rfl (.tmp 31) (.tmp 37) rfl rfl (by exact (hown.below ((((Below.refl _ _).alloc (Nat.le_refl _) _).drew).trans hb1)).take rfl hk) rfl (ys := [n] ++ l.drop k) (S2 := Up (fun _ => False) w.heap.size) (fun _ => False) rfl (by exact (hown1.elems (by decide) rfl).2) (fun _ _ h => flat_Int _ _ _ _ _ _ h) (fun _ h => h.elim) (by (simp [rInt]; omega)) (by (have := hb1.size; simp at this; omega)) ?_; intro v2 w2 hown2 hb2 hg2 hat2; have hc2 : w2.cell? ⟨p, 0, none⟩ = some (.slice (some ⟨b, off, none⟩) l.length c) := (hb2.cell (p := ⟨p, 0, none⟩) (Nat.lt_succ_self p)).trans hc1; have hf2 : w2.frozen? ⟨p, 0, none⟩ = false := ((hb2.frozen (p := ⟨p, 0, none⟩) (Nat.lt_succ_self p)).trans (hb1.frozen (p := ⟨p, 0, none⟩) hpl)).trans ((((Below.refl w.heap.size w).alloc (Nat.le_refl _) _).drew.frozen (p := ⟨p, 0, none⟩) hpl).trans hfz); obtain ⟨A2, c2, rfl⟩ := hown2.value))
          all_goals
            refine bodyPost_end (results_none rfl _ _ _) rfl ?_
            have hpw : w2.heap[p]? = some (.cells #[.slice (some ⟨b, off, none⟩) l.length c] 75 (0, 0)) :=
              (hb2.block p (Nat.lt_succ_self p)).trans ((hb1.block p hpl).trans ((((Below.refl w.heap.size w).alloc (Nat.le_refl _) _).drew.block p hpl).trans hp))
            refine ⟨rfl, _, setCell_one hpw _, ?_, ((((((Below.refl w.heap.size w).alloc (Nat.le_refl _) _).drew.trans hb1).mono (Nat.le_of_lt hpl)).trans (hb2.mono (Nat.le_succ p))).setCell (p := ⟨p, 0, none⟩) (Nat.le_refl p) _), ?frame, ?own⟩
            rw [HF.out]
            refine Own.setFlat (S0 := fun _ => False) ?_ flat_Int (Nat.lt_succ_self p) _
            simpa [Nat.min_eq_left hk] using hown2
            case frame =>
              intro j hj hjp hjo
              rw [Below.heap_setCell _ _ _ _ hjp]
              exact (hg2.block j (Nat.lt_of_lt_of_le (by simp; omega) hb1.size) (fun e => hjo (by simp only [ownBlock_slice] at e ⊢; exact e.symm))).trans ((hb1.block j hj).trans (((Below.refl w.heap.size w).alloc (Nat.le_refl _) _).drew.block j hj))
            case own =>
              rcases hat2 with h | h
              · exact .inl (by simp only [ownBlock_slice] at h ⊢; exact h)
              · exact .inr ⟨_, by simp only [ownBlock_slice] at h ⊢; exact h, by have := hb1.size; simp at this; omega⟩
      · subst heq
        have HF : Hid (insE y l = l) := Lib.hid (insE_mem y l hIs.1 (List.mem_of_getElem? HY.out))
        go_wp2
        refine bodyPost_ret (results_none rfl _ _ _) rfl ?_
        refine ⟨rfl, _, hp, ?_, Below.refl _ _, fun _ _ _ _ => rfl, .inl rfl⟩
        rw [HF.out]
        exact hown
      · have hd1 : decide (n ≤ y) = true := by simp; omega
        have hd2 : (y == n) = false := by simp; omega
        have HD' : Hid (∀ x ∈ l.drop (k - 1), n < x) := Lib.hid (fun x hx => by
          rw [drop_cons HY.out, show k - 1 + 1 = k by omega] at hx
          rcases List.mem_cons.1 hx with rfl | hx
          · exact hgt
          · exact HD.out x hx)
        go_wp2
        go_round
        case rel => exact ⟨k - 1, by omega, rfl, HD'⟩
        case measure => simp [intOf]; omega

end Go.Proofs.YtlopccnehgolnabDoor
