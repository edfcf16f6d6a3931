/- Contracts of the reference's edges. Contract of the reference's edges. Contract of the reference's made, at each closure that it is given. Contract of the reference's made, at the closures of BothOf and LessOf. -/
import Derived.Test.YtlopccnehgolnabGreatDoorSpanD
import Derived.Test.YtlopccnehgolnabGreatDoorGrB
import Derived.Deep.RegionHeld3
import Derived.Deep.RegionLaw
import Derived.BigRegion
namespace Go.Proofs.YtlopccnehgolnabGreatDoor
open Go.RowKit Rb

def rInts : Rd (List Int) := rSl rInt
theorem el_Int : ElemOf Tryz.prog rInt 23 3 := .mk' Tryz.underlying23 (z := .int .i64 0) (k := 1) (b := 8) (by kernel_rfl) rfl rfl rfl (by decide) (by decide)

theorem Elems.int {w : World} {S : Nat → Prop} {A : Option Addr} {l : List Int} (h : Elems rInt w S A l) {i : Nat} (hi : i < l.length) : ∃ b off n, A = some ⟨b, off, none⟩ ∧ S b ∧ b < w.heap.size ∧ l[i]? = some n ∧ InI n ∧
    w.cell? ⟨b, off + i, none⟩ = some (.int .i64 n) := by
  obtain ⟨b, off, es, hA, hS, hb, ⟨rfl, h1⟩, hc⟩ := h i l[i] (List.getElem?_eq_getElem hi)
  refine ⟨b, off, l[i], hA, hS, hb, List.getElem?_eq_getElem hi, h1, ?_⟩
  have := hc 0 _ rfl
  simpa [rInt] using this

theorem setCell_one {w : World} {p : Nat} {t : TypeId} {v : Value} (h : w.heap[p]? = some (.cells #[v] t (0, 0))) (u : Value) : (w.setCell ⟨p, 0, none⟩ u).heap[p]? = some (.cells #[u] t (0, 0)) := by
  simp [World.setCell, Array.getElem?_modify, h]
theorem Own.setFlat {α : Type} {R : Rd α} {e : TypeId} {w : World} {base : Nat} {S0 : Nat → Prop} {v : Value} {xs : List α} (h : Own R e w base S0 v xs) (hF : Flat R) {a : Addr} (ha : a.block < base) (u : Value) :
    Own R e (w.setCell a u) base (fun _ => False) v xs := by
  obtain ⟨S, ⟨cells, h1, h2, h3, h4⟩, h5⟩ := h
  exact ⟨fun _ => False, ⟨cells, ownsRow_setCell_below h1 ha u, fun _ _ h => h, h3, fun i x hx => hF _ _ _ _ _ _ (h4 i x hx)⟩, fun _ h => h.elim⟩

theorem Own.cap {α : Type} {R : Rd α} {e : TypeId} {w : World} {base : Nat} {S0 : Nat → Prop} {v : Value} {xs : List α} (h : Own R e w base S0 v xs) {A : Option Addr} {n c : Nat} (hv : v = .slice A n c) : xs.length ≤ c ∧ c ≤ maxLen := by
  obtain ⟨S, ⟨cells, h1, _⟩, _⟩ := h
  rcases h1.2 with ⟨hn, h0⟩ | ⟨g, cap, cur, hv', hb, hh, hnc, hcm, _⟩
  · rw [hn] at hv; injection hv with _ _ hc; subst hc
    exact ⟨by omega, by decide⟩
  · rw [hv'] at hv; injection hv with _ _ hc; subst hc
    exact ⟨hnc, hcm⟩
theorem Elems.dropInt {w : World} {S : Nat → Prop} {b off : Nat} {xs : List Int} (h : Elems rInt w S (some ⟨b, off, none⟩) xs) (k : Nat) : Elems rInt w S (some ⟨b, off + k, none⟩) (xs.drop k) := by
  have h1 := h.drop k
  have hadd : (⟨b, off, none⟩ : Addr).add (k * rInt.k) = ⟨b, off + k, none⟩ := by
    rw [show rInt.k = 1 from rfl, Nat.mul_one]
    unfold Addr.add; split <;> simp_all
  rw [Option.map_some, hadd] at h1
  exact h1
theorem Elems.of_len0 {α : Type} {R : Rd α} {w : World} {S : Nat → Prop} {A : Option Addr} {xs : List α} (h : xs.length = 0) : Elems R w S A xs := by
  intro i x hx
  rw [List.eq_nil_of_length_eq_zero h] at hx
  simp at hx

/-- What 'add' leaves in the captured list. -/
theorem flat_Int : Flat rInt := fun _ _ _ _ _ _ h => h
def AddPost (w : World) (p : Nat) (v : Value) (l' : List Int) (e : Ending) (w' : World) : Prop :=
  e = .returned (.tuple #[]) ∧ ∃ v', w'.heap[p]? = some (.cells #[v'] 23 (0, 0)) ∧ Own rInt 3 w' (p + 1) (fun _ => False) v' l' ∧ Below p w w' ∧
    (∀ j, j < w.heap.size → j ≠ p → v.ownBlock ≠ some j → w'.heap[j]? = w.heap[j]?) ∧ (v'.ownBlock = v.ownBlock ∨ ∃ g, v'.ownBlock = some g ∧ w.heap.size ≤ g)
theorem ownBlock_slice (A : Option Addr) (n c : Nat) : (Value.slice A n c).ownBlock = A.map (·.block) := by cases A <;> rfl

theorem add_no (n : Int) (h : isNum n = false) (p : Nat) (w : World) (v : Value) (l : List Int) (hp : w.heap[p]? = some (.cells #[v] 23 (0, 0))) (hown : Own rInt 3 w (p + 1) (fun _ => False) v l) :
    Calls Tryz.prog 154 #[.int .i64 n, .pointer (some ⟨p, 0, none⟩)] w (AddPost w p v (addE n l)) := by
  have hq : addE n l = l := by simp [addE, h]
  rw [hq]
  have HC := Lib.hid (isNumber_any n w)
  rw [h] at HC
  clear hq h
  go_enter Tryz.func154, Tryz.ntmps154
  go_wp2_with (first | (go_at_call 116; refine HC.out.mono ?_; rintro e w' ⟨rfl, rfl⟩))
  refine bodyPost_ret (results_none rfl _ _ _) rfl ?_
  exact ⟨rfl, v, hp, hown, Below.refl _ _, fun _ _ _ _ => rfl, .inl rfl⟩

set_option maxHeartbeats 1600000 in
theorem add_yes (n : Int) (h : isNum n = true) (p : Nat) (w : World) (v : Value) (l : List Int) (hp : w.heap[p]? = some (.cells #[v] 23 (0, 0))) (hown : Own rInt 3 w (p + 1) (fun _ => False) v l) (hIs : IsE l) :
    Calls Tryz.prog 154 #[.int .i64 n, .pointer (some ⟨p, 0, none⟩)] w (AddPost w p v (addE n l)) := by
  have hlen := IsE_len hIs
  have hq : addE n l = insE n l := by simp [addE, h]
  rw [hq]
  have HC := Lib.hid (isNumber_any n w)
  rw [h] at HC
  have hnn := (isNum_iff n).1 h
  clear hq h
  obtain ⟨A, c, rfl⟩ := hown.value
  obtain ⟨_, hE⟩ := hown.elems (by decide) rfl
  have hcp : w.cell? ⟨p, 0, none⟩ = some (.slice A l.length c) := cell_of_row w p 0 _ _ _ hp
  go_enter Tryz.func154, Tryz.ntmps154
  go_wp2_with (first | (go_at_call 116; refine HC.out.mono ?_; rintro e w' ⟨rfl, rfl⟩))
  go_loop [3] (fun i => ∃ k : Nat, k ≤ l.length ∧ i = .int .i64 k ∧ Hid (∀ x ∈ l.drop k, n < x)) (fun i => (intOf i).toNat)
  case atStart => exact ⟨l.length, Nat.le_refl _, rfl, Lib.hid (by simp)⟩
  case round =>
    obtain ⟨k, hk, rfl, HD⟩ := hrel
    have hin : InI n := by unfold InI; omega
    have hpl : p < w.heap.size := (Array.getElem?_eq_some_iff.1 hp).1
    have hfz : w.frozen? ⟨p, 0, none⟩ = false := by simp [World.frozen?, hp]
    rcases Nat.eq_zero_or_pos k with h0 | h0
    · have hd : decide (0 < k) = false := by simp; omega
      subst h0
      have HF : Hid (insE n l = l.take 0 ++ ([n] ++ l)) := Lib.hid (by rw [insE_at n l 0 (by simp) HD.out]; simp)
      go_wp2
      go_region_law (first | (refine step_append_many (R := rInt) el_Int rfl (.tmp 33) (.tmp 36) rfl rfl (by exact (Own.fresh (R := rInt) (x := n) (S0 := fun _ => False) (by decide) [.int .i64 n] ⟨rfl, hin⟩ (by decide) rfl).drew) rfl (ys := l) (S2 := Up (fun _ => False) (p + 1)) (fun _ => False) rfl (by exact ((hown.alloc _).drew.elems (by decide) rfl).2) (fun _ _ h => flat_Int _ _ _ _ _ _ h) (fun _ h => h.elim) (by (simp only [rInt, List.length_singleton]; omega)) (by simp) ?_; intro v1 w1 hown1 hb1 _ _; have hc1 : w1.cell? ⟨p, 0, none⟩ = some (.slice A l.length c) := by (rw [hb1.cell (p := ⟨p, 0, none⟩) hpl]; go_keep)) | (obtain ⟨A1, c1, rfl⟩ := hown1.value; refine step_append_many (R := rInt) (v := .slice A 0 c) el_Int rfl (.tmp 31) (.tmp 37) rfl rfl (by exact (hown.below ((((Below.refl _ _).alloc (Nat.le_refl _) _).drew).trans hb1)).take rfl hk) rfl (ys := [n] ++ l) (S2 := Up (fun _ => False) w.heap.size) (fun _ => False) rfl (by exact (hown1.elems (by decide) rfl).2) (fun _ _ h => flat_Int _ _ _ _ _ _ h) (fun _ h => h.elim) (by (simp [rInt]; omega)) (by (have := hb1.size; simp at this; omega)) ?_; intro v2 w2 hown2 hb2 hg2 hat2; have hc2 : w2.cell? ⟨p, 0, none⟩ = some (.slice A l.length c) := (hb2.cell (p := ⟨p, 0, none⟩) (Nat.lt_succ_self p)).trans hc1; have hf2 : w2.frozen? ⟨p, 0, none⟩ = false := ((hb2.frozen (p := ⟨p, 0, none⟩) (Nat.lt_succ_self p)).trans (hb1.frozen (p := ⟨p, 0, none⟩) hpl)).trans ((((Below.refl w.heap.size w).alloc (Nat.le_refl _) _).drew.frozen (p := ⟨p, 0, none⟩) hpl).trans hfz); obtain ⟨A2, c2, rfl⟩ := hown2.value))
      all_goals
        refine bodyPost_end (results_none rfl _ _ _) rfl ?_
        have hpw : w2.heap[p]? = some (.cells #[.slice A l.length c] 23 (0, 0)) :=
          (hb2.block p (Nat.lt_succ_self p)).trans ((hb1.block p hpl).trans ((((Below.refl w.heap.size w).alloc (Nat.le_refl _) _).drew.block p hpl).trans hp))
        refine ⟨rfl, _, setCell_one hpw _, ?_, ((((((Below.refl w.heap.size w).alloc (Nat.le_refl _) _).drew.trans hb1).mono (Nat.le_of_lt hpl)).trans (hb2.mono (Nat.le_succ p))).setCell (p := ⟨p, 0, none⟩) (Nat.le_refl p) _), ?frame, ?own⟩
        rw [HF.out]
        refine Own.setFlat (S0 := fun _ => False) ?_ flat_Int (Nat.lt_succ_self p) _
        simpa using hown2
        case frame =>
          intro j hj hjp hjo
          rw [Below.heap_setCell _ _ _ _ hjp]
          exact (hg2.block j (Nat.lt_of_lt_of_le (by simp; omega) hb1.size) (fun e => hjo (by simp only [ownBlock_slice] at e ⊢; exact e.symm))).trans ((hb1.block j hj).trans (((Below.refl w.heap.size w).alloc (Nat.le_refl _) _).drew.block j hj))
        case own =>
          rcases hat2 with h | h
          · exact .inl (by simp only [ownBlock_slice] at h ⊢; exact h)
          · exact .inr ⟨_, by simp only [ownBlock_slice] at h ⊢; exact h, by have := hb1.size; simp at this; omega⟩
    · have hd : decide (0 < k) = true := by simp; omega
      have hkl : k - 1 < l.length := by omega
      obtain ⟨b, off, y, rfl, _, hb, hy, hyi, hyc⟩ := hE.int hkl
      have hw1 : IntKind.i64.wrap ((k : Int) - 1) = ((k - 1 : Nat) : Int) := by rw [IntWalk.i64_in _ (by omega)]; omega
      have HY := Lib.hid hy
      clear hy
      rcases Int.lt_trichotomy y n with hlt | heq | hgt
      · have hd1 : decide (n ≤ y) = false := by simp; omega
        have HT : Hid (∀ x ∈ l.take k, x < n) := Lib.hid (by have := sorted_take hIs.1 HY.out hlt; rwa [show k - 1 + 1 = k by omega] at this)
        have HF : Hid (insE n l = l.take k ++ ([n] ++ l.drop k)) := Lib.hid (by rw [insE_at n l k HT.out HD.out]; simp)
        have hcap := (hown.cap rfl).1
        have hkc : k ≤ c := by omega
        by_cases hck : c = k
        · obtain rfl : k = c := hck.symm
          clear hck
          go_wp2
          go_region_law (first | (refine step_append_many (R := rInt) (v := .slice (some ⟨b, off, none⟩) k k) el_Int rfl (.tmp 31) (.tmp 37) rfl rfl (by exact ((hown.alloc _).drew).take rfl hk) rfl (ys := [n]) (S2 := Up (fun _ => False) w.heap.size) (fun _ => False) rfl (by exact ((Own.fresh (R := rInt) (x := n) (S0 := fun _ => False) (by decide) [.int .i64 n] ⟨rfl, hin⟩ (by decide) rfl).drew.elems (by decide) rfl).2) (fun _ _ h => flat_Int _ _ _ _ _ _ h) (fun _ h => h.elim) (by (simp [rInt]; omega)) (by (simp; omega)) ?_; intro v2 w2 hown2 hb2 hg2 hat2; have hc2 : w2.cell? ⟨p, 0, none⟩ = some (.slice (some ⟨b, off, none⟩) l.length k) := (hb2.cell (p := ⟨p, 0, none⟩) (Nat.lt_succ_self p)).trans ((((Below.refl w.heap.size w).alloc (Nat.le_refl _) _).drew.cell (p := ⟨p, 0, none⟩) hpl).trans hcp); have hf2 : w2.frozen? ⟨p, 0, none⟩ = false := (hb2.frozen (p := ⟨p, 0, none⟩) (Nat.lt_succ_self p)).trans ((((Below.refl w.heap.size w).alloc (Nat.le_refl _) _).drew.frozen (p := ⟨p, 0, none⟩) hpl).trans hfz); obtain ⟨A2, c2, rfl⟩ := hown2.value))
          all_goals
            refine bodyPost_end (results_none rfl _ _ _) rfl ?_
            have hpw : w2.heap[p]? = some (.cells #[.slice (some ⟨b, off, none⟩) l.length k] 23 (0, 0)) :=
              (hb2.block p (Nat.lt_succ_self p)).trans ((((Below.refl w.heap.size w).alloc (Nat.le_refl _) _).drew.block p hpl).trans hp)
            refine ⟨rfl, _, setCell_one hpw _, ?_, ((((((Below.refl w.heap.size w).alloc (Nat.le_refl _) _).drew).mono (Nat.le_of_lt hpl)).trans (hb2.mono (Nat.le_succ p))).setCell (p := ⟨p, 0, none⟩) (Nat.le_refl p) _), ?frame, ?own⟩
            rw [HF.out]
            refine Own.setFlat (S0 := fun _ => False) ?_ flat_Int (Nat.lt_succ_self p) _
            rw [List.drop_eq_nil_of_le (show l.length ≤ k by omega)]
            simpa [Nat.min_eq_left hk] using hown2
            case frame =>
              intro j hj hjp hjo
              rw [Below.heap_setCell _ _ _ _ hjp]
              exact (hg2.block j (by simp; omega) (fun e => hjo (by simp only [ownBlock_slice] at e ⊢; exact e.symm))).trans (((Below.refl w.heap.size w).alloc (Nat.le_refl _) _).drew.block j hj)
            case own =>
              rcases hat2 with h | h
              · exact .inl (by simp only [ownBlock_slice] at h ⊢; exact h)
              · exact .inr ⟨w.heap.size + 1, by simp only [ownBlock_slice] at h ⊢; simpa using h, by omega⟩
        · go_wp2
          go_region_law (first | (refine step_append_many (R := rInt) el_Int rfl (.tmp 33) (.tmp 36) rfl rfl (by exact (Own.fresh (R := rInt) (x := n) (S0 := fun _ => False) (by decide) [.int .i64 n] ⟨rfl, hin⟩ (by decide) rfl).drew) rfl (ys := l.drop k) (S2 := Up (fun _ => False) (p + 1)) (fun _ => False) (by simp) (by exact ((hown.alloc _).drew.elems (by decide) rfl).2.dropInt k) (fun _ _ h => flat_Int _ _ _ _ _ _ h) (fun _ h => h.elim) (by (simp only [rInt, List.length_singleton]; omega)) (by simp) ?_; intro v1 w1 hown1 hb1 _ _; have hc1 : w1.cell? ⟨p, 0, none⟩ = some (.slice (some ⟨b, off, none⟩) l.length c) := by (rw [hb1.cell (p := ⟨p, 0, none⟩) hpl]; go_keep)) | (obtain ⟨A1, c1, rfl⟩ := hown1.value; refine step_append_many (R := rInt) (v := .slice (some ⟨b, off, none⟩) k c) el_Int rfl (.tmp 31) (.tmp 37) rfl rfl (by exact (hown.below ((((Below.refl _ _).alloc (Nat.le_refl _) _).drew).trans hb1)).take rfl hk) rfl (ys := [n] ++ l.drop k) (S2 := Up (fun _ => False) w.heap.size) (fun _ => False) rfl (by exact (hown1.elems (by decide) rfl).2) (fun _ _ h => flat_Int _ _ _ _ _ _ h) (fun _ h => h.elim) (by (simp [rInt]; omega)) (by (have := hb1.size; simp at this; omega)) ?_; intro v2 w2 hown2 hb2 hg2 hat2; have hc2 : w2.cell? ⟨p, 0, none⟩ = some (.slice (some ⟨b, off, none⟩) l.length c) := (hb2.cell (p := ⟨p, 0, none⟩) (Nat.lt_succ_self p)).trans hc1; have hf2 : w2.frozen? ⟨p, 0, none⟩ = false := ((hb2.frozen (p := ⟨p, 0, none⟩) (Nat.lt_succ_self p)).trans (hb1.frozen (p := ⟨p, 0, none⟩) hpl)).trans ((((Below.refl w.heap.size w).alloc (Nat.le_refl _) _).drew.frozen (p := ⟨p, 0, none⟩) hpl).trans hfz); obtain ⟨A2, c2, rfl⟩ := hown2.value))
          all_goals
            refine bodyPost_end (results_none rfl _ _ _) rfl ?_
            have hpw : w2.heap[p]? = some (.cells #[.slice (some ⟨b, off, none⟩) l.length c] 23 (0, 0)) :=
              (hb2.block p (Nat.lt_succ_self p)).trans ((hb1.block p hpl).trans ((((Below.refl w.heap.size w).alloc (Nat.le_refl _) _).drew.block p hpl).trans hp))
            refine ⟨rfl, _, setCell_one hpw _, ?_, ((((((Below.refl w.heap.size w).alloc (Nat.le_refl _) _).drew.trans hb1).mono (Nat.le_of_lt hpl)).trans (hb2.mono (Nat.le_succ p))).setCell (p := ⟨p, 0, none⟩) (Nat.le_refl p) _), ?frame, ?own⟩
            rw [HF.out]
            refine Own.setFlat (S0 := fun _ => False) ?_ flat_Int (Nat.lt_succ_self p) _
            simpa [Nat.min_eq_left hk] using hown2
            case frame =>
              intro j hj hjp hjo
              rw [Below.heap_setCell _ _ _ _ hjp]
              exact (hg2.block j (Nat.lt_of_lt_of_le (by simp; omega) hb1.size) (fun e => hjo (by simp only [ownBlock_slice] at e ⊢; exact e.symm))).trans ((hb1.block j hj).trans (((Below.refl w.heap.size w).alloc (Nat.le_refl _) _).drew.block j hj))
            case own =>
              rcases hat2 with h | h
              · exact .inl (by simp only [ownBlock_slice] at h ⊢; exact h)
              · exact .inr ⟨_, by simp only [ownBlock_slice] at h ⊢; exact h, by have := hb1.size; simp at this; omega⟩
      · subst heq
        have HF : Hid (insE y l = l) := Lib.hid (insE_mem y l hIs.1 (List.mem_of_getElem? HY.out))
        go_wp2
        refine bodyPost_ret (results_none rfl _ _ _) rfl ?_
        refine ⟨rfl, _, hp, ?_, Below.refl _ _, fun _ _ _ _ => rfl, .inl rfl⟩
        rw [HF.out]
        exact hown
      · have hd1 : decide (n ≤ y) = true := by simp; omega
        have hd2 : (y == n) = false := by simp; omega
        have HD' : Hid (∀ x ∈ l.drop (k - 1), n < x) := Lib.hid (fun x hx => by
          rw [drop_cons HY.out, show k - 1 + 1 = k by omega] at hx
          rcases List.mem_cons.1 hx with rfl | hx
          · exact hgt
          · exact HD.out x hx)
        go_wp2
        go_round
        case rel => exact ⟨k - 1, by omega, rfl, HD'⟩
        case measure => simp [intOf]; omega

end Go.Proofs.YtlopccnehgolnabGreatDoor

namespace Go.Proofs.YtlopccnehgolnabGreatDoor
open Go.RowKit Rb

/-- The captured list, as the calls of 'add' leave it; block q is none of its own. -/
def EdgInv (w : World) (p : Nat) (l : List Int) (wr : World) : Prop :=
  (∃ v, wr.heap[p]? = some (.cells #[v] 23 (0, 0)) ∧ Own rInt 3 wr (p + 1) (fun _ => False) v l) ∧ Below p w wr ∧ IsE l ∧ p < wr.heap.size
theorem EdgInv.alloc {w : World} {p : Nat} {l : List Int} {wr : World} (h : EdgInv w p l wr) (o : Obj) : EdgInv w p l (wr.alloc o) := by
  obtain ⟨⟨v, h1, h2⟩, h3, h4, h5⟩ := h
  exact ⟨⟨v, (Below.heap_alloc wr o p h5).trans h1, h2.alloc o⟩, h3.alloc (Nat.le_of_lt h5) o, h4, by simp; omega⟩

/-- A call of 'add'. -/
theorem add_inv {w : World} {p : Nat} {l : List Int} {wr : World} (n : Int) (h : EdgInv w p l wr) : Calls Tryz.prog 154 #[.int .i64 n, .pointer (some ⟨p, 0, none⟩)] wr fun e w' =>
    e = .returned (.tuple #[]) ∧ EdgInv w p (addE n l) w' ∧ wr.heap.size ≤ w'.heap.size := by
  obtain ⟨⟨v, h1, h2⟩, h3, h4, h5⟩ := h
  have key : Calls Tryz.prog 154 #[.int .i64 n, .pointer (some ⟨p, 0, none⟩)] wr (AddPost wr p v (addE n l)) := by
    cases hn : isNum n
    · exact add_no n hn p wr v l h1 h2
    · exact add_yes n hn p wr v l h1 h2 h4
  refine key.mono fun e w' ⟨he, v', k1, k2, k3, _, _⟩ => ⟨he, ⟨⟨v', k1, k2⟩, h3.trans k3, addE_is n h4, Nat.lt_of_lt_of_le h5 k3.size⟩, k3.size⟩

/-- .. where a box of the caller's lies above. -/
theorem add_inv2 {w : World} {p : Nat} {l : List Int} {wr : World} {t : TypeId} (n : Int) (h : EdgInv w p l wr) (cs : Array Value) : Calls Tryz.prog 154 #[.int .i64 n, .pointer (some ⟨p, 0, none⟩)] (wr.alloc (.cells cs t)) fun e w' =>
    e = .returned (.tuple #[]) ∧ EdgInv w p (addE n l) w' ∧ w'.heap[wr.heap.size]? = some (.cells cs t (0, 0)) ∧ wr.heap.size < w'.heap.size ∧ (∃ v', w'.heap[p]? = some (.cells #[v'] 23 (0, 0)) ∧ v'.ownBlock ≠ some wr.heap.size) := by
  have h' := h.alloc (.cells cs t)
  have hq : (wr.alloc (.cells cs t)).heap[wr.heap.size]? = some (.cells cs t (0, 0)) := heap_alloc_new wr _
  obtain ⟨⟨v0, g1, g2⟩, _, _, g5⟩ := h
  have hvo : v0.ownBlock ≠ some wr.heap.size := fun e => by have := (g2.lt _ e).2; omega
  obtain ⟨⟨v, h1, h2⟩, h3, h4, h5⟩ := h'
  obtain rfl : v0 = v := by
    have : (wr.alloc (.cells cs t)).heap[p]? = wr.heap[p]? := Below.heap_alloc wr _ p g5
    rw [this, g1] at h1
    injection h1 with h1; injection h1 with h1 _; simpa using h1
  have key : Calls Tryz.prog 154 #[.int .i64 n, .pointer (some ⟨p, 0, none⟩)] (wr.alloc (.cells cs t)) (AddPost (wr.alloc (.cells cs t)) p v0 (addE n l)) := by
    cases hn : isNum n
    · exact add_no n hn p _ v0 l h1 h2
    · exact add_yes n hn p _ v0 l h1 h2 h4
  refine key.mono fun e w' ⟨he, v', k1, k2, k3, k4, k5⟩ => ⟨he, ⟨⟨v', k1, k2⟩, h3.trans k3, addE_is n h4, Nat.lt_of_lt_of_le h5 k3.size⟩, ?_, ?_, v', k1, ?_⟩
  · exact (k4 _ (by simp) (by omega) hvo).trans hq
  · have := k3.size; simp at this; omega
  · rcases k5 with k5 | ⟨g, k5, k6⟩
    · rw [k5]; exact hvo
    · rw [k5]; intro e; injection e with e; simp at k6; omega

theorem Elems.rgs {w : World} {S : Nat → Prop} {A : Option Addr} {ss : List (List Rg)} (h : Elems rRgs w S A ss) {i : Nat} (hi : i < ss.length) : ∃ b off A1 s c1, A = some ⟨b, off, none⟩ ∧ S b ∧ b < w.heap.size ∧ ss[i]? = some s ∧
    w.cell? ⟨b, off + i, none⟩ = some (.slice A1 s.length c1) ∧ s.length ≤ 8796093022208 ∧ Elems rRg w S A1 s := by
  obtain ⟨b, off, es, hA, hS, hb, hr, hc⟩ := h i ss[i] (List.getElem?_eq_getElem hi)
  obtain ⟨A1, c1, rfl, _, _, h3, h4⟩ := hr
  have hc0 := hc 0 _ rfl
  refine ⟨b, off, A1, ss[i], c1, hA, hS, hb, List.getElem?_eq_getElem hi, ?_, ?_, h4⟩
  · simpa [rRgs, rSl] using hc0
  · have : ss[i].length * 16 ≤ 140737488355328 := h3
    omega

theorem foldl_take_succ {α β : Type} {f : β → α → β} {b : β} {l : List α} {k : Nat} {x : α} (h : l[k]? = some x) : (l.take (k + 1)).foldl f b = f ((l.take k).foldl f b) x := by
  rw [take_getElem? h, List.foldl_append]; rfl

set_option maxHeartbeats 3200000 in
theorem edges_any {S : Nat → Prop} {A : Option Addr} {c : Nat} {ss : List (List Rg)} (w : World) (hlen : ss.length ≤ 8796093022208) (hE : Elems rRgs w S A ss) :
    Calls Tryz.prog 118 #[.slice A ss.length c] w fun e w' => ∃ u, e = .returned u ∧ Own rInt 3 w' w.heap.size (fun _ => False) u (edgesL ss) ∧ Below w.heap.size w w' := by
  have h0 : EdgInv w w.heap.size [] (w.alloc (.cells #[.slice none 0 0] 23)) :=
    ⟨⟨_, heap_alloc_new w _, Own.nil _ _ _ _ _⟩, (Below.refl _ _).alloc (Nat.le_refl _) _, ⟨by simp, by simp⟩, by simp⟩
  have HC0 := Lib.hid (add_inv (-1000000) h0)
  clear h0
  go_enter Tryz.func118, Tryz.ntmps118
  go_wp2_with (first | (go_at_call 154; refine HC0.out.mono ?_; rintro e w1 ⟨rfl, hI0, hs0⟩))
  clear HC0
  go_loopw [14] (fun i wr => ∃ k : Nat, k ≤ ss.length ∧ i = .int .i64 k ∧ EdgInv w w.heap.size ((ss.take k).foldl edgeS (addE (-MX) [])) wr) (fun i _ => ss.length - (intOf i).toNat)
  case atStart => exact ⟨0, Nat.zero_le _, rfl, hI0⟩
  case round =>
    obtain ⟨k, hk, rfl, hI⟩ := hrel
    by_cases hlt : k < ss.length
    · obtain ⟨b, off, A1, s, c1, rfl, _, hb, hx, h1, hsl, hEs⟩ := hE.rgs hlt
      rw [← hI.2.1.cell (p := ⟨b, _, none⟩) hb] at h1
      have HX := Lib.hid hx
      clear hx
      obtain ⟨wo, rfl⟩ : ∃ wo : World, wo = wr := ⟨_, rfl⟩
      go_wp2
      go_loopw [20] (fun i wr => ∃ j : Nat, j ≤ s.length ∧ i = .int .i64 j ∧ EdgInv w w.heap.size (edgeS ((ss.take k).foldl edgeS (addE (-MX) [])) (s.take j)) wr) (fun i _ => s.length - (intOf i).toNat)
      case atStart => exact ⟨0, Nat.zero_le _, rfl, hI⟩
      case round =>
        obtain ⟨j, hj, rfl, hJ⟩ := hrel
        by_cases hlt2 : j < s.length
        · obtain ⟨b2, off2, lo, up, rfl, _, hb2, hx2, hi1, hi2, g1, g2⟩ := hEs.rg hlt2
          rw [← hJ.2.1.cell (p := ⟨b2, _, none⟩) hb2] at g1 g2
          have hst : edgeS ((ss.take k).foldl edgeS (addE (-MX) [])) (s.take (j + 1)) = edgeR (edgeS ((ss.take k).foldl edgeS (addE (-MX) [])) (s.take j)) (lo, up) := by
            unfold edgeS; rw [foldl_take_succ hx2]
          have HST := Lib.hid hst
          clear hst hx2
          have HC := Lib.hid (add_inv2 (t := 123) lo hJ #[.int .i64 lo, .int .i64 up])
          generalize edgeS ((ss.take k).foldl edgeS (addE (-MX) [])) (s.take j) = l0 at *
          by_cases hup : up < 1000000
          · have hw1 : IntKind.i64.wrap (up + 1) = up + 1 := IntWalk.i64_in _ (by unfold InI at hi2; omega)
            go_wp2_with (first | (go_at_call 154; first | ((with_reducible refine HC.out.mono ?_); rintro e w2 ⟨rfl, hI2, hq, hs2, _⟩; have q0 : w2.cell? ⟨wr.heap.size, 0, none⟩ = some (.int .i64 lo) := cell_of_row w2 _ 0 _ _ _ hq; have q1 : w2.cell? ⟨wr.heap.size, 1, none⟩ = some (.int .i64 up) := cell_of_row w2 _ 1 _ _ _ hq; clear hq) | ((with_reducible refine (add_inv (up + 1) hI2).mono ?_); rintro e w3 ⟨rfl, hI3, _⟩)))
            go_roundw
            case rel => exact ⟨j + 1, by omega, by go_num, by rw [HST.out, edgeR, if_pos (show (lo, up).2 < MX from hup)]; exact hI3⟩
            case measure => simp [intOf]; omega
          · go_wp2_with (first | (go_at_call 154; first | ((with_reducible refine HC.out.mono ?_); rintro e w2 ⟨rfl, hI2, hq, hs2, _⟩; have q0 : w2.cell? ⟨wr.heap.size, 0, none⟩ = some (.int .i64 lo) := cell_of_row w2 _ 0 _ _ _ hq; have q1 : w2.cell? ⟨wr.heap.size, 1, none⟩ = some (.int .i64 up) := cell_of_row w2 _ 1 _ _ _ hq; clear hq)))
            go_roundw
            case rel => exact ⟨j + 1, by omega, by go_num, by rw [HST.out, edgeR, if_neg (show ¬ (lo, up).2 < MX by unfold MX; dsimp only; omega)]; exact hI2⟩
            case measure => simp [intOf]; omega
        · rw [List.take_of_length_le (l := s) (by omega)] at hJ
          go_wp2
          go_roundw
          case rel => exact ⟨k + 1, by omega, by go_num, by rw [foldl_take_succ HX.out]; exact hJ⟩
          case measure => simp [intOf]; omega
    · rw [List.take_of_length_le (by omega)] at hI
      obtain ⟨⟨v, k1, k2⟩, k3, k4, k5⟩ := hI
      have k6 : wr.cell? ⟨w.heap.size, 0, none⟩ = some v := cell_of_row wr _ 0 _ _ _ k1
      obtain ⟨A2, c2, rfl⟩ := k2.value
      go_wp2
      go_ret
      exact ⟨_, rfl, k2.lower (Nat.le_succ _), k3⟩

end Go.Proofs.YtlopccnehgolnabGreatDoor

namespace Go.Proofs.YtlopccnehgolnabGreatDoor
open Go.RowKit Rb

theorem pushM_len (out : List Rg) (n e : Int) : (pushM out n e).length ≤ out.length + 1 := by
  unfold pushM
  split
  · rename_i x hx
    have : out ≠ [] := fun h => by simp [h] at hx
    have := List.length_pos_iff.2 this
    split <;> simp <;> omega
  · simp
theorem madeL_cons (p : Int → Bool) (n : Int) (t : List Int) (out : List Rg) : madeL p (n :: t) out = madeL p t (if p n then pushM out n (endOf t) else out) := rfl

/-- What a round of 'made' needs of the ranges so far: their ends are numbers. -/
def OutOk (out : List Rg) : Prop := ∀ x ∈ out, -1000000 ≤ x.1 ∧ x.1 ≤ 1000000 ∧ -1000001 ≤ x.2 ∧ x.2 ≤ 1000000
theorem OutOk.push {out : List Rg} {n e : Int} (h : OutOk out) (h1 : -1000000 ≤ n) (h2 : n ≤ 1000000) (h3 : -1000001 ≤ e) (h4 : e ≤ 1000000) : OutOk (pushM out n e) := by
  rcases List.eq_nil_or_concat out with rfl | ⟨init, x, rfl⟩
  · intro y hy
    have : y = (n, e) := by simpa [pushM] using hy
    subst this; exact ⟨h1, h2, h3, h4⟩
  · rw [List.concat_eq_append] at h ⊢
    have hx := h x (by simp)
    have e' : pushM (init ++ [x]) n e = if x.2 = n - 1 then init ++ [(x.1, e)] else init ++ [x] ++ [(n, e)] := by simp [pushM]
    rw [e']
    intro y hy
    split at hy
    · rcases List.mem_append.1 hy with hy | hy
      · exact h y (by simp [hy])
      · obtain rfl : y = (x.1, e) := by simpa using hy
        exact ⟨hx.1, hx.2.1, h3, h4⟩
    · rcases List.mem_append.1 hy with hy | hy
      · exact h y hy
      · obtain rfl : y = (n, e) := by simpa using hy
        exact ⟨h1, h2, h3, h4⟩


end Go.Proofs.YtlopccnehgolnabGreatDoor

namespace Go.Proofs.YtlopccnehgolnabGreatDoor
open Go.RowKit Rb


end Go.Proofs.YtlopccnehgolnabGreatDoor
