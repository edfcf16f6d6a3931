
/- What text prints: the contracts of Domain and cell. -/
import Derived.Test.YtlopccnehgolnabDoorShTx
import Derived.Test.YtlopccnehgolnabDoorRdrB
import Derived.Test.YtlopccnehgolnabDoorGoodD
import Derived.Test.YtlopccnehgolnabDoorSameT
import Derived.BigQuiet
import Derived.Laws.Concat
import Derived.Lib.ItoaLen
import Derived.Deep.DeepMust
import Derived.Deep.QuietTactic
namespace Go.Proofs.YtlopccnehgolnabDoor
open Go.RowKit Rb

def domTxt (d : Dm) : Txt := [100, 111, 109, 97, 105, 110, 32] ++ d.name ++ [32] ++ Lib.itoa d.lo ++ [46, 46] ++ Lib.itoa d.hi ++ [10]
theorem app_txt (a b : Txt) : (⟨a.toArray⟩ : ByteArray) ++ ⟨b.toArray⟩ = ⟨(a ++ b).toArray⟩ := by
  apply ByteArray.ext
  simp [ByteArray.data_append]
theorem itoa_len (n : Int) (h : InI n) : (Lib.itoa n).length ≤ 30 := by
  have := Lib.itoa_length_le n h.1 h.2
  omega
def domainT (d : Dm) : Txt × Int := if goodD d then (domTxt d, 0) else ([], 1)

set_option maxRecDepth 100000 in
set_option maxHeartbeats 1600000 in
theorem Domain_any (d : Dm) (w : World) (hs : d.name.length ≤ 140737488355328) (hlo : InI d.lo) (hhi : InI d.hi) (hw : LibW w) :
    Calls Tryd.prog 9 #[.agg #[.string ⟨d.name.toArray⟩, .int .i64 d.lo, .int .i64 d.hi]] w fun e w' => e = .returned (.tuple #[.string ⟨(domainT d).1.toArray⟩, .int .i64 (domainT d).2]) ∧ Below w.heap.size w w' := by
  obtain ⟨W0, e0, HB0, c0, c1, c2, hs0⟩ : ∃ W0, w.alloc (.cells #[.string ⟨d.name.toArray⟩, .int .i64 d.lo, .int .i64 d.hi] 27) = W0 ∧ Hid (Below w.heap.size w W0) ∧ W0.cell? ⟨w.heap.size, 0, none⟩ = some (.string ⟨d.name.toArray⟩) ∧ W0.cell? ⟨w.heap.size, 1, none⟩ = some (.int .i64 d.lo) ∧ W0.cell? ⟨w.heap.size, 2, none⟩ = some (.int .i64 d.hi) ∧ w.heap.size < W0.heap.size :=
    ⟨_, rfl, Lib.hid ((Below.refl _ _).alloc (Nat.le_refl _) _), World.cell?_alloc_new _ _ _ _, World.cell?_alloc_new _ _ _ _, World.cell?_alloc_new _ _ _ _, by simp⟩
  obtain ⟨g, hg⟩ : ∃ x, goodD d = x := ⟨_, rfl⟩
  have HG := Lib.hid hg
  have HS := Lib.hid hs
  have HGD : Hid (Calls Tryd.prog 27 #[.agg #[.string ⟨d.name.toArray⟩, .int .i64 d.lo, .int .i64 d.hi]] W0 fun e w' => e = .returned (.bool g) ∧ Below W0.heap.size W0 w') := Lib.hid (hg ▸ GoodDomain_any d W0 hs)
  have HLL : Hid ((Lib.itoa d.lo).length ≤ 30) := Lib.hid (itoa_len _ hlo)
  have HLH : Hid ((Lib.itoa d.hi).length ≤ 30) := Lib.hid (itoa_len _ hhi)
  have HW := Lib.hid hw
  have HLO := Lib.hid hlo
  have HHI := Lib.hid hhi
  have HDT : Hid (domainT d = if g then (domTxt d, 0) else ([], 1)) := Lib.hid (by unfold domainT; rw [hg])
  clear hg hs hw hlo hhi
  rw [HDT.out]
  go_enter Tryd.func9, Tryd.ntmps9
  cases g
  · go_wp2_with (first | (go_at_call 27; go_must ((with_reducible refine HGD.out.mono ?_); rintro e w1 ⟨rfl, hb1⟩; have HB1 := Lib.hid hb1; clear hb1)))
    go_ret2
    exact ⟨rfl, HB0.out.trans (HB1.out.mono HB0.out.size)⟩
  · go_wp2_with (first | (go_at_call 27; go_must ((with_reducible refine HGD.out.mono ?_); rintro e w1 ⟨rfl, hb1⟩; have HB1 := Lib.hid hb1; have d0 := (hb1.cell (p := ⟨w.heap.size, 0, none⟩) hs0).trans c0; have d1 := (hb1.cell (p := ⟨w.heap.size, 1, none⟩) hs0).trans c1; have d2 := (hb1.cell (p := ⟨w.heap.size, 2, none⟩) hs0).trans c2; have hs1 : w.heap.size < w1.heap.size := Nat.lt_of_lt_of_le hs0 hb1.size; have HL1 := Lib.hid (HW.out.below (HB0.out.trans (hb1.mono HB0.out.size))); clear hb1)))
    have HI1 := Lib.hid fun w' (hb : Below w1.heap.size w1 w') => Itoa_any d.lo HLO.out w' (HL1.out.below hb)
    have HI2 := Lib.hid fun w' (hb : Below w1.heap.size w1 w') => Itoa_any d.hi HHI.out w' (HL1.out.below hb)
    clear c0 c1 c2
    have hA : d.name.length ≤ 140737488355328 := HS.out
    have hB : (Lib.itoa d.lo).length ≤ 30 := HLL.out
    have hC : (Lib.itoa d.hi).length ≤ 30 := HLH.out
    have s1 : ¬ (9223372036854775807 < 7 + d.name.length) := by omega
    have s2 : ¬ (9223372036854775807 < 7 + d.name.length + 1) := by omega
    have s3 : ¬ (9223372036854775807 < 7 + d.name.length + 1 + (Lib.itoa d.lo).length) := by omega
    have s4 : ¬ (9223372036854775807 < 7 + d.name.length + 1 + (Lib.itoa d.lo).length + 2) := by omega
    have s5 : ¬ (9223372036854775807 < 7 + d.name.length + 1 + (Lib.itoa d.lo).length + 2 + (Lib.itoa d.hi).length) := by omega
    have s6 : ¬ (9223372036854775807 < 7 + d.name.length + 1 + (Lib.itoa d.lo).length + 2 + (Lib.itoa d.hi).length + 1) := by omega
    clear hA hB hC
    refine wp_region_quiet_below (by kernel_rfl) (by kernel_rfl) ?_
    repeat (go_big_quiet_step (first | with_reducible exact Calls.inBelow HI1.out _ _ | with_reducible exact Calls.inBelow HI2.out _ _))
    refine wpQuiet_nil ?_
    intro _ hw'
    obtain ⟨⟨dq, osq⟩, hw''⟩ := hw'
    subst hw''
    go_wp2
    go_ret2
    refine ⟨?_, (HB0.out.trans (HB1.out.mono HB0.out.size)).trans ((below_regrown _ _ _).mono (HB0.out.trans (HB1.out.mono HB0.out.size)).size)⟩
    have e : (⟨#[100, 111, 109, 97, 105, 110, 32]⟩ : ByteArray) ++ ⟨d.name.toArray⟩ ++ ⟨#[32]⟩ ++ ⟨(Lib.itoa d.lo).toArray⟩ ++ ⟨#[46, 46]⟩ ++ ⟨(Lib.itoa d.hi).toArray⟩ ++ ⟨#[10]⟩ = ⟨(domTxt d).toArray⟩ := by
      apply ByteArray.ext
      simp [ByteArray.data_append, domTxt]
    exact congrArg (fun x => Ending.returned (.tuple #[.string x, .int .i64 0])) e

def rgTxt (r : Rg) : Txt := if r.1 < r.2 then Lib.itoa r.1 ++ ([46, 46] ++ Lib.itoa r.2) else Lib.itoa r.1
def cellTxt (c : Cl) : Txt := if c.rs.length = 0 then [42] else (if c.no then [110, 111, 116, 32] else []) ++ Lib.join (c.rs.map rgTxt) [124]
theorem rgTxt_len (r : Rg) (h1 : InI r.1) (h2 : InI r.2) : (rgTxt r).length ≤ 62 := by
  have a := itoa_len _ h1
  have b := itoa_len _ h2
  unfold rgTxt
  split <;> simp <;> omega
theorem joinS_len {l : List Txt} {sep : Txt} {m : Nat} (h : ∀ x ∈ l, x.length + sep.length ≤ m) : (Lib.join l sep).length ≤ m * l.length := by
  cases l with
  | nil => simp [Lib.join_nil]
  | cons x r =>
    rw [Lib.join_cons]
    have key : ∀ r : List Txt, (∀ x ∈ r, x.length + sep.length ≤ m) → (Lib.joinTail sep r).length ≤ m * r.length := by
      intro r
      induction r with
      | nil => intro _; simp [Lib.joinTail]
      | cons y r ih =>
        intro h
        have h1 := ih fun x hx => h x (List.mem_cons_of_mem _ hx)
        have h2 := h y (List.mem_cons_self ..)
        have e : Lib.joinTail sep (y :: r) = sep ++ y ++ Lib.joinTail sep r := by simp [Lib.joinTail]
        rw [e, List.length_append, List.length_append, List.length_cons, Nat.mul_succ]
        omega
    have h1 := key r fun x hx => h x (List.mem_cons_of_mem _ hx)
    have h2 := h x (List.mem_cons_self ..)
    rw [List.length_append, List.length_cons, Nat.mul_succ]
    omega
theorem JoinS_any {S : Nat → Prop} {v : Value} {l : List Txt} (sep : Txt) (w : World) (hl : (rSl rStr).rel w S [v] l) (hj : (Lib.join l sep).length ≤ 140737488355328) :
    Calls Tryd.prog 18 #[v, .string ⟨sep.toArray⟩] w fun e w' => e = .returned (.string ⟨(Lib.join l sep).toArray⟩) ∧ Below w.heap.size w w' := by
  obtain ⟨A, c, rfl, hc, _, hb, hE⟩ := rSl.elems hl
  have hlen : l.length ≤ 8796093022208 := by simp only [rStr] at hb; omega
  rcases Nat.eq_zero_or_pos l.length with h0 | h0
  · obtain rfl : l = [] := List.eq_nil_of_length_eq_zero h0
    exact (Tryd.strings_Join_none A c ⟨sep.toArray⟩ w).mono fun e w' ⟨he, hw⟩ => ⟨he, hw ▸ Below.refl _ _⟩
  · obtain ⟨b, off, s, rfl, _, hb, hx, _, _⟩ := hE.str h0
    have hm : (l.map fun s : Txt => (⟨s.toArray⟩ : ByteArray)).map (·.data.toList) = l := by
      rw [List.map_map]
      exact (List.map_congr_left fun s _ => by simp).trans (List.map_id l)
    have h := Tryd.strings_Join b off c (l.map fun s : Txt => (⟨s.toArray⟩ : ByteArray)) ⟨sep.toArray⟩ w (fun j x hx => by
      rw [List.getElem?_map, Option.map_eq_some_iff] at hx
      obtain ⟨s', hs', rfl⟩ := hx
      have hlt : j < l.length := (List.getElem?_eq_some_iff.1 hs').1
      obtain ⟨b', off', s'', hA, _, _, hx', _, hc'⟩ := hE.str hlt
      obtain ⟨rfl, rfl⟩ : b = b' ∧ off = off' := by simpa using hA
      obtain rfl : s' = s'' := by rw [hs'] at hx'; exact Option.some.inj hx'
      exact hc') hb (by rw [List.length_map]; omega) (by rw [List.length_map]; exact hc) (by rw [hm]; exact hj)
    rw [List.length_map, hm] at h
    exact h

end Go.Proofs.YtlopccnehgolnabDoor
