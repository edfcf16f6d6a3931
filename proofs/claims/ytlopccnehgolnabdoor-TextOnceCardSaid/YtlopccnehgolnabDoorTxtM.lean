
/- What text prints for a good table: how long it is. Plain. -/
import Derived.Test.YtlopccnehgolnabDoorTxtC
import Derived.Test.YtlopccnehgolnabDoorRdrE
namespace Go.Proofs.YtlopccnehgolnabDoor
open Go.RowKit Rb

theorem nDigits_le7 (u : Nat) (h : u ≤ 1000000) : Lib.nDigits u ≤ 7 := by
  have : ∀ (k u : Nat), u < 10 ^ (k + 1) → Lib.nDigits u ≤ k + 1 := by
    intro k
    induction k with
    | zero => intro u hu; rw [Lib.nDigits_small (by simpa using hu)]; omega
    | succ k ih =>
      intro u hu
      by_cases h : u < 10
      · rw [Lib.nDigits_small h]; omega
      · rw [Lib.nDigits_big h]
        have := ih (u / 10) (by rw [Nat.pow_succ] at hu; omega)
        omega
  exact this 6 u (by omega)
theorem itoa_len8 (n : Int) (h : isNum n = true) : (Lib.itoa n).length ≤ 8 := by
  obtain ⟨h0, h1⟩ := (isNum_iff n).1 h
  by_cases hneg : n < 0
  · obtain ⟨u, rfl⟩ : ∃ u : Nat, n = -(u : Int) := ⟨n.natAbs, by omega⟩
    rw [Lib.itoa_neg u (by omega), List.length_cons, Lib.decDigits_length]
    have := nDigits_le7 u (by omega)
    omega
  · obtain ⟨u, rfl⟩ : ∃ u : Nat, n = u := ⟨n.toNat, by omega⟩
    rw [Lib.itoa_nonneg, Lib.decDigits_length]
    have := nDigits_le7 u (by omega)
    omega
theorem isSetB_num : ∀ {l : List Rg} {a : Int}, isSetB a l = true → ∀ r ∈ l, isNum r.1 = true ∧ isNum r.2 = true
  | [], _, _, _, hr => by simp at hr
  | x :: l, a, h, r, hr => by
    simp only [isSetB, Bool.and_eq_true] at h
    rcases List.mem_cons.1 hr with rfl | hr
    · exact ⟨h.1.1.1.1, h.1.1.1.2⟩
    · exact isSetB_num h.2 r hr
theorem rgTxt_len18 {r : Rg} (h1 : isNum r.1 = true) (h2 : isNum r.2 = true) : (rgTxt r).length ≤ 18 := by
  have a := itoa_len8 _ h1
  have b := itoa_len8 _ h2
  unfold rgTxt
  split <;> simp <;> omega
theorem cellTxt_len {c : Cl} (h : goodCell c = true) : (cellTxt c).length ≤ 80 := by
  unfold goodCell at h
  simp only [Bool.and_eq_true, decide_eq_true_iff] at h
  have h1 := joinS_len (l := c.rs.map rgTxt) (sep := [124]) (m := 19) (fun x hx => by
    obtain ⟨r, hr, rfl⟩ := List.mem_map.1 hx
    obtain ⟨g1, g2⟩ := isSetB_num h.1.2 r hr
    have := rgTxt_len18 g1 g2
    simp only [List.length_singleton]
    omega)
  rw [List.length_map] at h1
  have h4 := h.1.1
  unfold cellTxt
  split
  · simp
  · cases c.no <;> simp <;> omega
def rowTxt (r : Rl) : Txt := [32, 32] ++ Lib.join (r.cells.map cellTxt) [44] ++ [32, 61, 62, 32] ++ Lib.itoa r.out ++ [59, 10]
def rowsTxt (l : List Rl) : Txt := (l.map rowTxt).flatten
theorem rowsTxt_add (l : List Rl) (r : Rl) : rowsTxt (l ++ [r]) = rowsTxt l ++ rowTxt r := by simp [rowsTxt]
theorem joinC_len {n : Nat} {r : Rl} (h : goodRule n r = true) (hn : n ≤ 3) : (Lib.join (r.cells.map cellTxt) [44]).length ≤ 243 := by
  unfold goodRule at h
  simp only [Bool.and_eq_true, decide_eq_true_iff, List.all_eq_true] at h
  have h1 := joinS_len (l := r.cells.map cellTxt) (sep := [44]) (m := 81) (fun x hx => by
    obtain ⟨c, hc, rfl⟩ := List.mem_map.1 hx
    have := cellTxt_len (h.2 c hc)
    simp only [List.length_singleton]
    omega)
  rw [List.length_map, h.1.2] at h1
  omega
theorem rowTxt_len {n : Nat} {r : Rl} (h : goodRule n r = true) (hn : n ≤ 3) : (rowTxt r).length ≤ 259 := by
  have h1 := joinC_len h hn
  unfold goodRule at h
  simp only [Bool.and_eq_true] at h
  have h2 := itoa_len8 _ h.1.1
  unfold rowTxt
  simp only [List.length_append, List.length_cons, List.length_nil]
  omega
theorem rowsTxt_len {n : Nat} (hn : n ≤ 3) : ∀ {l : List Rl}, (∀ r ∈ l, goodRule n r = true) → (rowsTxt l).length ≤ 259 * l.length
  | [], _ => by simp [rowsTxt]
  | x :: l, h => by
    have h1 := rowTxt_len (h x (List.mem_cons_self ..)) hn
    have h2 := rowsTxt_len hn fun r hr => h r (List.mem_cons_of_mem _ hr)
    unfold rowsTxt at *
    simp only [List.map_cons, List.flatten_cons, List.length_append, List.length_cons]
    omega
theorem named_len {s : Txt} (h : named s = true) : s.length ≤ 8 := by
  unfold named at h
  simp only [Bool.and_eq_true, decide_eq_true_iff] at h
  omega
theorem goodIns_named : ∀ {l seen : List Txt}, goodIns seen l = true → ∀ s ∈ l, named s = true
  | [], _, _, _, hs => by simp at hs
  | x :: l, seen, h, s, hs => by
    simp only [goodIns, Bool.and_eq_true] at h
    rcases List.mem_cons.1 hs with rfl | hs
    · exact h.1.1
    · exact goodIns_named h.2 s hs
theorem joinI_len {t : Tb} (h : goodT t = true) : (Lib.join t.ins [44]).length ≤ 27 := by
  have h3 := (goodT_head h).2.2.2.1
  unfold goodT at h
  simp only [Bool.and_eq_true] at h
  have h1 := joinS_len (l := t.ins) (sep := [44]) (m := 9) (fun x hx => by
    have := named_len (goodIns_named h.1.2 x hx)
    simp only [List.length_singleton]
    omega)
  omega
theorem goodT_name {t : Tb} (h : goodT t = true) : t.name.length ≤ 8 := by
  unfold goodT at h
  simp only [Bool.and_eq_true] at h
  exact named_len (head_yes h.1.1).1
theorem goodT_rule {t : Tb} (h : goodT t = true) {r : Rl} (hr : r ∈ t.rules) : goodRule t.ins.length r = true := by
  unfold goodT at h
  simp only [Bool.and_eq_true, List.all_eq_true] at h
  exact h.2 r hr
/-- The policy's name. -/
def polTxt (p : Nat) : Txt := pols.getD p []
theorem polTxt_at {p : Nat} (h : p ≤ 7) : pols[p]? = some (polTxt p) ∧ (polTxt p).length ≤ 6 := by
  have : p < 8 := by omega
  match p, this with
  | 0, _ | 1, _ | 2, _ | 3, _ | 4, _ | 5, _ | 6, _ | 7, _ => exact ⟨rfl, by decide⟩
def headTxt (t : Tb) : Txt := [116, 97, 98, 108, 101, 32] ++ t.name ++ [32] ++ polTxt t.pol.toNat ++ (if t.comp then [32, 99, 111, 109, 112, 108, 101, 116, 101] else []) ++ ([32, 40] ++ Lib.join t.ins [44] ++ [41, 32, 123, 10])
def tableTxt (t : Tb) : Txt := headTxt t ++ rowsTxt t.rules ++ [125, 10]
theorem headTxt_len {t : Tb} (h : goodT t = true) : (headTxt t).length ≤ 63 := by
  have h1 := goodT_name h
  have h2 := joinI_len h
  have h3 := (polTxt_at (p := t.pol.toNat) (by have := (goodT_head h).2.1; omega)).2
  unfold headTxt
  cases t.comp <;> simp <;> omega
theorem tableTxt_len {t : Tb} (h : goodT t = true) : (tableTxt t).length ≤ 1700 := by
  have h1 := headTxt_len h
  obtain ⟨_, _, _, hn, _, h6⟩ := goodT_head h
  have h2 := rowsTxt_len (l := t.rules) hn fun r hr => goodT_rule h hr
  unfold tableTxt
  simp only [List.length_append, List.length_cons, List.length_nil]
  omega

end Go.Proofs.YtlopccnehgolnabDoor
