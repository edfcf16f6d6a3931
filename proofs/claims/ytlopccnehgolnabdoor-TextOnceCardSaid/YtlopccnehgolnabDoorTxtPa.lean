
/- Plain law: what is printed is read as it. -/
import Derived.Test.YtlopccnehgolnabDoorTxtRd
namespace Go.Proofs.YtlopccnehgolnabDoor
open Go.RowKit Rb

/-- A word that no rule and no cell begins with. -/
theorem cellW_head (c : Cl) (l : List Txt) : ∃ x m, cellW c ++ l = x :: m ∧ x ≠ [125] ∧ x ≠ [46, 46] ∧ x ≠ [124] ∧ x ≠ [44] ∨ cellW c = [] := by
  unfold cellW
  split
  · exact ⟨[42], l, .inl ⟨rfl, by decide, by decide, by decide, by decide⟩⟩
  · cases hn : c.no
    · cases hr : c.rs with
      | nil => exact ⟨[], [], .inr (by simp [sepW])⟩
      | cons r rs =>
        obtain ⟨m, hm⟩ := rgW_head r ((rs.flatMap fun y => [124] :: rgW y) ++ l)
        exact ⟨Lib.itoa r.1, m, .inl ⟨by rw [← hm]; simp [sepW], itoa_ne _ (by decide), itoa_ne _ (by decide), itoa_ne _ (by decide), itoa_ne _ (by decide)⟩⟩
    · exact ⟨[110, 111, 116], sepW rgW [124] c.rs ++ l, .inl ⟨by simp, by decide, by decide, by decide, by decide⟩⟩
theorem okC_of {x : Txt} (h1 : x ≠ [46, 46]) (h2 : x ≠ [124]) (l : List Txt) : OkC (x :: l) := ⟨NotAt.cons l h1, NotAt.cons l h2⟩
theorem rule_ok {n : Nat} {r : Rl} (h : goodRule n r = true) (hn : 1 ≤ n) (t : List Txt) : ruleR ⟨ruleW r ++ t, false⟩ = (r, ⟨t, false⟩) := by
  obtain ⟨cells, out⟩ := r
  unfold goodRule at h
  simp only [Bool.and_eq_true, decide_eq_true_iff, List.all_eq_true] at h
  obtain ⟨⟨ho, hl⟩, hc⟩ := h
  have hI := items_ok (item := cellR) (sep := [44]) (g := cellW) (Ok := OkC) cellR_len (fun l => okC_of (by decide) (by decide) l) ([61, 62] :: Lib.itoa out :: [59] :: t) (okC_of (by decide) (by decide) _) (NotAt.cons _ (by decide)) cells [] (by rintro rfl; simp at hl; omega)
    fun c hc' l hl => cell_ok (hc c hc') l hl
  have e : ruleW ⟨cells, out⟩ ++ t = sepW cellW [44] cells ++ ([61, 62] :: Lib.itoa out :: [59] :: t) := by simp [ruleW]
  unfold ruleR
  rw [e, hI]
  simp only [List.nil_append, take_yes, number_ok ho]
theorem rules_ok {n : Nat} (hn : 1 ≤ n) (t : List Txt) : ∀ (l acc : List Rl), (∀ r ∈ l, goodRule n r = true) → rulesEnd ⟨l.flatMap ruleW ++ ([125] :: t), false⟩ acc = (acc ++ l, ⟨t, false⟩)
  | [], acc, _ => by
    rw [List.append_nil]
    exact rulesEnd_off acc rfl (at_yes [125] t false)
  | r :: l, acc, h => by
    have e : (r :: l).flatMap ruleW ++ ([125] :: t) = ruleW r ++ (l.flatMap ruleW ++ ([125] :: t)) := by simp
    have hr := h r (List.mem_cons_self ..)
    have hne : NotAt [125] (ruleW r ++ (l.flatMap ruleW ++ ([125] :: t))) := by
      have hl : r.cells.length = n := by
        unfold goodRule at hr
        simp only [Bool.and_eq_true, decide_eq_true_iff] at hr
        exact hr.1.2
      cases hc : r.cells with
      | nil => rw [hc] at hl; simp at hl; omega
      | cons c cs =>
        have e2 : ruleW r ++ (l.flatMap ruleW ++ ([125] :: t)) = cellW c ++ ((cs.flatMap fun y => [44] :: cellW y) ++ [[61, 62], Lib.itoa r.out, [59]] ++ (l.flatMap ruleW ++ ([125] :: t))) := by simp [ruleW, hc, sepW]
        rw [e2]
        obtain ⟨x, m, hx⟩ := cellW_head c ((cs.flatMap fun y => [44] :: cellW y) ++ [[61, 62], Lib.itoa r.out, [59]] ++ (l.flatMap ruleW ++ ([125] :: t)))
        rcases hx with hx | hx
        · rw [hx.1]; exact NotAt.cons _ hx.2.1
        · exfalso
          unfold cellW at hx
          split at hx
          · cases hx
          · rename_i h0
            cases hrs : c.rs with
            | nil => exact h0 (by rw [hrs]; rfl)
            | cons q qs =>
              rw [hrs] at hx
              have h1 := (List.append_eq_nil_iff.1 hx).2
              have h2 := (List.append_eq_nil_iff.1 h1).1
              obtain ⟨m, hm⟩ := rgW_head q []
              rw [h2] at hm
              cases hm
    rw [e, rulesEnd_on acc rfl (at_no false hne) (rule_ok hr hn _), rules_ok hn t l (acc ++ [r]) fun x hx => h x (List.mem_cons_of_mem _ hx)]
    simp
theorem idx_pol {p : Nat} (h1 : 1 ≤ p) (h : p ≤ 7) : idxOf pols (polTxt p) = p := by
  have : p = 1 ∨ p = 2 ∨ p = 3 ∨ p = 4 ∨ p = 5 ∨ p = 6 ∨ p = 7 := by omega
  rcases this with rfl | rfl | rfl | rfl | rfl | rfl | rfl <;> decide
theorem sepI_ok {l : List Txt} (h : ∀ s ∈ l, named s = true) (h0 : l ≠ []) (t : List Txt) (hn : NotAt [44] t) : itemsEnd nameR [44] ⟨sepW (fun s => [s]) [44] l ++ t, false⟩ [] = (l, ⟨t, false⟩) := by
  have := items_ok (item := nameR) (sep := [44]) (g := fun s : Txt => [s]) (Ok := fun _ => True) (fun r => by unfold nameR nextR; obtain ⟨l, b⟩ := r; cases l <;> simp) (fun _ => trivial) t trivial hn l [] h0 fun s hs x _ => name_ok (h s hs) x false
  simpa using this
theorem table_ok {t : Tb} (h : goodT t = true) : tabRd ⟨(tabW t).drop 1, false⟩ = (t, ⟨[], false⟩) := by
  obtain ⟨hp1, hp7, hi1, _, _, _⟩ := goodT_head h
  have hg := h
  unfold goodT at hg
  simp only [Bool.and_eq_true, List.all_eq_true] at hg
  have hn : named t.name = true := (head_yes hg.1.1).1
  have hi : ∀ s ∈ t.ins, named s = true := goodIns_named hg.1.2
  have hr := rules_ok (n := t.ins.length) hi1 [] t.rules [] hg.2
  have hI := sepI_ok hi (by intro e; rw [e] at hi1; simp at hi1) ([41] :: [123] :: (t.rules.flatMap ruleW ++ [[125]])) (NotAt.cons _ (by decide))
  obtain ⟨p, hp⟩ : ∃ p : Nat, t.pol = p := ⟨t.pol.toNat, by omega⟩
  have hx : idxOf pols (polTxt t.pol.toNat) = t.pol := by rw [hp]; exact idx_pol (by omega) (by omega)
  obtain ⟨nm, pol, comp, ins, rules⟩ := t
  dsimp only at *
  have rest : ∀ b, takeR ⟨[40] :: (sepW (fun s => [s]) [44] ins ++ ([41] :: [123] :: (rules.flatMap ruleW ++ [[125]]))), b⟩ [40] = ⟨sepW (fun s => [s]) [44] ins ++ ([41] :: [123] :: (rules.flatMap ruleW ++ [[125]])), b⟩ := fun b => take_yes _ _ _
  have nx : ∀ (x : Txt) l, nextR ⟨x :: l, false⟩ = (x, ⟨l, false⟩) := fun _ _ => rfl
  cases comp
  · have e : (tabW ⟨nm, pol, false, ins, rules⟩).drop 1 = nm :: polTxt pol.toNat :: [40] :: (sepW (fun s => [s]) [44] ins ++ ([41] :: [123] :: (rules.flatMap ruleW ++ [[125]]))) := by simp [tabW]
    unfold tabRd
    simp only [e, name_ok hn, nx, hx, at_no false (NotAt.cons (s := [99, 111, 109, 112, 108, 101, 116, 101]) (x := [40]) (sepW (fun s => [s]) [44] ins ++ ([41] :: [123] :: (rules.flatMap ruleW ++ [[125]]))) (by decide)), rest, hI, take_yes, hr, List.nil_append]
  · have e : (tabW ⟨nm, pol, true, ins, rules⟩).drop 1 = nm :: polTxt pol.toNat :: [99, 111, 109, 112, 108, 101, 116, 101] :: [40] :: (sepW (fun s => [s]) [44] ins ++ ([41] :: [123] :: (rules.flatMap ruleW ++ [[125]]))) := by simp [tabW]
    unfold tabRd
    simp only [e, name_ok hn, nx, hx, at_yes, rest, hI, take_yes, hr, List.nil_append]
/-- THE LAW for tables. -/
theorem parse_table {t : Tb} (h : goodT t = true) : parseR (tableTxt t) = ⟨dm0, t, true, 0⟩ := by
  have hl := tableTxt_len h
  have h0 : rd0 (tableTxt t) = ⟨tabW t, false⟩ := by unfold rd0; rw [split_table h]; rfl
  have e : tabW t = kwT :: (tabW t).drop 1 := by simp [tabW]
  have a1 : atR ⟨tabW t, false⟩ kwD = (false, ⟨tabW t, false⟩) := at_no false (by rw [e]; exact NotAt.cons _ (by decide))
  have a2 : atR ⟨tabW t, false⟩ kwT = (true, ⟨(tabW t).drop 1, false⟩) := by
    rw [e]
    exact at_yes _ _ _
  unfold parseR
  rw [if_neg (by omega), h0]
  simp only [a1, a2, table_ok h, h]
  simp
theorem goodD_nums {d : Dm} (h : goodD d = true) : named d.name = true ∧ isNum d.lo = true ∧ isNum d.hi = true := by
  unfold goodD at h
  simp only [Bool.and_eq_true, decide_eq_true_iff] at h
  obtain ⟨h1, h2, h3, h4⟩ := h
  exact ⟨h1, (isNum_iff _).2 ⟨h2, by omega⟩, (isNum_iff _).2 ⟨by omega, h4⟩⟩
theorem parse_domain {d : Dm} (h : goodD d = true) : parseR (domTxt d) = ⟨d, tb0, false, 0⟩ := by
  obtain ⟨hn, h1, h2⟩ := goodD_nums h
  have l1 := named_len hn
  have l2 := itoa_len8 _ h1
  have l3 := itoa_len8 _ h2
  have h0 : rd0 (domTxt d) = ⟨domW d, false⟩ := by unfold rd0; rw [split_dom hn]; rfl
  have e : domW d = kwD :: d.name :: Lib.itoa d.lo :: [46, 46] :: Lib.itoa d.hi :: [] := rfl
  have a1 : atR ⟨domW d, false⟩ kwD = (true, ⟨d.name :: Lib.itoa d.lo :: [46, 46] :: Lib.itoa d.hi :: [], false⟩) := by rw [e]; exact at_yes _ _ _
  have hd : domRd ⟨d.name :: Lib.itoa d.lo :: [46, 46] :: Lib.itoa d.hi :: [], false⟩ = (d, ⟨[], false⟩) := by
    unfold domRd
    simp only [name_ok hn, number_ok h1, take_yes, number_ok h2]
  unfold parseR
  rw [if_neg (by unfold domTxt; simp; omega), h0]
  simp only [a1, hd, h]
  simp

end Go.Proofs.YtlopccnehgolnabDoor
