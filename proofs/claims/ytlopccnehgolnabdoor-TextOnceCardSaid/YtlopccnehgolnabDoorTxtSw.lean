
/- Plain law: the words of a printed table and of a printed domain. -/
import Derived.Test.YtlopccnehgolnabDoorTxtSp
namespace Go.Proofs.YtlopccnehgolnabDoor
open Go.RowKit Rb

def sepW {α : Type} (g : α → List Txt) (sep : Txt) : List α → List Txt
  | [] => []
  | x :: r => g x ++ r.flatMap fun y => sep :: g y
def rgW (r : Rg) : List Txt := if r.1 < r.2 then [Lib.itoa r.1, [46, 46], Lib.itoa r.2] else [Lib.itoa r.1]
def cellW (c : Cl) : List Txt := if c.rs.length = 0 then [[42]] else (if c.no then [[110, 111, 116]] else []) ++ sepW rgW [124] c.rs
def ruleW (r : Rl) : List Txt := sepW cellW [44] r.cells ++ [[61, 62], Lib.itoa r.out, [59]]
def tabW (t : Tb) : List Txt := [kwT, t.name, polTxt t.pol.toNat] ++ ((if t.comp then [[99, 111, 109, 112, 108, 101, 116, 101]] else []) ++ ([[40]] ++ (sepW (fun s => [s]) [44] t.ins ++ ([[41], [123]] ++ (t.rules.flatMap ruleW ++ [[125]])))))
def domW (d : Dm) : List Txt := [kwD, d.name, Lib.itoa d.lo, [46, 46], Lib.itoa d.hi]

/-- A printed part falls into words, where no letter and no digit follows. -/
def Falls (a : Txt) (ws : List Txt) : Prop := ∀ t acc, Stop t → splitEnd (a ++ t) acc = splitEnd t (acc ++ ws)
theorem stop_sym {c : UInt8} (hc : c ∈ ([40, 41, 123, 125, 44, 59, 124, 42] : Txt)) (t : Txt) : Stop (c :: t) := by
  refine Stop.cons t ?_
  simp only [List.mem_cons, List.not_mem_nil, or_false] at hc
  rcases hc with rfl | rfl | rfl | rfl | rfl | rfl | rfl | rfl <;> exact ⟨by decide, by decide⟩
theorem falls_tail {α : Type} {f : α → Txt} {g : α → List Txt} {c : UInt8} (hc : c ∈ ([40, 41, 123, 125, 44, 59, 124, 42] : Txt)) : ∀ (r : List α), (∀ x ∈ r, Falls (f x) (g x)) → ∀ t, Stop t → Stop (Lib.joinTail [c] (r.map f) ++ t) ∧ ∀ acc, splitEnd (Lib.joinTail [c] (r.map f) ++ t) acc = splitEnd t (acc ++ r.flatMap fun y => [c] :: g y)
  | [], _, t, ht => ⟨by simpa [Lib.joinTail] using ht, fun acc => by simp [Lib.joinTail]⟩
  | x :: r, h, t, ht => by
    obtain ⟨h1, h2⟩ := falls_tail hc r (fun x hx => h x (List.mem_cons_of_mem _ hx)) t ht
    have e : Lib.joinTail [c] ((x :: r).map f) ++ t = c :: (f x ++ (Lib.joinTail [c] (r.map f) ++ t)) := by simp [Lib.joinTail]
    rw [e]
    refine ⟨stop_sym hc _, fun acc => ?_⟩
    rw [split_sym hc, h x (List.mem_cons_self ..) _ _ h1, h2]
    simp
theorem falls_join {α : Type} {f : α → Txt} {g : α → List Txt} {c : UInt8} (hc : c ∈ ([40, 41, 123, 125, 44, 59, 124, 42] : Txt)) (l : List α) (h : ∀ x ∈ l, Falls (f x) (g x)) : Falls (Lib.join (l.map f) [c]) (sepW g [c] l) := by
  intro t acc ht
  cases l with
  | nil => simp [Lib.join_nil, sepW]
  | cons x r =>
    obtain ⟨h1, h2⟩ := falls_tail hc r (fun x hx => h x (List.mem_cons_of_mem _ hx)) t ht
    rw [List.map_cons, Lib.join_cons, List.append_assoc, h x (List.mem_cons_self ..) _ _ h1, h2]
    simp [sepW]
theorem stop_dots (t : Txt) : Stop (46 :: t) := Stop.cons t ⟨by decide, by decide⟩
theorem stop_sp (t : Txt) : Stop (32 :: t) := Stop.cons t ⟨by decide, by decide⟩
theorem stop_nl (t : Txt) : Stop (10 :: t) := Stop.cons t ⟨by decide, by decide⟩
theorem falls_rg (r : Rg) : Falls (rgTxt r) (rgW r) := by
  intro t acc ht
  unfold rgTxt rgW
  split
  · rw [List.append_assoc, split_num _ _ (by simp only [List.cons_append]; exact stop_dots _)]
    simp only [List.cons_append, List.nil_append]
    rw [split_dots, split_num _ _ ht]
    simp
  · exact split_num _ _ ht
theorem falls_cell (c : Cl) : Falls (cellTxt c) (cellW c) := by
  intro t acc ht
  unfold cellTxt cellW
  split
  · exact split_sym (by decide) t acc
  · have h := falls_join (f := rgTxt) (g := rgW) (c := 124) (by decide) c.rs fun x _ => falls_rg x
    cases c.no
    · simp only [Bool.false_eq_true, if_false, List.nil_append]
      exact h t acc ht
    · simp only [if_true]
      have e : (([110, 111, 116, 32] : Txt) ++ Lib.join (c.rs.map rgTxt) [124]) ++ t = [110, 111, 116] ++ (32 :: (Lib.join (c.rs.map rgTxt) [124] ++ t)) := by simp
      rw [e, split_name acc (by decide) (by decide) (stop_sp _), split_sp, h _ _ ht]
      simp
theorem split_row (r : Rl) (t : Txt) (acc : List Txt) : splitEnd (rowTxt r ++ t) acc = splitEnd t (acc ++ ruleW r) := by
  have h := falls_join (f := cellTxt) (g := cellW) (c := 44) (by decide) r.cells fun x _ => falls_cell x
  have e : rowTxt r ++ t = 32 :: 32 :: (Lib.join (r.cells.map cellTxt) [44] ++ (32 :: 61 :: 62 :: 32 :: (Lib.itoa r.out ++ (59 :: 10 :: t)))) := by simp [rowTxt]
  rw [e, split_sp, split_sp, h _ _ (stop_sp _), split_sp, split_arrow, split_sp, split_num _ _ (stop_sym (by decide) _), split_sym (by decide), split_nl]
  simp [ruleW]
theorem split_rows (t : Txt) : ∀ (l : List Rl) (acc : List Txt), splitEnd (rowsTxt l ++ t) acc = splitEnd t (acc ++ l.flatMap ruleW)
  | [], acc => by simp [rowsTxt]
  | r :: l, acc => by
    have e : rowsTxt (r :: l) ++ t = rowTxt r ++ (rowsTxt l ++ t) := by simp [rowsTxt]
    rw [e, split_row, split_rows t l]
    simp
theorem named_let {s : Txt} (h : named s = true) : s.all isLet = true ∧ s ≠ [] := by
  unfold named at h
  simp only [Bool.and_eq_true, decide_eq_true_iff] at h
  refine ⟨h.1, ?_⟩
  rintro rfl
  simp at h
theorem falls_name {s : Txt} (h : named s = true) : Falls s [s] := fun _ acc ht => split_name acc (named_let h).1 (named_let h).2 ht
theorem polTxt_named {p : Nat} (h1 : 1 ≤ p) (h : p ≤ 7) : named (polTxt p) = true := by
  have : p = 1 ∨ p = 2 ∨ p = 3 ∨ p = 4 ∨ p = 5 ∨ p = 6 ∨ p = 7 := by omega
  rcases this with rfl | rfl | rfl | rfl | rfl | rfl | rfl <;> decide
theorem split_table {t : Tb} (h : goodT t = true) : splitEnd (tableTxt t) [] = some (tabW t) := by
  obtain ⟨hp1, hp7, _⟩ := goodT_head h
  have hn : named t.name = true := by
    unfold goodT at h
    simp only [Bool.and_eq_true] at h
    exact (head_yes h.1.1).1
  have hi : ∀ s ∈ t.ins, named s = true := by
    unfold goodT at h
    simp only [Bool.and_eq_true] at h
    exact goodIns_named h.1.2
  have hj := falls_join (f := fun s : Txt => s) (g := fun s => [s]) (c := 44) (by decide) t.ins fun s hs => falls_name (hi s hs)
  rw [List.map_id'] at hj
  have hpn := polTxt_named (p := t.pol.toNat) (by omega) (by omega)
  have tail : ∀ acc, splitEnd (40 :: (Lib.join t.ins [44] ++ (41 :: 32 :: 123 :: 10 :: (rowsTxt t.rules ++ [125, 10])))) acc = some (acc ++ ([[40]] ++ (sepW (fun s => [s]) [44] t.ins ++ ([[41], [123]] ++ (t.rules.flatMap ruleW ++ [[125]]))))) := by
    intro acc
    rw [split_sym (by decide), hj _ _ (stop_sym (by decide) _), split_sym (by decide), split_sp, split_sym (by decide), split_nl, split_rows, split_sym (by decide), split_nl]
    simp [splitEnd, splitGo]
  have e : tableTxt t = kwT ++ (32 :: (t.name ++ (32 :: (polTxt t.pol.toNat ++ (32 :: ((if t.comp then [99, 111, 109, 112, 108, 101, 116, 101, 32] else []) ++ (40 :: (Lib.join t.ins [44] ++ (41 :: 32 :: 123 :: 10 :: (rowsTxt t.rules ++ [125, 10])))))))))) := by
    unfold tableTxt headTxt kwT
    cases t.comp <;> simp
  rw [e, split_name [] (by decide) (by decide) (stop_sp _), split_sp, falls_name hn _ _ (stop_sp _), split_sp, falls_name hpn _ _ (stop_sp _), split_sp]
  cases hc : t.comp
  · simp only [Bool.false_eq_true, if_false, List.nil_append]
    rw [tail]
    simp [tabW, hc]
  · simp only [if_true]
    have e2 : ∀ x : Txt, ([99, 111, 109, 112, 108, 101, 116, 101, 32] : Txt) ++ x = [99, 111, 109, 112, 108, 101, 116, 101] ++ (32 :: x) := fun x => by simp
    rw [e2, split_name _ (by decide) (by decide) (stop_sp _), split_sp, tail]
    simp [tabW, hc]
theorem split_dom {d : Dm} (h : named d.name = true) : splitEnd (domTxt d) [] = some (domW d) := by
  have e : domTxt d = kwD ++ (32 :: (d.name ++ (32 :: (Lib.itoa d.lo ++ (46 :: 46 :: (Lib.itoa d.hi ++ [10])))))) := by simp [domTxt, kwD]
  rw [e, split_name [] (by decide) (by decide) (stop_sp _), split_sp, falls_name h _ _ (stop_sp _), split_sp, split_num _ _ (stop_dots _), split_dots, split_num _ _ (stop_nl _), split_nl]
  simp [splitEnd, splitGo, domW]

end Go.Proofs.YtlopccnehgolnabDoor
