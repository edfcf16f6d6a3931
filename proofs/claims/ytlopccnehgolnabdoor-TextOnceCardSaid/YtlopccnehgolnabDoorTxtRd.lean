
/- Plain law: the words of a printed table are read as the table. -/
import Derived.Test.YtlopccnehgolnabDoorTxtSw
namespace Go.Proofs.YtlopccnehgolnabDoor
open Go.RowKit Rb

def NotAt (s : Txt) (l : List Txt) : Prop := ∀ x r, l = x :: r → x ≠ s
theorem NotAt.cons {s x : Txt} (r : List Txt) (h : x ≠ s) : NotAt s (x :: r) := fun _ _ e => by injection e with e1 _; subst e1; exact h
theorem at_no {s : Txt} {l : List Txt} (b : Bool) (h : NotAt s l) : atR ⟨l, b⟩ s = (false, ⟨l, b⟩) := by
  cases l with
  | nil => rfl
  | cons x r => simp [atR, h x r rfl]
theorem at_yes (s : Txt) (l : List Txt) (b : Bool) : atR ⟨s :: l, b⟩ s = (true, ⟨l, b⟩) := by simp [atR]
theorem take_yes (s : Txt) (l : List Txt) (b : Bool) : takeR ⟨s :: l, b⟩ s = ⟨l, b⟩ := by simp [takeR, at_yes]
theorem number_ok {v : Int} (h : isNum v = true) (l : List Txt) (b : Bool) : numberR ⟨Lib.itoa v :: l, b⟩ = (v, ⟨l, b⟩) := by
  unfold numberR
  have : (nextR ⟨Lib.itoa v :: l, b⟩).1 = Lib.itoa v := rfl
  rw [this, numOf_itoa h]
  rfl
theorem name_ok {s : Txt} (h : named s = true) (l : List Txt) (b : Bool) : nameR ⟨s :: l, b⟩ = (s, ⟨l, b⟩) := by simp [nameR, nextR, h]
theorem range_ok {r : Rg} (h1 : isNum r.1 = true) (h2 : isNum r.2 = true) (hle : r.1 ≤ r.2) (l : List Txt) (hl : NotAt [46, 46] l) : rangeR ⟨rgW r ++ l, false⟩ = (r, ⟨l, false⟩) := by
  unfold rangeR rgW
  split
  · rename_i h
    have e : ([Lib.itoa r.1, [46, 46], Lib.itoa r.2] : List Txt) ++ l = Lib.itoa r.1 :: [46, 46] :: Lib.itoa r.2 :: l := rfl
    simp only [e, number_ok h1, at_yes, number_ok h2, if_true]
    have : ¬ r.2 ≤ r.1 := by omega
    simp [this]
  · rename_i h
    have e : ([Lib.itoa r.1] : List Txt) ++ l = Lib.itoa r.1 :: l := rfl
    simp only [e, number_ok h1, at_no false hl]
    have : r = (r.1, r.1) := Prod.ext rfl (by dsimp only; omega)
    rw [← this]
    simp
/-- Items with a word between are read as the items. -/
theorem items_ok {α : Type} {item : Rs → α × Rs} {sep : Txt} {g : α → List Txt} {Ok : List Txt → Prop} (hi : ∀ r, (item r).2.l.length ≤ r.l.length) (hs : ∀ l, Ok (sep :: l)) (rest : List Txt) (hr : Ok rest) (hn : NotAt sep rest) :
    ∀ (l : List α) (acc : List α), l ≠ [] → (∀ x ∈ l, ∀ t, Ok t → item ⟨g x ++ t, false⟩ = (x, ⟨t, false⟩)) → itemsEnd item sep ⟨sepW g sep l ++ rest, false⟩ acc = (acc ++ l, ⟨rest, false⟩)
  | [], _, h, _ => absurd rfl h
  | [x], acc, _, h => by
    have e : sepW g sep [x] ++ rest = g x ++ rest := by simp [sepW]
    rw [e]
    exact itemsEnd_off acc rfl (h x (List.mem_singleton_self x) rest hr) (at_no false hn)
  | x :: y :: l, acc, _, h => by
    have e : sepW g sep (x :: y :: l) ++ rest = g x ++ (sep :: (sepW g sep (y :: l) ++ rest)) := by simp [sepW]
    rw [e, itemsEnd_on hi acc rfl (h x (List.mem_cons_self ..) _ (hs _)) (at_yes sep _ _), items_ok hi hs rest hr hn (y :: l) (acc ++ [x]) (by simp) fun z hz => h z (List.mem_cons_of_mem _ hz)]
    simp
theorem cellGo_items : ∀ (f : Nat) (r : Rs) (acc : List Rg), cellGo f r acc = itemsGo rangeR [124] f r acc := by
  intro f
  induction f with
  | zero => intro _ _; rfl
  | succ f ih => intro r acc; simp only [cellGo, itemsGo, ih]
theorem cellEnd_items (r : Rs) (acc : List Rg) : cellEnd r acc = itemsEnd rangeR [124] r acc := cellGo_items _ _ _
theorem isSetB_le : ∀ {l : List Rg} {a : Int}, isSetB a l = true → ∀ r ∈ l, r.1 ≤ r.2
  | [], _, _, _, hr => by simp at hr
  | x :: l, a, h, r, hr => by
    simp only [isSetB, Bool.and_eq_true, decide_eq_true_iff] at h
    rcases List.mem_cons.1 hr with rfl | hr
    · exact h.1.1.2
    · exact isSetB_le h.2 r hr
/-- What may follow a cell. -/
def OkC (l : List Txt) : Prop := NotAt [46, 46] l ∧ NotAt [124] l
theorem itoa_ne (v : Int) {s : Txt} (h : s.head?.all (fun c => !(decide (c.toNat = 45) || isDig c)) = true) : Lib.itoa v ≠ s := by
  obtain ⟨c, t, e, hc, _⟩ := itoa_word v
  rintro rfl
  rw [e] at h
  simp at h
  rcases hc with hc | hc
  · exact h.1 hc
  · rw [h.2] at hc; cases hc
theorem rgW_head (r : Rg) (l : List Txt) : ∃ m, rgW r ++ l = Lib.itoa r.1 :: m := by
  unfold rgW
  split <;> exact ⟨_, rfl⟩
theorem cell_ok {c : Cl} (h : goodCell c = true) (t : List Txt) (ht : OkC t) : cellR ⟨cellW c ++ t, false⟩ = (c, ⟨t, false⟩) := by
  obtain ⟨no, rs⟩ := c
  unfold goodCell at h
  simp only [Bool.and_eq_true, decide_eq_true_iff] at h
  obtain ⟨⟨_, hs⟩, hn⟩ := h
  unfold cellR cellW
  dsimp only
  by_cases h0 : rs.length = 0
  · rw [if_pos h0]
    obtain rfl : rs = [] := List.eq_nil_of_length_eq_zero h0
    obtain rfl : no = false := by simpa using hn
    have e : ([[42]] : List Txt) ++ t = [42] :: t := rfl
    simp only [e, at_yes, if_true]
  · rw [if_neg h0]
    have hI := items_ok (item := rangeR) (sep := [124]) (g := rgW) (Ok := NotAt [46, 46]) rangeR_len (fun l => NotAt.cons l (by decide)) t ht.1 ht.2 rs [] (by rintro rfl; exact h0 rfl)
      fun r hr l hl => range_ok (isSetB_num hs r hr).1 (isSetB_num hs r hr).2 (isSetB_le hs r hr) l hl
    rw [List.nil_append, ← cellEnd_items] at hI
    obtain ⟨m, hm⟩ : ∃ m v, sepW rgW [124] rs ++ t = Lib.itoa v :: m := by
      cases rs with
      | nil => exact absurd rfl h0
      | cons r l =>
        obtain ⟨m, hm⟩ := rgW_head r ((l.flatMap fun y => [124] :: rgW y) ++ t)
        exact ⟨m, r.1, by rw [← hm]; simp [sepW]⟩
    obtain ⟨v, hm⟩ := hm
    have n1 : NotAt [42] (sepW rgW [124] rs ++ t) := by rw [hm]; exact NotAt.cons _ (itoa_ne v (by decide))
    have n2 : NotAt [110, 111, 116] (sepW rgW [124] rs ++ t) := by rw [hm]; exact NotAt.cons _ (itoa_ne v (by decide))
    cases no
    · simp only [Bool.false_eq_true, if_false, List.nil_append]
      simp only [at_no false n1, at_no false n2, hI]
      simp
    · simp only [if_true]
      have e : (([[110, 111, 116]] : List Txt) ++ sepW rgW [124] rs) ++ t = [110, 111, 116] :: (sepW rgW [124] rs ++ t) := by simp
      have n3 : NotAt [42] ([110, 111, 116] :: (sepW rgW [124] rs ++ t)) := NotAt.cons _ (by decide)
      simp only [e, at_no false n3, at_yes, hI]
      simp

end Go.Proofs.YtlopccnehgolnabDoor
