
/- Contracts of CopyBox, Clone, Both of boxes. -/
import Derived.Test.YtlopccnehgolnabDoorBoxB
namespace Go.Proofs.YtlopccnehgolnabDoor
open Go.RowKit Rb

/-- append of one list of its own to an own row of lists: 'out = append(out, s)'. -/
theorem hS1_own {w : World} {base n : Nat} {S0 : Nat → Prop} {v : Value} (hb : base ≤ n) (hlt : ∀ k, v.ownBlock = some k → k < n) : ∀ b, Up (fun _ => False) n b → b < w.heap.size → Up S0 base b ∧ v.ownBlock ≠ some b := by
  intro b hb' _
  rcases hb' with h | h
  · exact h.elim
  · exact ⟨.inr (by omega), fun e => by have := hlt b e; omega⟩

set_option maxRecDepth 100000 in
set_option maxHeartbeats 400000 in
theorem CopyBox_any {S : Nat → Prop} {v : Value} {b : Bx} (w : World) (hl : rBx.rel w S [v] b) :
    Calls Tryd.prog 14 #[v] w fun e w' => ∃ z, e = .returned z ∧ Own (rSl rRg) 51 w' w.heap.size (fun _ => False) z b ∧ Below w.heap.size w w' := by
  obtain ⟨A, c, rfl, _, _, hbb, hE⟩ := rSl.elems hl
  have hbb' : b.length ≤ 5864062014805 := by simp only [rSl] at hbb; omega
  clear hl hbb
  go_enter Tryd.func14, Tryd.ntmps14
  go_wp2
  go_loopw [3, 8] (fun o i wr => ∃ k : Nat, k ≤ b.length ∧ i = .int .i64 k ∧ Own (rSl rRg) 51 wr w.heap.size (fun _ => False) o (b.take k) ∧ Below w.heap.size w wr) (fun _ i _ => b.length - (intOf i).toNat)
  case atStart => exact ⟨0, Nat.zero_le _, rfl, Own.nil _ _ _ _ _, Below.refl _ _⟩
  case round =>
    obtain ⟨k, hk, rfl, hown, hb⟩ := hrel
    have htl : (b.take k).length = k := by rw [List.length_take]; omega
    by_cases hlt : k < b.length
    · obtain ⟨p, off, v, s, rfl, _, hp, hx, hs, h1⟩ := hE.sl hlt
      rw [← hb.cell (p := ⟨p, _, none⟩) hp] at h1
      have hik : (k : Int) < (b.length : Int) := by omega
      have hs' := Rd.below hs hb
      obtain ⟨A2, c2, rfl, _, _, hl2, hE2⟩ := rSl.elems hs'
      have hl2' : s.length ≤ 8796093022208 := by simp only [rRg] at hl2; omega
      have HT := Lib.hid (take_getElem? hx)
      have hown_lt := hown.lt
      have HLT := Lib.hid hown_lt
      have HTL := Lib.hid htl
      clear hx hs hs' hl2 hE htl hown_lt
      generalize b.take k = out at *
      go_wp2_with (first
        | (at_builtin; (refine wpList_append_many (R := rRg) (v := .slice none 0 0) el_Rg rfl _ (.tmp 13) rfl rfl (Own.nil _ _ wr wr.heap.size (fun _ => False)) rfl (fun _ => False) rfl hE2 (fun _ _ h => h) (fun _ h => h.elim) ?_ (Nat.le_refl _) ?_); (simp only [rRg, List.length_nil]; omega); intro v1 w1 hown1 hb1 _ _; obtain ⟨A3, c3, rfl⟩ := hown1.value; simp only [List.nil_append] at hown1; have hr1 := hown1.rel (by decide); have hown2 := hown.below (hb1.mono (Nat.le_refl _)))
        | (at_builtin; go_must (refine wpList_append_new (R := rSl rRg) (x := s) el_Rgs rfl (.tmp 12) (.tmp 15) rfl rfl hown2 [_] rfl rfl (Up (fun _ => False) wr.heap.size) hr1 (hS1_own hb.size (fun k hk => (HLT.out k hk).2)) ?_ (Nat.le_trans hb.size hb1.size) ?_; (have := HTL.out; simp only [rSl]; omega); intro v9 w9 hown9 hb9 _ _)))
      go_roundw
      case rel => exact ⟨k + 1, by omega, by go_num, by rw [HT.out]; exact hown9, (hb.trans (hb1.mono hb.size)).trans hb9⟩
      case measure => simp [intOf]; omega
    · obtain ⟨z1, z2, rfl⟩ := hown.value
      have he : b.take k = b := List.take_of_length_le (by omega)
      have HE := Lib.hid (show b = b.take k from he.symm)
      clear he htl
      go_wp2
      go_ret
      exact ⟨_, rfl, by rw [HE.out]; simpa using hown, hb⟩

theorem Own.empty {α : Type} (R : Rd α) (e : TypeId) (w : World) {n : Nat} (S0 : Nat → Prop) (hn : w.heap.size = n) : Own R e (w.alloc (.cells #[] e)) n S0 (.slice (some ⟨n, 0, none⟩) 0 0) [] := by
  subst hn
  exact ⟨fun _ => False, ⟨[], ⟨by simp, .inr ⟨w.heap.size, 0, #[], rfl, Nat.le_refl _, heap_alloc_new w _, Nat.le_refl _, by decide, by simp, by simp⟩⟩, fun _ _ h => h, fun _ => by simp, fun i x h => by simp at h⟩, fun _ h => h.elim⟩

def zipBoth : Bx → Bx → Option Bx
  | s :: a, t :: b => if (bothS s t).length = 0 then none else (zipBoth a b).map (bothS s t :: ·)
  | _, _ => some []
def bothBx (a b : Bx) : Option Bx := if goodBx a (a.length : Int) && goodBx b (a.length : Int) then zipBoth a b else none
def optBx (o : Option Bx) : Bx := match o with | some x => x | none => []
def someBx (o : Option Bx) : Bool := match o with | some _ => true | none => false

end Go.Proofs.YtlopccnehgolnabDoor
