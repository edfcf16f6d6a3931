/- Contracts of Size, CopyBox, Clone, Both of boxes. Contracts of CopyBox, Clone, Both of boxes. The contract of the reference's BothBoxes; Clone at whatever elements. -/
import Derived.Test.YtlopccnehgolnabGreatDoorGrJ
import Derived.Test.YtlopccnehgolnabGreatDoorGrC
import Derived.Test.YtlopccnehgolnabGreatDoorGrK
import Derived.Test.YtlopccnehgolnabGreatDoorGrM
import Derived.StillTailTactics
import Derived.WalkSpells
import Derived.Deep.RegionHeld3
namespace Go.Proofs.YtlopccnehgolnabGreatDoor
open Go.RowKit Rb

theorem el_Rgs : ElemOf Tryz.prog (rSl rRg) 59 95 := .mk' Tryz.underlying59 (z := .slice none 0 0) (k := 1) (b := 24) (by kernel_rfl) rfl rfl rfl (by decide) (by decide)
theorem el_Bxs : ElemOf Tryz.prog rBx 110 59 := .mk' Tryz.underlying110 (z := .slice none 0 0) (k := 1) (b := 24) (by kernel_rfl) rfl rfl rfl (by decide) (by decide)

/-- How many inputs a box of sets has. -/
def prodS : Bx → Int
  | [] => 1
  | s :: b => sizeN s * prodS b
def sizeBx (b : Bx) : Int := if goodBx b (b.length : Int) then prodS b else 0
theorem sizeN_bd2 {s : List Rg} (h : GoodS s) : 0 ≤ sizeN s ∧ sizeN s ≤ 2000002 := by
  have h1 := sizeN_bd h
  have h2 : sizeN s ≤ 1000000 - (-1000000 - 2) := h1.2 (by unfold MX; omega)
  exact ⟨h1.1, by omega⟩

theorem mul_bd {a b A B : Int} (ha : 0 ≤ a) (hA : a ≤ A) (hb : 0 ≤ b) (hB : b ≤ B) : 0 ≤ a * b ∧ a * b ≤ A * B :=
  ⟨Int.mul_nonneg ha hb, Int.mul_le_mul hA hB hb (by omega)⟩


end Go.Proofs.YtlopccnehgolnabGreatDoor

namespace Go.Proofs.YtlopccnehgolnabGreatDoor
open Go.RowKit Rb

/-- append of one list of its own to an own row of lists: 'out = append(out, s)'. -/
theorem hS1_own {w : World} {base n : Nat} {S0 : Nat → Prop} {v : Value} (hb : base ≤ n) (hlt : ∀ k, v.ownBlock = some k → k < n) : ∀ b, Up (fun _ => False) n b → b < w.heap.size → Up S0 base b ∧ v.ownBlock ≠ some b := by
  intro b hb' _
  rcases hb' with h | h
  · exact h.elim
  · exact ⟨.inr (by omega), fun e => by have := hlt b e; omega⟩

set_option maxRecDepth 100000 in
set_option maxHeartbeats 400000 in
theorem CopyBox_any {S : Nat → Prop} {v : Value} {b : Bx} (w : World) (hl : rBx.rel w S [v] b) :
    Calls Tryz.prog 18 #[v] w fun e w' => ∃ z, e = .returned z ∧ Own (rSl rRg) 95 w' w.heap.size (fun _ => False) z b ∧ Below w.heap.size w w' := by
  obtain ⟨A, c, rfl, _, _, hbb, hE⟩ := rSl.elems hl
  have hbb' : b.length ≤ 5864062014805 := by simp only [rSl] at hbb; omega
  clear hl hbb
  go_enter Tryz.func18, Tryz.ntmps18
  go_wp2
  go_loopw [3, 8] (fun o i wr => ∃ k : Nat, k ≤ b.length ∧ i = .int .i64 k ∧ Own (rSl rRg) 95 wr w.heap.size (fun _ => False) o (b.take k) ∧ Below w.heap.size w wr) (fun _ i _ => b.length - (intOf i).toNat)
  case atStart => exact ⟨0, Nat.zero_le _, rfl, Own.nil _ _ _ _ _, Below.refl _ _⟩
  case round =>
    obtain ⟨k, hk, rfl, hown, hb⟩ := hrel
    have htl : (b.take k).length = k := by rw [List.length_take]; omega
    by_cases hlt : k < b.length
    · obtain ⟨p, off, v, s, rfl, _, hp, hx, hs, h1⟩ := hE.sl hlt
      rw [← hb.cell (p := ⟨p, _, none⟩) hp] at h1
      have hik : (k : Int) < (b.length : Int) := by omega
      have hs' := Rd.below hs hb
      obtain ⟨A2, c2, rfl, _, _, hl2, hE2⟩ := rSl.elems hs'
      have hl2' : s.length ≤ 8796093022208 := by simp only [rRg] at hl2; omega
      have HT := Lib.hid (take_getElem? hx)
      have hown_lt := hown.lt
      have HLT := Lib.hid hown_lt
      have HTL := Lib.hid htl
      clear hx hs hs' hl2 hE htl hown_lt
      generalize b.take k = out at *
      go_wp2_with (first
        | (at_builtin; (refine wpList_append_many (R := rRg) (v := .slice none 0 0) el_Rg rfl _ (.tmp 13) rfl rfl (Own.nil _ _ wr wr.heap.size (fun _ => False)) rfl (fun _ => False) rfl hE2 (fun _ _ h => h) (fun _ h => h.elim) ?_ (Nat.le_refl _) ?_); (simp only [rRg, List.length_nil]; omega); intro v1 w1 hown1 hb1 _ _; obtain ⟨A3, c3, rfl⟩ := hown1.value; simp only [List.nil_append] at hown1; have hr1 := hown1.rel (by decide); have hown2 := hown.below (hb1.mono (Nat.le_refl _)))
        | (at_builtin; go_must (refine wpList_append_new (R := rSl rRg) (x := s) el_Rgs rfl (.tmp 12) (.tmp 15) rfl rfl hown2 [_] rfl rfl (Up (fun _ => False) wr.heap.size) hr1 (hS1_own hb.size (fun k hk => (HLT.out k hk).2)) ?_ (Nat.le_trans hb.size hb1.size) ?_; (have := HTL.out; simp only [rSl]; omega); intro v9 w9 hown9 hb9 _ _)))
      go_roundw
      case rel => exact ⟨k + 1, by omega, by go_num, by rw [HT.out]; exact hown9, (hb.trans (hb1.mono hb.size)).trans hb9⟩
      case measure => simp [intOf]; omega
    · obtain ⟨z1, z2, rfl⟩ := hown.value
      have he : b.take k = b := List.take_of_length_le (by omega)
      have HE := Lib.hid (show b = b.take k from he.symm)
      clear he htl
      go_wp2
      go_ret
      exact ⟨_, rfl, by rw [HE.out]; simpa using hown, hb⟩

theorem Own.empty {α : Type} (R : Rd α) (e : TypeId) (w : World) {n : Nat} (S0 : Nat → Prop) (hn : w.heap.size = n) : Own R e (w.alloc (.cells #[] e)) n S0 (.slice (some ⟨n, 0, none⟩) 0 0) [] := by
  subst hn
  exact ⟨fun _ => False, ⟨[], ⟨by simp, .inr ⟨w.heap.size, 0, #[], rfl, Nat.le_refl _, heap_alloc_new w _, Nat.le_refl _, by decide, by simp, by simp⟩⟩, fun _ _ h => h, fun _ => by simp, fun i x h => by simp at h⟩, fun _ h => h.elim⟩

set_option maxRecDepth 100000 in
theorem Clone_any {S : Nat → Prop} {v : Value} {b : Bx} (w : World) (hl : rBx.rel w S [v] b) :
    Calls Tryz.prog 152 #[v] w fun e w' => ∃ z, e = .returned z ∧ Own (rSl rRg) 95 w' w.heap.size S z b ∧ Below w.heap.size w w' := by
  obtain ⟨A, c, rfl, _, _, hbb, hE⟩ := rSl.elems hl
  have hbb' : b.length ≤ 5864062014805 := by simp only [rSl] at hbb; omega
  clear hl hbb
  have hq := fun (w : World) (a : Option Addr) (n c : Nat) => Lib.run_eql_slice_nil (P := Tryz.prog) w 59 95 a n c 0 0 Tryz.underlying59
  rcases A with _ | a
  · have hb0 : b = [] := by
      cases b with
      | nil => rfl
      | cons x t =>
        obtain ⟨_, _, _, h, _⟩ := hE 0 x rfl
        cases h
    subst hb0
    go_enter Tryz.func152, Tryz.ntmps152
    go_wp2
    go_ret
    exact ⟨_, rfl, Own.nil _ _ _ _ _, Below.refl _ _⟩
  · have hE2 := hE.keep (Keeps.alloc (S := S) (.cells #[] 95))
    have hE3 : Elems (rSl rRg) (w.alloc (.cells #[] 95)) (fun b => S b ∧ b < w.heap.size) (some a) b := (hE.mono (S' := fun b => S b ∧ b < w.heap.size) fun b hb hlt => ⟨hb, hlt⟩).keep (Keeps.alloc _)
    have hS : ∀ b, (S b ∧ b < w.heap.size) → b < (w.alloc (.cells #[] 95)).heap.size → Up S w.heap.size b ∧ (Value.slice (some ⟨w.heap.size, 0, none⟩) 0 0).ownBlock ≠ some b := fun b hb _ =>
      ⟨.inl hb.1, fun e => by simp [Value.ownBlock] at e; omega⟩
    clear hE2 hE
    go_enter Tryz.func152, Tryz.ntmps152
    go_wp2_with (first | (at_builtin; go_must (refine wpList_append_many (R := rSl rRg) (v := .slice (some ⟨w.heap.size, 0, none⟩) 0 0) (S0 := S) el_Rgs rfl (.tmp 5) (.tmp 6) rfl rfl (Own.empty (rSl rRg) 95 w S rfl) rfl (fun b => S b ∧ b < w.heap.size) rfl hE3 (fun _ _ h => h) hS ?_ (by simp) ?_); (simp only [rSl, List.length_nil]; omega); intro v1 w1 hown1 hb1 _ _; obtain ⟨A3, c3, rfl⟩ := hown1.value; simp only [List.nil_append] at hown1))
    go_ret
    exact ⟨_, rfl, hown1, ((Below.refl _ _).alloc (Nat.le_refl _) _).trans hb1⟩

def zipBoth : Bx → Bx → Option Bx
  | s :: a, t :: b => if (bothS s t).length = 0 then none else (zipBoth a b).map (bothS s t :: ·)
  | _, _ => some []
def bothBx (a b : Bx) : Option Bx := if goodBx a (a.length : Int) && goodBx b (a.length : Int) then zipBoth a b else none
def optBx (o : Option Bx) : Bx := match o with | some x => x | none => []
def someBx (o : Option Bx) : Bool := match o with | some _ => true | none => false

set_option maxRecDepth 100000 in
set_option maxHeartbeats 400000 in
theorem BBoth_any {S T : Nat → Prop} {v u : Value} {a b : Bx} (w : World) (hl : rBx.rel w S [v] a) (hm : rBx.rel w T [u] b) :
    Calls Tryz.prog 62 #[v, u] w fun e w' => ∃ z, e = .returned (.tuple #[z, .bool (someBx (bothBx a b))]) ∧ Own (rSl rRg) 95 w' w.heap.size (fun _ => False) z (optBx (bothBx a b)) ∧ Below w.heap.size w w' := by
  have hal := rSl.lenle hl (by decide)
  have HG := Lib.hid (BGood_any (a.length : Int) w hl)
  have HG2 := Lib.hid fun w' (hb : Below w.heap.size w w') => BGood_any (a.length : Int) w' (Rd.below hm hb)
  obtain ⟨A, c, rfl, _, _, hbb, hE⟩ := rSl.elems hl
  obtain ⟨B, d, rfl, _, _, _, hF⟩ := rSl.elems hm
  have hbb' : a.length ≤ 5864062014805 := by simp only [rSl] at hbb; omega
  clear hl hm hbb
  cases hg : goodBx a (a.length : Int)
  · rw [hg] at HG
    have HF : Hid (bothBx a b = none) := Lib.hid (by unfold bothBx; rw [hg]; rfl)
    clear hg
    go_enter Tryz.func62, Tryz.ntmps62
    go_wp2_with (first | (go_at_call 52; ((with_reducible refine HG.out.mono ?_); rintro e w1 ⟨rfl, hb1⟩)))
    go_ret2
    exact ⟨_, by rw [HF.out]; rfl, by rw [HF.out]; exact Own.nil _ _ _ _ _, hb1⟩
  rw [hg] at HG
  cases hg2 : goodBx b (a.length : Int)
  · rw [hg2] at HG2
    have HF : Hid (bothBx a b = none) := Lib.hid (by unfold bothBx; rw [hg, hg2]; rfl)
    clear hg hg2
    go_enter Tryz.func62, Tryz.ntmps62
    go_wp2_with (first | (go_at_call 52; ((with_reducible refine HG.out.mono ?_); rintro e w1 ⟨rfl, hb1⟩)) | (go_at_call 52; ((with_reducible refine (HG2.out _ hb1).mono ?_); rintro e w2 ⟨rfl, hb2⟩)))
    go_ret2
    exact ⟨_, by rw [HF.out]; rfl, by rw [HF.out]; exact Own.nil _ _ _ _ _, hb1.trans (hb2.mono hb1.size)⟩
  rw [hg2] at HG2
  obtain ⟨ga, _, ha3⟩ := goodBx_iff.1 hg
  obtain ⟨gb, hab, _⟩ := goodBx_iff.1 hg2
  have HGS := Lib.hid (And.intro ga gb)
  have HF : Hid (bothBx a b = (zipBoth (a.drop 0) (b.drop 0)).map ((a.take 0) ++ ·)) := Lib.hid (by unfold bothBx; rw [hg, hg2]; simp)
  clear hg hg2 ga gb
  have HAB := Lib.hid hab
  clear hab
  go_enter Tryz.func62, Tryz.ntmps62
  go_wp2_with (first | (go_at_call 52; ((with_reducible refine HG.out.mono ?_); rintro e w1 ⟨rfl, hb1⟩)) | (go_at_call 52; ((with_reducible refine (HG2.out _ hb1).mono ?_); rintro e w2 ⟨rfl, hb2⟩)))
  have hbx := hb1.trans (hb2.mono hb1.size)
  go_loopw [6, 23] (fun o i wr => ∃ (k : Nat) (out : Bx), k ≤ a.length ∧ i = .int .i64 k ∧ out.length = k ∧ Own (rSl rRg) 95 wr w.heap.size (fun _ => False) o out ∧ Hid (bothBx a b = (zipBoth (a.drop k) (b.drop k)).map (out ++ ·)) ∧ Below w.heap.size w wr) (fun _ i _ => a.length - (intOf i).toNat)
  case atStart => exact ⟨0, [], Nat.zero_le _, rfl, rfl, Own.nil _ _ _ _ _, HF, hbx⟩
  case round =>
    obtain ⟨k, out, hk, rfl, hol, hown, HK, hb⟩ := hrel
    by_cases hlt : k < a.length
    · have hltb : k < b.length := by have := HAB.out; omega
      obtain ⟨p, off, v, s, rfl, _, hp, hx, hs, h1⟩ := hE.sl hlt
      obtain ⟨q, off', v', t, rfl, _, hq, hx', hs', h2⟩ := hF.sl hltb
      rw [← hb.cell (p := ⟨p, _, none⟩) hp] at h1
      rw [← hb.cell (p := ⟨q, _, none⟩) hq] at h2
      have hik : (k : Int) < (a.length : Int) := by omega
      have hik2 : (k : Int) < (b.length : Int) := by omega
      have hC := Both_any wr.drew (Rd.drew (Rd.below hs hb)) (Rd.drew (Rd.below hs' hb)) (HGS.out.1 s (List.mem_of_getElem? hx)).2 (HGS.out.2 t (List.mem_of_getElem? hx')).2
      have HC := Lib.hid hC
      obtain ⟨A2, c2, rfl, _⟩ := rSl.elems hs
      obtain ⟨A3, c3, rfl, _⟩ := rSl.elems hs'
      have HKn : Hid (bothBx a b = if (bothS s t).length = 0 then none else (zipBoth (a.drop (k + 1)) (b.drop (k + 1))).map ((out ++ [bothS s t]) ++ ·)) := Lib.hid (by
        rw [HK.out, drop_cons hx, drop_cons hx', zipBoth]
        split
        · rfl
        · cases zipBoth (a.drop (k + 1)) (b.drop (k + 1)) <;> simp)
      clear hx hx' hs hs' hC HK hE hF
      generalize bothS s t = bs at *
      go_wp2
      go_still_tail 8, (by kernel_rfl)
      change wpList _ _ _ _ _ wr.drew
      have HLT := Lib.hid hown.lt
      have hownd := hown.drew
      have hbd : Below w.heap.size w wr.drew := drewN_below hb 1
      have hsz : wr.drew.heap.size = wr.heap.size := rfl
      generalize wr.drew = wd at *
      by_cases hz : bs.length = 0
      · have HFN : Hid (bothBx a b = none) := Lib.hid (by rw [HKn.out, if_pos hz])
        go_wp2_with (first | (go_at_call 124; ((with_reducible refine HC.out.mono ?_); rintro e w3 ⟨z3, rfl, hown3, hb3⟩; obtain ⟨A4, c4, rfl⟩ := hown3.value)))
        go_ret2
        exact ⟨_, by rw [HFN.out]; rfl, by rw [HFN.out]; exact Own.nil _ _ _ _ _, hbd.trans (hb3.mono hbd.size)⟩
      · have HFN : Hid (bothBx a b = (zipBoth (a.drop (k + 1)) (b.drop (k + 1))).map ((out ++ [bs]) ++ ·)) := Lib.hid (by rw [HKn.out, if_neg hz])
        have hz2 : ((bs.length : Int) == 0) = false := by rw [beq_eq_false_iff_ne]; omega
        clear hz
        go_wp2_with (first | (go_at_call 124; ((with_reducible refine HC.out.mono ?_); rintro e w3 ⟨z3, rfl, hown3, hb3⟩; obtain ⟨A4, c4, rfl⟩ := hown3.value; have hr3 := hown3.rel (by decide); have hown2 := hownd.below hb3)) | (at_builtin; go_must (refine wpList_append_new (R := rSl rRg) (x := bs) el_Rgs rfl (.tmp 38) (.tmp 40) rfl rfl hown2 [_] rfl rfl (Up (fun _ => False) wd.heap.size) hr3 (hS1_own hbd.size (fun k hk => by rw [hsz]; exact (HLT.out k hk).2)) ?_ (Nat.le_trans hbd.size hb3.size) ?_; (simp only [rSl]; omega); intro v9 w9 hown9 hb9 _ _)))
        go_roundw
        case rel => exact ⟨k + 1, out ++ [bs], by omega, by go_num, by simp [hol], hown9, HFN, (hbd.trans (hb3.mono hbd.size)).trans hb9⟩
        case measure => simp [intOf]; omega
    · obtain ⟨z1, z2, rfl⟩ := hown.value
      have HFN : Hid (bothBx a b = some out) := Lib.hid (by rw [HK.out, List.drop_eq_nil_of_le (by omega)]; simp [zipBoth])
      go_wp2
      go_ret2
      exact ⟨_, by rw [HFN.out]; rfl, by rw [HFN.out]; exact hown, hb⟩
end Go.Proofs.YtlopccnehgolnabGreatDoor

namespace Go.Proofs.YtlopccnehgolnabGreatDoor
open Go.RowKit Rb

/-- A literal of one list, just laid: its one element. -/
theorem Elems.lit1 {α : Type} {R : Rd α} {w : World} {S : Nat → Prop} {v : Value} {x : α} (t : TypeId) (hk : R.k = 1) (hr : R.rel w S [v] x) : Elems R (w.alloc (.cells #[v] t)) (fun b => S b ∨ b = w.heap.size) (some ⟨w.heap.size, 0, none⟩) [x] := by
  intro i y hy
  match i, hy with
  | 0, hy =>
    obtain rfl : x = y := by simpa using hy
    refine ⟨w.heap.size, 0, [v], rfl, .inr rfl, by simp, R.mono (Rd.alloc hr _) fun b hb _ => .inl hb, fun j u hu => ?_⟩
    match j, hu with
    | 0, hu =>
      obtain rfl : v = u := by simpa using hu
      simp [hk]

end Go.Proofs.YtlopccnehgolnabGreatDoor
