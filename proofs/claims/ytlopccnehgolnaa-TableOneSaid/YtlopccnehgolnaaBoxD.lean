/- The contract of the reference's BothBoxes; Clone at whatever elements. -/
import Derived.Test.YtlopccnehgolnaaBoxC
import Derived.Deep.RegionHeld3
namespace Go.Proofs.Ytlopccnehgolnaa
open Go.RowKit Rb

/-- A literal of one list, just laid: its one element. -/
theorem Elems.lit1 {α : Type} {R : Rd α} {w : World} {S : Nat → Prop} {v : Value} {x : α} (t : TypeId) (hk : R.k = 1) (hr : R.rel w S [v] x) : Elems R (w.alloc (.cells #[v] t)) (fun b => S b ∨ b = w.heap.size) (some ⟨w.heap.size, 0, none⟩) [x] := by
  intro i y hy
  match i, hy with
  | 0, hy =>
    obtain rfl : x = y := by simpa using hy
    refine ⟨w.heap.size, 0, [v], rfl, .inr rfl, by simp, R.mono (Rd.alloc hr _) fun b hb _ => .inl hb, fun j u hu => ?_⟩
    match j, hu with
    | 0, hu =>
      obtain rfl : v = u := by simpa using hu
      simp [hk]

set_option maxRecDepth 100000 in
set_option maxHeartbeats 400000 in
theorem BothBoxes_any {S T : Nat → Prop} {v u : Value} {a b : Bx} (w : World) (hl : rBx.rel w S [v] a) (hm : rBx.rel w T [u] b) :
    Calls Try.prog 36 #[v, u] w fun e w' => ∃ z, e = .returned (.tuple #[z, .bool (someBx (bothBx a b))]) ∧ Own (rSl rRg) 37 w' w.heap.size (fun _ => False) z (optBx (bothBx a b)) ∧ Below w.heap.size w w' := by
  have hal := rSl.lenle hl (by decide)
  have HG := Lib.hid (IsBox_any (a.length : Int) w hl)
  have HG2 := Lib.hid fun w' (hb : Below w.heap.size w w') => IsBox_any (a.length : Int) w' (Rd.below hm hb)
  obtain ⟨A, c, rfl, _, _, hbb, hE⟩ := rSl.elems hl
  obtain ⟨B, d, rfl, _, _, _, hF⟩ := rSl.elems hm
  have hbb' : a.length ≤ 5864062014805 := by simp only [rSl] at hbb; omega
  clear hl hm hbb
  cases hg : goodBx a (a.length : Int)
  · rw [hg] at HG
    have HF : Hid (bothBx a b = none) := Lib.hid (by unfold bothBx; rw [hg]; rfl)
    clear hg
    go_enter Try.func36, Try.ntmps36
    go_wp2_with (first | (go_at_call 39; ((with_reducible refine HG.out.mono ?_); rintro e w1 ⟨rfl, hb1⟩)))
    go_ret2
    exact ⟨_, by rw [HF.out]; rfl, by rw [HF.out]; exact Own.nil _ _ _ _ _, hb1⟩
  rw [hg] at HG
  cases hg2 : goodBx b (a.length : Int)
  · rw [hg2] at HG2
    have HF : Hid (bothBx a b = none) := Lib.hid (by unfold bothBx; rw [hg, hg2]; rfl)
    clear hg hg2
    go_enter Try.func36, Try.ntmps36
    go_wp2_with (first | (go_at_call 39; ((with_reducible refine HG.out.mono ?_); rintro e w1 ⟨rfl, hb1⟩)) | (go_at_call 39; ((with_reducible refine (HG2.out _ hb1).mono ?_); rintro e w2 ⟨rfl, hb2⟩)))
    go_ret2
    exact ⟨_, by rw [HF.out]; rfl, by rw [HF.out]; exact Own.nil _ _ _ _ _, hb1.trans (hb2.mono hb1.size)⟩
  rw [hg2] at HG2
  obtain ⟨ga, _, ha3⟩ := goodBx_iff.1 hg
  obtain ⟨gb, hab, _⟩ := goodBx_iff.1 hg2
  have HGS := Lib.hid (And.intro ga gb)
  have HF : Hid (bothBx a b = (zipBoth (a.drop 0) (b.drop 0)).map ((a.take 0) ++ ·)) := Lib.hid (by unfold bothBx; rw [hg, hg2]; simp)
  clear hg hg2 ga gb
  have HAB := Lib.hid hab
  clear hab
  go_enter Try.func36, Try.ntmps36
  go_wp2_with (first | (go_at_call 39; ((with_reducible refine HG.out.mono ?_); rintro e w1 ⟨rfl, hb1⟩)) | (go_at_call 39; ((with_reducible refine (HG2.out _ hb1).mono ?_); rintro e w2 ⟨rfl, hb2⟩)))
  have hbx := hb1.trans (hb2.mono hb1.size)
  go_loopw [6, 22] (fun o i wr => ∃ (k : Nat) (out : Bx), k ≤ a.length ∧ i = .int .i64 k ∧ out.length = k ∧ Own (rSl rRg) 37 wr w.heap.size (fun _ => False) o out ∧ Hid (bothBx a b = (zipBoth (a.drop k) (b.drop k)).map (out ++ ·)) ∧ Below w.heap.size w wr) (fun _ i _ => a.length - (intOf i).toNat)
  case atStart => exact ⟨0, [], Nat.zero_le _, rfl, rfl, Own.nil _ _ _ _ _, HF, hbx⟩
  case round =>
    obtain ⟨k, out, hk, rfl, hol, hown, HK, hb⟩ := hrel
    by_cases hlt : k < a.length
    · have hltb : k < b.length := by have := HAB.out; omega
      obtain ⟨p, off, v, s, rfl, _, hp, hx, hs, h1⟩ := hE.sl hlt
      obtain ⟨q, off', v', t, rfl, _, hq, hx', hs', h2⟩ := hF.sl hltb
      rw [← hb.cell (p := ⟨p, _, none⟩) hp] at h1
      rw [← hb.cell (p := ⟨q, _, none⟩) hq] at h2
      have hik : (k : Int) < (a.length : Int) := by omega
      have hik2 : (k : Int) < (b.length : Int) := by omega
      have hC := BothOf_any wr.drew (Rd.drew (Rd.below hs hb)) (Rd.drew (Rd.below hs' hb))
      have HC := Lib.hid hC
      obtain ⟨A2, c2, rfl, _⟩ := rSl.elems hs
      obtain ⟨A3, c3, rfl, _⟩ := rSl.elems hs'
      have HKn : Hid (bothBx a b = if (bothS s t).length = 0 then none else (zipBoth (a.drop (k + 1)) (b.drop (k + 1))).map ((out ++ [bothS s t]) ++ ·)) := Lib.hid (by
        rw [HK.out, drop_cons hx, drop_cons hx', zipBoth]
        split
        · rfl
        · cases zipBoth (a.drop (k + 1)) (b.drop (k + 1)) <;> simp)
      clear hx hx' hs hs' hC HK hE hF
      generalize bothS s t = bs at *
      go_wp2
      have HLT := Lib.hid hown.lt
      have hownd := hown.drew
      have hbd : Below w.heap.size w wr.drew := drewN_below hb 1
      have hp2 : p < wr.drew.heap.size := Nat.lt_of_lt_of_le hp hb.size
      have hq2 : q < wr.drew.heap.size := Nat.lt_of_lt_of_le hq hb.size
      have HS1 : Hid (∀ {n : Nat} {W : World}, wr.heap.size ≤ n → ∀ b, (Up (fun _ => False) wr.heap.size b ∨ b = n) → b < W.heap.size → Up (fun _ => False) w.heap.size b ∧ (u6 : Value).ownBlock ≠ some b) := Lib.hid fun hn b hb' _ => by
        have : wr.heap.size ≤ b := by
          rcases hb' with (h | h) | h
          · exact h.elim
          · exact h
          · omega
        exact ⟨.inr (Nat.le_trans hb.size this), fun e => by have := (HLT.out b e).2; omega⟩
      have HBY : Hid ((out.length + 1) * (rSl rRg).bytes ≤ 140737488355328) := Lib.hid (by simp only [rSl]; omega)
      have HBA : Hid (∀ {W : World} {o : Obj}, wr.heap.size ≤ W.heap.size → w.heap.size ≤ (W.alloc o).heap.size) := Lib.hid fun h => by have := hb.size; simp; omega
      have HOL := Lib.hid hol
      clear hol
      by_cases hz : bs.length = 0
      · have HFN : Hid (bothBx a b = none) := Lib.hid (by rw [HKn.out, if_pos hz])
        have hz2 : ((bs.length : Int) == 0) = true := by rw [beq_iff_eq]; omega
        have HZ := Lib.hid hz
        clear hz
        go_wp2
        go_region_held3 (fun w' => w'.cell? ⟨p, off + k, none⟩ = some (.slice A2 s.length c2) ∧ w'.cell? ⟨q, off' + k, none⟩ = some (.slice A3 t.length c3)) (go_keep) (first | (go_at_call 31; ((with_reducible refine HC.out.mono ?_); rintro e w3 ⟨z3, rfl, hown3, hb3⟩; obtain ⟨A4, c4, rfl⟩ := hown3.value; have hr3 := hown3.rel (by decide); have hown2 := hownd.below hb3; have g1 := (hb3.cell (p := ⟨p, off + k, none⟩) hp2).trans h1; have g2 := (hb3.cell (p := ⟨q, off' + k, none⟩) hq2).trans h2)) | ((refine step_append_many (R := rSl rRg) el_Rgs rfl (.tmp 25) (.tmp 35) rfl rfl (by exact hown2.alloc _) rfl (ys := [bs]) (S2 := fun b => Up (fun _ => False) wr.heap.size b ∨ b = w3.heap.size) (fun b => Up (fun _ => False) wr.heap.size b ∨ b = w3.heap.size) rfl (by exact Elems.lit1 _ rfl hr3) (fun _ _ h => h) (by exact HS1.out hb3.size) (by exact HBY.out) (by exact HBA.out hb3.size) ?_; intro v9 w9 hown9 hb9 _ _; have g3 := (hb9.cell (p := ⟨p, off + k, none⟩) hp).trans ((World.cell?_alloc_lt _ _ _ (Nat.lt_of_lt_of_le hp2 hb3.size)).trans g1); have g4 := (hb9.cell (p := ⟨q, off' + k, none⟩) hq).trans ((World.cell?_alloc_lt _ _ _ (Nat.lt_of_lt_of_le hq2 hb3.size)).trans g2))))
        obtain ⟨A9, c9, rfl⟩ := hown9.value
        have HO9 := Lib.hid hown9
        obtain ⟨_, hE9⟩ := hown9.elems (by decide) rfl
        obtain ⟨g9, o9, vv9, xx, rfl, _, hg9, hx9, hr9, g9c⟩ := hE9.sl (i := k) (by have := HOL.out; simp; omega)
        obtain rfl : bs = xx := by
          rw [List.getElem?_append_right (by have := HOL.out; omega), HOL.out] at hx9
          simpa using hx9
        obtain ⟨A8, c8, rfl, _⟩ := rSl.elems hr9
        have hk9 : (k : Int) < ((out ++ [bs]).length : Int) := by have := HOL.out; simp; omega
        have hbF : Below w.heap.size w w9 := ((hbd.trans (hb3.mono hbd.size)).alloc (Nat.le_trans hbd.size hb3.size) _).trans hb9
        clear hE9 hx9 hr9 hown9 hown2 hr3
        generalize (out ++ [bs]).length = m9 at *
        go_wp2
        go_ret2
        exact ⟨_, by rw [HFN.out]; rfl, by rw [HFN.out]; exact Own.nil _ _ _ _ _, hbF⟩
      · have HFN : Hid (bothBx a b = (zipBoth (a.drop (k + 1)) (b.drop (k + 1))).map ((out ++ [bs]) ++ ·)) := Lib.hid (by rw [HKn.out, if_neg hz])
        have hz2 : ((bs.length : Int) == 0) = false := by rw [beq_eq_false_iff_ne]; omega
        clear hz
        go_wp2
        go_region_held3 (fun w' => w'.cell? ⟨p, off + k, none⟩ = some (.slice A2 s.length c2) ∧ w'.cell? ⟨q, off' + k, none⟩ = some (.slice A3 t.length c3)) (go_keep) (first | (go_at_call 31; ((with_reducible refine HC.out.mono ?_); rintro e w3 ⟨z3, rfl, hown3, hb3⟩; obtain ⟨A4, c4, rfl⟩ := hown3.value; have hr3 := hown3.rel (by decide); have hown2 := hownd.below hb3; have g1 := (hb3.cell (p := ⟨p, off + k, none⟩) hp2).trans h1; have g2 := (hb3.cell (p := ⟨q, off' + k, none⟩) hq2).trans h2)) | ((refine step_append_many (R := rSl rRg) el_Rgs rfl (.tmp 25) (.tmp 35) rfl rfl (by exact hown2.alloc _) rfl (ys := [bs]) (S2 := fun b => Up (fun _ => False) wr.heap.size b ∨ b = w3.heap.size) (fun b => Up (fun _ => False) wr.heap.size b ∨ b = w3.heap.size) rfl (by exact Elems.lit1 _ rfl hr3) (fun _ _ h => h) (by exact HS1.out hb3.size) (by exact HBY.out) (by exact HBA.out hb3.size) ?_; intro v9 w9 hown9 hb9 _ _; have g3 := (hb9.cell (p := ⟨p, off + k, none⟩) hp).trans ((World.cell?_alloc_lt _ _ _ (Nat.lt_of_lt_of_le hp2 hb3.size)).trans g1); have g4 := (hb9.cell (p := ⟨q, off' + k, none⟩) hq).trans ((World.cell?_alloc_lt _ _ _ (Nat.lt_of_lt_of_le hq2 hb3.size)).trans g2))))
        obtain ⟨A9, c9, rfl⟩ := hown9.value
        have HO9 := Lib.hid hown9
        obtain ⟨_, hE9⟩ := hown9.elems (by decide) rfl
        obtain ⟨g9, o9, vv9, xx, rfl, _, hg9, hx9, hr9, g9c⟩ := hE9.sl (i := k) (by have := HOL.out; simp; omega)
        obtain rfl : bs = xx := by
          rw [List.getElem?_append_right (by have := HOL.out; omega), HOL.out] at hx9
          simpa using hx9
        obtain ⟨A8, c8, rfl, _⟩ := rSl.elems hr9
        have hk9 : (k : Int) < ((out ++ [bs]).length : Int) := by have := HOL.out; simp; omega
        have hbF : Below w.heap.size w w9 := ((hbd.trans (hb3.mono hbd.size)).alloc (Nat.le_trans hbd.size hb3.size) _).trans hb9
        clear hE9 hx9 hr9 hown9 hown2 hr3
        generalize (out ++ [bs]).length = m9 at *
        go_wp2
        go_roundw
        case rel => exact ⟨k + 1, out ++ [bs], by omega, by go_num, by simp [HOL.out], HO9.out, HFN, hbF⟩
        case measure => simp [intOf]; omega
    · obtain ⟨z1, z2, rfl⟩ := hown.value
      have HFN : Hid (bothBx a b = some out) := Lib.hid (by rw [HK.out, List.drop_eq_nil_of_le (by omega)]; simp [zipBoth])
      go_wp2
      go_ret2
      exact ⟨_, by rw [HFN.out]; rfl, by rw [HFN.out]; exact hown, hb⟩
end Go.Proofs.Ytlopccnehgolnaa
