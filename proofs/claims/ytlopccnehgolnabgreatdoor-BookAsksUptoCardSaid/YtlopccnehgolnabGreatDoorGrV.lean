/- The contract of the reference's search, at the two questions. The contracts of the reference's GapOf and ClashOf. -/
import Derived.Test.YtlopccnehgolnabGreatDoorFindW
import Derived.Test.YtlopccnehgolnabGreatDoorGrA
import Derived.Laws.EntriesVeiled
import Derived.Test.YtlopccnehgolnabGreatDoorGrQ
import Derived.Deep.DeepMust
namespace Go.Proofs.YtlopccnehgolnabGreatDoor
open Go.RowKit Rb

theorem el_IntsA : ElemOf Tryz.prog (rSl rInt) 172 23 := .mk' Tryz.underlying172 (z := .slice none 0 0) (k := 1) (b := 24) (by kernel_rfl) rfl rfl rfl (by decide) (by decide)
theorem el_RgsA : ElemOf Tryz.prog (rSl rRg) 58 95 := .mk' Tryz.underlying58 (z := .slice none 0 0) (k := 1) (b := 24) (by kernel_rfl) rfl rfl rfl (by decide) (by decide)

theorem alloc3_cells (w : World) (cs ds es : Array Value) (t t' t'' : TypeId) : ∃ W, ((w.alloc (.cells cs t)).alloc (.cells ds t')).alloc (.cells es t'') = W ∧ Below w.heap.size w W ∧ W.heap.size = w.heap.size + 3 ∧ (∀ i, W.cell? ⟨w.heap.size, i, none⟩ = cs[i]?) ∧ (∀ i, W.cell? ⟨w.heap.size + 1, i, none⟩ = ds[i]?) ∧ (∀ i, W.cell? ⟨w.heap.size + 2, i, none⟩ = es[i]?) ∧ (∀ i, W.frozen? ⟨w.heap.size + 2, i, none⟩ = false) := by
  obtain ⟨W, e, hb, hs, h0, h1, _, _⟩ := alloc2_cells w cs ds t t'
  refine ⟨W.alloc (.cells es t''), by rw [e], hb.alloc (by omega) _, by simp [hs], fun i => ?_, fun i => ?_, fun i => ?_, fun i => ?_⟩
  · rw [World.cell?_alloc_lt _ _ _ (by simp [hs] <;> omega)]; exact h0 i
  · rw [World.cell?_alloc_lt _ _ _ (by simp [hs])]; exact h1 i
  · rw [← hs]; simp
  · rw [← hs]; simp

structure SearchI (W0 : World) (q : Nat) (pre : List (List Int)) (v : Value) (w : World) : Prop where
  bel : Below (q + 2) W0 w
  cur : w.cell? ⟨q + 2, 0, none⟩ = some v
  fz : w.frozen? ⟨q + 2, 0, none⟩ = false
  own : Own (rSl rInt) 23 w (q + 3) (fun _ => False) v pre
  big : q + 3 ≤ w.heap.size

theorem SearchI.put {W0 : World} {q : Nat} {pre pre' : List (List Int)} {v u : Value} {wo wr w9 : World} (h : SearchI W0 q pre v wo) (hbo : Below wo.heap.size wo wr) (hb : Below (q + 3) wr w9) (ho : Own (rSl rInt) 23 w9 (q + 3) (fun _ => False) u pre') :
    SearchI W0 q pre' u (w9.setCell ⟨q + 2, 0, none⟩ u) ∧ w9.cell? ⟨q + 2, 0, none⟩ = some v ∧ w9.frozen? ⟨q + 2, 0, none⟩ = false := by
  have hbig := h.big
  have h1 := hbo.size
  have h2 := hb.size
  have a1 := ((hb.cell (p := ⟨q + 2, 0, none⟩) (by show q + 2 < _; omega)).trans (hbo.cell (p := ⟨q + 2, 0, none⟩) (by show q + 2 < _; omega))).trans h.cur
  have a2 := ((hb.frozen (p := ⟨q + 2, 0, none⟩) (by show q + 2 < _; omega)).trans (hbo.frozen (p := ⟨q + 2, 0, none⟩) (by show q + 2 < _; omega))).trans h.fz
  refine ⟨⟨((h.bel.trans (hbo.mono (by omega))).trans (hb.mono (by omega))).setCell (Nat.le_refl _) _, World.cell?_setCell_same _ _ _ a1, by rw [World.frozen?_setCell]; exact a2, ho.setLow (by show q + 2 < _; omega) _, ?_⟩, a1, a2⟩
  simp
  omega

theorem setsAt_step {rs : List Rl} {i j : Nat} {s : List Rg} {r : Rl} (h : rs[j]? = some r) : setsAt (rs.take (j + 1)) i s = setsAt (rs.take j) i s ++ [rsAt r i] := by
  unfold setsAt
  rw [List.take_add_one, h]
  simp
theorem filter_step {l : List Int} {j : Nat} {m : Int} {f : Int → Bool} (h : l[j]? = some m) : (l.take (j + 1)).filter f = (l.take j).filter f ++ (if f m then [m] else []) := by
  rw [List.take_add_one, h, List.filter_append]
  cases hm : f m <;> simp [hm]

theorem atsFrom_at {rs : List Rl} {i : Nat} {b : Bx} {s : List Rg} (h : b[i]? = some s) : atsFrom rs i (b.drop i) = atL rs i s :: atsFrom rs (i + 1) (b.drop (i + 1)) := by
  rw [drop_cons h]; rfl

set_option maxRecDepth 100000 in
set_option maxHeartbeats 1600000 in
theorem searchGap_any {p : List Int → Bool} {P : Value} {S T : Nat → Prop} {cs : List Value} {t : Tb} {u : Value} {all : Bx} (w : World) (hl : rTb.rel w S cs t) (hm : rBx.rel w T [u] all) (hok : ∀ r ∈ t.rules, r.cells.length = all.length)
    (hp : ∀ (w' : World), Below w.heap.size w w' → ∀ (T : Nat → Prop) (v : Value) (ns : List Int), (rSl rInt).rel w' T [v] ns → Calls Tryz.prog 59 #[v, P] w' fun e w'' => e = .returned (.bool (p ns)) ∧ Below w'.heap.size w' w'') :
    Calls Tryz.prog 58 #[.agg cs.toArray, u, .func (.func 59) #[] #[P]] w fun e w' => ∃ z, e = .returned (.tuple #[z, .bool (findL p (atsFrom t.rules 0 all) []).isSome]) ∧ Own rInt 3 w' w.heap.size (fun _ => False) z ((findL p (atsFrom t.rules 0 all) []).getD []) ∧ Below w.heap.size w w' := by
  obtain ⟨vi, vr, rfl, _, _, _, hr⟩ := hl
  have hal := rSl.lenle hm (by decide)
  have hrl := rSl.lenle hr (by decide)
  obtain ⟨B, d, rfl, _, _, hr3, hR⟩ := rSl.elems hr
  obtain ⟨C, g, rfl, _, _, hbx, hF⟩ := rSl.elems hm
  have hr5 : t.rules.length ≤ 4398046511104 := by simp only [rRl] at hr3; omega
  have hal2 : all.length * 24 ≤ 140737488355328 := hbx
  obtain ⟨W0, e0, hB0, hs0, k0, k1, k2, z2⟩ := alloc3_cells w #[.string ⟨t.name.toArray⟩, .int .i64 t.pol, .bool t.comp, vi, .slice B t.rules.length d] #[.func (.func 59) #[] #[P]] #[.slice none 0 0] 42 114 172
  have c0 : W0.cell? ⟨w.heap.size, 4, none⟩ = some (.slice B t.rules.length d) := k0 4
  have c1 : W0.cell? ⟨w.heap.size + 1, 0, none⟩ = some (.func (.func 59) #[] #[P]) := k1 0
  have HC0 := Lib.hid c0
  have HC1 := Lib.hid c1
  have HI0 : Hid (SearchI W0 w.heap.size [] (.slice none 0 0) W0) := Lib.hid ⟨Below.refl _ _, k2 0, z2 0, Own.nil _ _ _ _ _, by omega⟩
  have HB0 := Lib.hid hB0
  have HS0 := Lib.hid hs0
  have HR := Lib.hid hR
  have HF := Lib.hid hF
  have HP := Lib.hid hp
  have HOK := Lib.hid hok
  clear hr hm hr3 hbx hR hF hB0 k0 k1 k2 z2 hs0 hp hok
  go_enter Tryz.func58, Tryz.ntmps58
  go_wp2
  go_loopw [20] (fun i wr => ∃ (k : Nat) (pre : List (List Int)) (v : Value), k ≤ all.length ∧ i = .int .i64 k ∧ Hid (SearchI W0 w.heap.size pre v wr) ∧ Hid (atsFrom t.rules 0 all = pre ++ atsFrom t.rules k (all.drop k)) ∧ Hid (pre.length = k)) (fun i _ => all.length - (intOf i).toNat)
  case atStart => exact ⟨0, [], _, Nat.zero_le _, rfl, HI0, Lib.hid rfl, Lib.hid rfl⟩
  case round =>
    clear HI0 c0 c1
    obtain ⟨k, pre, v, hk, rfl, HI, HE, HPL⟩ := hrel
    by_cases hlt : k < all.length
    · obtain ⟨bC, off, v', s, rfl, _, hbC, hx, hs, g3⟩ := HF.out.sl hlt
      have HBW : Hid (Below w.heap.size w wr) := Lib.hid (HB0.out.trans (HI.out.bel.mono (by omega)))
      have d4 := (HI.out.bel.cell (p := ⟨w.heap.size, 4, none⟩) (by show w.heap.size < _; omega)).trans HC0.out
      have g4 := (HBW.out.cell (p := ⟨bC, off + k, none⟩) hbC).trans g3
      have hik : (k : Int) < (all.length : Int) := by omega
      have hsl := rSl.lenle hs (by decide)
      obtain ⟨A3, l3, rfl, _⟩ := rSl.elems hs
      have HSS : Hid ((rSl rRg).rel wr (fun b => (S b ∨ T b) ∧ b < w.heap.size) [.slice A3 s.length l3] s) := Lib.hid (Rd.below ((rSl rRg).mono hs fun b hb hlt => ⟨.inr hb, hlt⟩) HBW.out)
      have HAT := Lib.hid (atsFrom_at (rs := t.rules) hx)
      obtain ⟨wo, hwo⟩ : ∃ x, x = wr := ⟨_, rfl⟩
      subst hwo
      obtain ⟨W1, e1, HBF, HOF⟩ : ∃ W1, wo.alloc (.cells #[.slice A3 s.length l3] 95) = W1 ∧ Hid (Below wo.heap.size wo W1) ∧ Hid (Own (rSl rRg) 95 W1 wo.heap.size (fun b => (S b ∨ T b) ∧ b < w.heap.size) (.slice (some ⟨wo.heap.size, 0, none⟩) 1 1) (setsAt (t.rules.take 0) k s)) :=
        ⟨_, rfl, Lib.hid ((Below.refl _ _).alloc (Nat.le_refl _) _), Lib.hid (Own.fresh (R := rSl rRg) (e := 95) (by decide) [.slice A3 s.length l3] HSS.out (by decide) rfl)⟩
      have d5 := (HBF.out.cell (p := ⟨w.heap.size, 4, none⟩) (by have := HI.out.big; show w.heap.size < _; omega)).trans d4
      have HG3 := Lib.hid g3
      clear hs g3
      go_wp2
      go_loopw [10, 31] (fun o i wr => ∃ j : Nat, j ≤ t.rules.length ∧ i = .int .i64 j ∧ Hid (Own (rSl rRg) 95 wr wo.heap.size (fun b => (S b ∨ T b) ∧ b < w.heap.size) o (setsAt (t.rules.take j) k s)) ∧ Hid (Below wo.heap.size wo wr)) (fun _ i _ => t.rules.length - (intOf i).toNat)
      case atStart => exact ⟨0, Nat.zero_le _, rfl, HOF, HBF⟩
      case round =>
        clear HOF g4 d4 d5
        obtain ⟨j, hj, rfl, HOW, HB⟩ := hrel
        have HBR : Hid (Below w.heap.size w wr) := Lib.hid (HBW.out.trans (HB.out.mono HBW.out.size))
        obtain ⟨A4, l4, rfl⟩ := HOW.out.value
        by_cases hlt2 : j < t.rules.length
        · obtain ⟨bB, offB, r, vc, rfl, _, hbB, hxr, hin, hcl, g1, g2⟩ := HR.out.rl hlt2
          obtain ⟨A5, l5, rfl, _, _, _, hEc⟩ := rSl.elems hcl
          have hrk := HOK.out r (List.mem_of_getElem? hxr)
          obtain ⟨bD, offD, cl, vq, rfl, _, hbD, hxc, hq, d1, d2⟩ := hEc.cl (show k < r.cells.length by rw [hrk]; exact hlt)
          have hk1 := (HBR.out.cell (p := ⟨bB, _, none⟩) hbB).trans g1
          have hk2 := (HBR.out.cell (p := ⟨bB, _, none⟩) hbB).trans g2
          have hk3 := (HBR.out.cell (p := ⟨bD, _, none⟩) hbD).trans d1
          have hk4 := (HBR.out.cell (p := ⟨bD, _, none⟩) hbD).trans d2
          obtain ⟨A6, l6, rfl, _⟩ := rSl.elems hq
          have hq2 := Rd.below ((rSl rRg).mono hq fun b hb hlt => (⟨.inl hb, hlt⟩ : (S b ∨ T b) ∧ b < w.heap.size)) HBR.out
          obtain ⟨W2, e2, hB2, f0, f1, f3, f4⟩ : ∃ W2, wr.alloc (.cells #[.slice (some ⟨bD, offD, none⟩) r.cells.length l5, .int .i64 r.out] 93) = W2 ∧ Below wr.heap.size wr W2 ∧ W2.cell? ⟨wr.heap.size, 0, none⟩ = some (.slice (some ⟨bD, offD, none⟩) r.cells.length l5) ∧ W2.cell? ⟨wr.heap.size, 1, none⟩ = some (.int .i64 r.out) ∧ W2.cell? ⟨bD, offD + k * 2, none⟩ = some (.bool cl.no) ∧ W2.cell? ⟨bD, offD + k * 2 + 1, none⟩ = some (.slice A6 cl.rs.length l6) :=
            ⟨_, rfl, (Below.refl _ _).alloc (Nat.le_refl _) _, World.cell?_alloc_new _ _ _ _, World.cell?_alloc_new _ _ _ _, (World.cell?_alloc_lt _ _ _ (by have := HBR.out.size; show bD < _; omega)).trans hk3, (World.cell?_alloc_lt _ _ _ (by have := HBR.out.size; show bD < _; omega)).trans hk4⟩
          have HOW2 := Lib.hid (HOW.out.below hB2)
          have HQ2 := Lib.hid (Rd.below hq2 hB2)
          have HB2 := Lib.hid (HB.out.trans (hB2.mono HB.out.size))
          have HLT := Lib.hid HOW.out.lt
          have hlen : (setsAt (t.rules.take j) k s).length = j + 1 := by simp [setsAt]; omega
          have HBY : Hid (((setsAt (t.rules.take j) k s).length + 1) * (rSl rRg).bytes ≤ 140737488355328) := Lib.hid (by rw [hlen]; show (_ + _) * 24 ≤ _; omega)
          have HBA : Hid (wo.heap.size ≤ W2.heap.size) := Lib.hid HB2.out.size
          have HUP : Hid (∀ b, (S b ∨ T b) ∧ b < w.heap.size → b < W2.heap.size → Up (fun b => (S b ∨ T b) ∧ b < w.heap.size) wo.heap.size b ∧ (Value.slice A4 (setsAt (t.rules.take j) k s).length l4).ownBlock ≠ some b) := Lib.hid fun b hb _ => ⟨.inl hb, fun e => by have := HLT.out b e; have := HBW.out.size; omega⟩
          have HST : Hid (setsAt (t.rules.take (j + 1)) k s = setsAt (t.rules.take j) k s ++ [cl.rs]) := Lib.hid (by rw [setsAt_step hxr]; simp only [rsAt, hxc])
          have hik2 : (j : Int) < (t.rules.length : Int) := by omega
          have hik3 : (k : Int) < (r.cells.length : Int) := by omega
          clear hxr hxc hq hq2 hB2 d1 d2 g1 g2 hcl hEc hk3 hk4 hrk
          go_wp2_with (first | (at_builtin; go_must (refine wpList_append_new (R := rSl rRg) (x := cl.rs) el_RgsA rfl (.tmp 35) (.tmp 42) rfl rfl HOW2.out [.slice A6 cl.rs.length l6] rfl rfl (fun b => (S b ∨ T b) ∧ b < w.heap.size) HQ2.out (by exact HUP.out) HBY.out HBA.out ?_); intro v9 w9 hown9 hb9 _ _))
          go_roundw
          case rel => exact ⟨j + 1, by omega, by go_num, Lib.hid (by rw [HST.out]; exact hown9), Lib.hid (HB2.out.trans hb9)⟩
          case measure => simp [intOf]; omega
        · have hj2 : ¬ (j : Int) < (t.rules.length : Int) := by omega
          have hlen : (setsAt (t.rules.take j) k s).length = t.rules.length + 1 := by simp [setsAt]; omega
          have hsets : setsAt (t.rules.take j) k s = setsAt t.rules k s := by rw [List.take_of_length_le (by omega)]
          have HSETS := Lib.hid hsets
          have hE := (HOW.out.elems (by decide) rfl).2
          have HC := Lib.hid (edges_any (c := l4) wr (by omega) hE)
          clear hE hsets hlen
          go_wp2_with (first | (go_at_call 118; go_must ((with_reducible refine HC.out.mono ?_); rintro e w3 ⟨z3, rfl, hown3, hb3⟩; rw [HSETS.out] at hown3; obtain ⟨A5, l5, rfl⟩ := hown3.value; have hel := hown3.elems (by decide) rfl; have HE3 := Lib.hid hel.2; have hel2 := rSl.lenle (hown3.rel (by decide)) (by decide); have HB3 := Lib.hid (HB.out.trans (hb3.mono HB.out.size)); clear hb3 hown3 hel)))
          go_loopw [13, 48] (fun o i wr => ∃ m : Nat, m ≤ (edgesL (setsAt t.rules k s)).length ∧ i = .int .i64 m ∧ Hid (Own rInt 3 wr w3.heap.size (fun _ => False) o (((edgesL (setsAt t.rules k s)).take m).filter (hasL s))) ∧ Hid (Below w3.heap.size w3 wr)) (fun _ i _ => (edgesL (setsAt t.rules k s)).length - (intOf i).toNat)
          case atStart => exact ⟨0, Nat.zero_le _, rfl, Lib.hid (Own.nil _ _ _ _ _), Lib.hid (Below.refl _ _)⟩
          case round =>
            clear HC HOW
            obtain ⟨m, hm, rfl, HOM, HBM⟩ := hrel
            obtain ⟨A6, l6, rfl⟩ := HOM.out.value
            have HBN : Hid (Below wo.heap.size wo wr) := Lib.hid (HB3.out.trans (HBM.out.mono HB3.out.size))
            by_cases hlt3 : m < (edgesL (setsAt t.rules k s)).length
            · obtain ⟨bE, offE, n, rfl, _, hbE, hxn, hin, e1'⟩ := HE3.out.int hlt3
              have g5 := (HBM.out.cell (p := ⟨bE, offE + m, none⟩) hbE).trans e1'
              have g6 := (HBN.out.cell (p := ⟨bC, off + k, none⟩) (Nat.lt_of_lt_of_le hbC HBW.out.size)).trans ((HBW.out.cell (p := ⟨bC, off + k, none⟩) hbC).trans HG3.out)
              have HCI := Lib.hid (InSet_any n wr (Rd.below HSS.out HBN.out))
              have hfs := filter_step (f := hasL s) hxn
              have hfl : (((edgesL (setsAt t.rules k s)).take m).filter (hasL s)).length ≤ m := Nat.le_trans (List.length_filter_le _ _) (by rw [List.length_take]; omega)
              have hik4 : (m : Int) < ((edgesL (setsAt t.rules k s)).length : Int) := by omega
              have HBY : Hid ((((((edgesL (setsAt t.rules k s)).take m).filter (hasL s))).length + 1) * rInt.bytes ≤ 140737488355328) := Lib.hid (by show (_ + _) * 8 ≤ _; omega)
              have HIN := Lib.hid hin
              cases hh : hasL s n
              · rw [hh] at HCI hfs
                have HFS : Hid (((edgesL (setsAt t.rules k s)).take (m + 1)).filter (hasL s) = ((edgesL (setsAt t.rules k s)).take m).filter (hasL s)) := Lib.hid (by rw [hfs]; simp)
                clear hh hfs hxn hin
                go_wp2_with (first | (go_at_call 119; go_must ((with_reducible refine HCI.out.mono ?_); rintro e w4 ⟨rfl, hb4⟩)))
                go_roundw
                case rel => exact ⟨m + 1, by omega, by go_num, Lib.hid (by rw [HFS.out]; exact HOM.out.below hb4), Lib.hid (HBM.out.trans (hb4.mono HBM.out.size))⟩
                case measure => simp [intOf]; omega
              · rw [hh] at HCI hfs
                have HFS : Hid (((edgesL (setsAt t.rules k s)).take (m + 1)).filter (hasL s) = ((edgesL (setsAt t.rules k s)).take m).filter (hasL s) ++ [n]) := Lib.hid (by rw [hfs]; simp)
                clear hh hfs hxn hin
                go_wp2_with (first | (go_at_call 119; go_must ((with_reducible refine HCI.out.mono ?_); rintro e w4 ⟨rfl, hb4⟩; have HOM4 := Lib.hid (HOM.out.below hb4); have HB4 := Lib.hid (HBM.out.trans (hb4.mono HBM.out.size)); clear hb4)) | (at_builtin; go_must (refine wpList_append_new (R := rInt) (x := n) el_Int rfl (.tmp 58) (.tmp 60) rfl rfl HOM4.out [.int .i64 n] rfl rfl (fun _ => False) ⟨rfl, HIN.out⟩ (fun _ h => h.elim) HBY.out HB4.out.size ?_); intro v9 w9 hown9 hb9 _ _))
                go_roundw
                case rel => exact ⟨m + 1, by omega, by go_num, Lib.hid (by rw [HFS.out]; exact hown9), Lib.hid (HB4.out.trans hb9)⟩
                case measure => simp [intOf]; omega
            · have hm2 : ¬ (m : Int) < ((edgesL (setsAt t.rules k s)).length : Int) := by omega
              have hat : ((edgesL (setsAt t.rules k s)).take m).filter (hasL s) = atL t.rules k s := by rw [List.take_of_length_le (show (edgesL (setsAt t.rules k s)).length ≤ m by omega)]; rfl
              rw [hat] at HOM
              generalize hL : ((edgesL (setsAt t.rules k s)).take m).filter (hasL s) = L at *
              obtain ⟨A7, l7, rfl⟩ := HI.out.own.value
              have HIW := Lib.hid (HI.out.own.below HBN.out)
              have b0 := (HBN.out.cell (p := ⟨w.heap.size + 2, 0, none⟩) (by have := HI.out.big; show w.heap.size + 2 < _; omega)).trans HI.out.cur
              have HRO : Hid ((rSl rInt).rel wr (Up (fun _ => False) w3.heap.size) [.slice A6 L.length l6] L) := Lib.hid (by have := HOM.out.rel (by decide); rw [← hat] at this; exact this)
              have HLT := Lib.hid HI.out.own.lt
              have HUP : Hid (∀ b, Up (fun _ => False) w3.heap.size b → b < wr.heap.size → Up (fun _ => False) (w.heap.size + 3) b ∧ (Value.slice A7 pre.length l7).ownBlock ≠ some b) := Lib.hid fun b hb _ => by
                have h1 : w3.heap.size ≤ b := hb.elim (fun h => h.elim) id
                have h2 := HB3.out.size
                have h3 := HI.out.big
                exact ⟨.inr (by omega), fun e => by have := HLT.out b e; omega⟩
              have HBY : Hid ((pre.length + 1) * (rSl rInt).bytes ≤ 140737488355328) := Lib.hid (by rw [HPL.out]; show (_ + _) * 24 ≤ _; omega)
              have HBA : Hid (w.heap.size + 3 ≤ wr.heap.size) := Lib.hid (Nat.le_trans HI.out.big HBN.out.size)
              have HPUT := Lib.hid fun (u : Value) (w' : World) (pre' : List (List Int)) => HI.out.put (wr := wr) (w9 := w') (pre' := pre') (u := u) HBN.out
              have HAE : Hid (atsFrom t.rules 0 all = (pre ++ [L]) ++ atsFrom t.rules (k + 1) (all.drop (k + 1))) := Lib.hid (by rw [HE.out, HAT.out, hat]; simp)
              clear hat hL
              go_wp2_with (first | (at_builtin; go_must (refine wpList_append_new (R := rSl rInt) (x := L) el_IntsA rfl (.tmp 63) (.tmp 65) rfl rfl HIW.out [.slice A6 L.length l6] rfl rfl (Up (fun _ => False) w3.heap.size) HRO.out (by exact HUP.out) HBY.out HBA.out ?_); intro v9 w9 hown9 hb9 _ _; obtain ⟨A9, l9, e9⟩ := hown9.value; rw [List.length_append, List.length_singleton] at e9; subst e9; obtain ⟨HSI, y0, y1⟩ := HPUT.out _ w9 _ hb9 hown9))
              go_roundw
              case rel => exact ⟨k + 1, pre ++ [L], _, by omega, by go_num, Lib.hid HSI, HAE, Lib.hid (by rw [List.length_append, HPL.out]; rfl)⟩
              case measure => simp [intOf]; omega
    · obtain ⟨wo, hwo⟩ : ∃ x, x = wr := ⟨_, rfl⟩
      subst hwo
      have HAE : Hid (atsFrom t.rules 0 all = pre) := Lib.hid (by rw [HE.out, List.drop_eq_nil_of_le (show all.length ≤ k by omega)]; simp [atsFrom])
      have HBW : Hid (Below w.heap.size w wo) := Lib.hid (HB0.out.trans (HI.out.bel.mono (by omega)))
      have hbig := HI.out.big
      have HFN : Hid (∀ (v : Value) (w1 : World), FindSt wo (w.heap.size + 1 + 1) (w.heap.size + 1) wo.heap.size (wo.heap.size + 1) (wo.heap.size + 2) [] v w1 → Calls Tryz.prog 120 #[.pointer (some ⟨wo.heap.size, 0, none⟩), .pointer (some ⟨w.heap.size + 1 + 1, 0, none⟩), .pointer (some ⟨w.heap.size + 1, 0, none⟩), .pointer (some ⟨wo.heap.size + 1, 0, none⟩)] w1 (FindOut wo (w.heap.size + 1 + 1) (w.heap.size + 1) wo.heap.size (wo.heap.size + 1) (wo.heap.size + 2) [] (findL p pre []))) :=
        Lib.hid fun v w1 h => searchGap_fn (p := p) (P := P) HI.out.cur (HI.out.own.rel (by decide)) ((HI.out.bel.cell (p := ⟨w.heap.size + 1, 0, none⟩) (by show w.heap.size + 1 < _; omega)).trans HC1.out) (fun w' hb => HP.out w' (HBW.out.trans (hb.mono HBW.out.size))) pre.length [] v w1 (by simp) h
      obtain ⟨W1, e1, hB1, hs1, n0, n1, x0, x1⟩ := alloc2_cells wo #[.slice none 0 0] #[.nilFunc] 23 67
      have m1 : W1.cell? ⟨wo.heap.size + 1, 0, none⟩ = some .nilFunc := n1 0
      have y1 : W1.frozen? ⟨wo.heap.size + 1, 0, none⟩ = false := x1 0
      obtain ⟨W2, e2, HST⟩ : ∃ W2, W1.setCell ⟨wo.heap.size + 1, 0, none⟩ (.func (.func 120) #[] #[.pointer (some ⟨wo.heap.size, 0, none⟩), .pointer (some ⟨w.heap.size + 1 + 1, 0, none⟩), .pointer (some ⟨w.heap.size + 1, 0, none⟩), .pointer (some ⟨wo.heap.size + 1, 0, none⟩)]) = W2 ∧ Hid (FindSt wo (w.heap.size + 1 + 1) (w.heap.size + 1) wo.heap.size (wo.heap.size + 1) (wo.heap.size + 2) [] (.slice none 0 0) W2) := by
        refine ⟨_, rfl, Lib.hid ⟨hB1.setCell (Nat.le_succ _) _, (World.cell?_setCell_other _ _ _ _ (by simp)).trans (n0 0), by rw [World.frozen?_setCell]; exact x0 0, World.cell?_setCell_same _ _ _ m1, Own.nil _ _ _ _ _, by simp [hs1], by omega⟩⟩
      have j2 := HST.out.walk
      have HBX : Hid (∀ w6, Below wo.heap.size wo w6 → Below w.heap.size w w6) := Lib.hid fun w6 h => HBW.out.trans (h.mono HBW.out.size)
      clear n0 n1 x0 x1 hs1 hB1
      cases hf : findL p pre [] with
      | some z =>
        have HZ := Lib.hid hf
        have HZ2 := Lib.hid (show findL p (atsFrom t.rules 0 all) [] = some z by rw [HAE.out]; exact hf)
        clear hf
        go_wp2_with (first | (go_at_call 120; go_must ((with_reducible refine (HFN.out _ _ HST.out).mono ?_); rintro e w6 ⟨v6, e6, hst6⟩; rw [HZ.out] at e6 hst6; replace e6 : e = .returned (.bool true) := e6; subst e6; have l6 := hst6.cur)))
        go_ret2
        exact ⟨v6, by rw [HZ2.out]; rfl, by rw [HZ2.out]; exact hst6.own.lower (Nat.le_trans (show w.heap.size ≤ wo.heap.size by omega) (Nat.le_add_right _ 2)), HBX.out _ hst6.bel⟩
      | none =>
        have HZ := Lib.hid hf
        have HZ2 := Lib.hid (show findL p (atsFrom t.rules 0 all) [] = none by rw [HAE.out]; exact hf)
        clear hf
        go_wp2_with (first | (go_at_call 120; go_must ((with_reducible refine (HFN.out _ _ HST.out).mono ?_); rintro e w6 ⟨v6, e6, hst6⟩; rw [HZ.out] at e6 hst6; replace e6 : e = .returned (.bool false) := e6; subst e6)))
        go_ret2
        exact ⟨_, by rw [HZ2.out]; rfl, by rw [HZ2.out]; exact Own.nil _ _ _ _ _, HBX.out _ hst6.bel⟩
set_option maxRecDepth 100000 in
set_option maxHeartbeats 1600000 in
theorem searchClash_any {p : List Int → Bool} {P : Value} {S T : Nat → Prop} {cs : List Value} {t : Tb} {u : Value} {all : Bx} (w : World) (hl : rTb.rel w S cs t) (hm : rBx.rel w T [u] all) (hok : ∀ r ∈ t.rules, r.cells.length = all.length)
    (hp : ∀ (w' : World), Below w.heap.size w w' → ∀ (T : Nat → Prop) (v : Value) (ns : List Int), (rSl rInt).rel w' T [v] ns → Calls Tryz.prog 63 #[v, P] w' fun e w'' => e = .returned (.bool (p ns)) ∧ Below w'.heap.size w' w'') :
    Calls Tryz.prog 58 #[.agg cs.toArray, u, .func (.func 63) #[] #[P]] w fun e w' => ∃ z, e = .returned (.tuple #[z, .bool (findL p (atsFrom t.rules 0 all) []).isSome]) ∧ Own rInt 3 w' w.heap.size (fun _ => False) z ((findL p (atsFrom t.rules 0 all) []).getD []) ∧ Below w.heap.size w w' := by
  obtain ⟨vi, vr, rfl, _, _, _, hr⟩ := hl
  have hal := rSl.lenle hm (by decide)
  have hrl := rSl.lenle hr (by decide)
  obtain ⟨B, d, rfl, _, _, hr3, hR⟩ := rSl.elems hr
  obtain ⟨C, g, rfl, _, _, hbx, hF⟩ := rSl.elems hm
  have hr5 : t.rules.length ≤ 4398046511104 := by simp only [rRl] at hr3; omega
  have hal2 : all.length * 24 ≤ 140737488355328 := hbx
  obtain ⟨W0, e0, hB0, hs0, k0, k1, k2, z2⟩ := alloc3_cells w #[.string ⟨t.name.toArray⟩, .int .i64 t.pol, .bool t.comp, vi, .slice B t.rules.length d] #[.func (.func 63) #[] #[P]] #[.slice none 0 0] 42 114 172
  have c0 : W0.cell? ⟨w.heap.size, 4, none⟩ = some (.slice B t.rules.length d) := k0 4
  have c1 : W0.cell? ⟨w.heap.size + 1, 0, none⟩ = some (.func (.func 63) #[] #[P]) := k1 0
  have HC0 := Lib.hid c0
  have HC1 := Lib.hid c1
  have HI0 : Hid (SearchI W0 w.heap.size [] (.slice none 0 0) W0) := Lib.hid ⟨Below.refl _ _, k2 0, z2 0, Own.nil _ _ _ _ _, by omega⟩
  have HB0 := Lib.hid hB0
  have HS0 := Lib.hid hs0
  have HR := Lib.hid hR
  have HF := Lib.hid hF
  have HP := Lib.hid hp
  have HOK := Lib.hid hok
  clear hr hm hr3 hbx hR hF hB0 k0 k1 k2 z2 hs0 hp hok
  go_enter Tryz.func58, Tryz.ntmps58
  go_wp2
  go_loopw [20] (fun i wr => ∃ (k : Nat) (pre : List (List Int)) (v : Value), k ≤ all.length ∧ i = .int .i64 k ∧ Hid (SearchI W0 w.heap.size pre v wr) ∧ Hid (atsFrom t.rules 0 all = pre ++ atsFrom t.rules k (all.drop k)) ∧ Hid (pre.length = k)) (fun i _ => all.length - (intOf i).toNat)
  case atStart => exact ⟨0, [], _, Nat.zero_le _, rfl, HI0, Lib.hid rfl, Lib.hid rfl⟩
  case round =>
    clear HI0 c0 c1
    obtain ⟨k, pre, v, hk, rfl, HI, HE, HPL⟩ := hrel
    by_cases hlt : k < all.length
    · obtain ⟨bC, off, v', s, rfl, _, hbC, hx, hs, g3⟩ := HF.out.sl hlt
      have HBW : Hid (Below w.heap.size w wr) := Lib.hid (HB0.out.trans (HI.out.bel.mono (by omega)))
      have d4 := (HI.out.bel.cell (p := ⟨w.heap.size, 4, none⟩) (by show w.heap.size < _; omega)).trans HC0.out
      have g4 := (HBW.out.cell (p := ⟨bC, off + k, none⟩) hbC).trans g3
      have hik : (k : Int) < (all.length : Int) := by omega
      have hsl := rSl.lenle hs (by decide)
      obtain ⟨A3, l3, rfl, _⟩ := rSl.elems hs
      have HSS : Hid ((rSl rRg).rel wr (fun b => (S b ∨ T b) ∧ b < w.heap.size) [.slice A3 s.length l3] s) := Lib.hid (Rd.below ((rSl rRg).mono hs fun b hb hlt => ⟨.inr hb, hlt⟩) HBW.out)
      have HAT := Lib.hid (atsFrom_at (rs := t.rules) hx)
      obtain ⟨wo, hwo⟩ : ∃ x, x = wr := ⟨_, rfl⟩
      subst hwo
      obtain ⟨W1, e1, HBF, HOF⟩ : ∃ W1, wo.alloc (.cells #[.slice A3 s.length l3] 95) = W1 ∧ Hid (Below wo.heap.size wo W1) ∧ Hid (Own (rSl rRg) 95 W1 wo.heap.size (fun b => (S b ∨ T b) ∧ b < w.heap.size) (.slice (some ⟨wo.heap.size, 0, none⟩) 1 1) (setsAt (t.rules.take 0) k s)) :=
        ⟨_, rfl, Lib.hid ((Below.refl _ _).alloc (Nat.le_refl _) _), Lib.hid (Own.fresh (R := rSl rRg) (e := 95) (by decide) [.slice A3 s.length l3] HSS.out (by decide) rfl)⟩
      have d5 := (HBF.out.cell (p := ⟨w.heap.size, 4, none⟩) (by have := HI.out.big; show w.heap.size < _; omega)).trans d4
      have HG3 := Lib.hid g3
      clear hs g3
      go_wp2
      go_loopw [10, 31] (fun o i wr => ∃ j : Nat, j ≤ t.rules.length ∧ i = .int .i64 j ∧ Hid (Own (rSl rRg) 95 wr wo.heap.size (fun b => (S b ∨ T b) ∧ b < w.heap.size) o (setsAt (t.rules.take j) k s)) ∧ Hid (Below wo.heap.size wo wr)) (fun _ i _ => t.rules.length - (intOf i).toNat)
      case atStart => exact ⟨0, Nat.zero_le _, rfl, HOF, HBF⟩
      case round =>
        clear HOF g4 d4 d5
        obtain ⟨j, hj, rfl, HOW, HB⟩ := hrel
        have HBR : Hid (Below w.heap.size w wr) := Lib.hid (HBW.out.trans (HB.out.mono HBW.out.size))
        obtain ⟨A4, l4, rfl⟩ := HOW.out.value
        by_cases hlt2 : j < t.rules.length
        · obtain ⟨bB, offB, r, vc, rfl, _, hbB, hxr, hin, hcl, g1, g2⟩ := HR.out.rl hlt2
          obtain ⟨A5, l5, rfl, _, _, _, hEc⟩ := rSl.elems hcl
          have hrk := HOK.out r (List.mem_of_getElem? hxr)
          obtain ⟨bD, offD, cl, vq, rfl, _, hbD, hxc, hq, d1, d2⟩ := hEc.cl (show k < r.cells.length by rw [hrk]; exact hlt)
          have hk1 := (HBR.out.cell (p := ⟨bB, _, none⟩) hbB).trans g1
          have hk2 := (HBR.out.cell (p := ⟨bB, _, none⟩) hbB).trans g2
          have hk3 := (HBR.out.cell (p := ⟨bD, _, none⟩) hbD).trans d1
          have hk4 := (HBR.out.cell (p := ⟨bD, _, none⟩) hbD).trans d2
          obtain ⟨A6, l6, rfl, _⟩ := rSl.elems hq
          have hq2 := Rd.below ((rSl rRg).mono hq fun b hb hlt => (⟨.inl hb, hlt⟩ : (S b ∨ T b) ∧ b < w.heap.size)) HBR.out
          obtain ⟨W2, e2, hB2, f0, f1, f3, f4⟩ : ∃ W2, wr.alloc (.cells #[.slice (some ⟨bD, offD, none⟩) r.cells.length l5, .int .i64 r.out] 93) = W2 ∧ Below wr.heap.size wr W2 ∧ W2.cell? ⟨wr.heap.size, 0, none⟩ = some (.slice (some ⟨bD, offD, none⟩) r.cells.length l5) ∧ W2.cell? ⟨wr.heap.size, 1, none⟩ = some (.int .i64 r.out) ∧ W2.cell? ⟨bD, offD + k * 2, none⟩ = some (.bool cl.no) ∧ W2.cell? ⟨bD, offD + k * 2 + 1, none⟩ = some (.slice A6 cl.rs.length l6) :=
            ⟨_, rfl, (Below.refl _ _).alloc (Nat.le_refl _) _, World.cell?_alloc_new _ _ _ _, World.cell?_alloc_new _ _ _ _, (World.cell?_alloc_lt _ _ _ (by have := HBR.out.size; show bD < _; omega)).trans hk3, (World.cell?_alloc_lt _ _ _ (by have := HBR.out.size; show bD < _; omega)).trans hk4⟩
          have HOW2 := Lib.hid (HOW.out.below hB2)
          have HQ2 := Lib.hid (Rd.below hq2 hB2)
          have HB2 := Lib.hid (HB.out.trans (hB2.mono HB.out.size))
          have HLT := Lib.hid HOW.out.lt
          have hlen : (setsAt (t.rules.take j) k s).length = j + 1 := by simp [setsAt]; omega
          have HBY : Hid (((setsAt (t.rules.take j) k s).length + 1) * (rSl rRg).bytes ≤ 140737488355328) := Lib.hid (by rw [hlen]; show (_ + _) * 24 ≤ _; omega)
          have HBA : Hid (wo.heap.size ≤ W2.heap.size) := Lib.hid HB2.out.size
          have HUP : Hid (∀ b, (S b ∨ T b) ∧ b < w.heap.size → b < W2.heap.size → Up (fun b => (S b ∨ T b) ∧ b < w.heap.size) wo.heap.size b ∧ (Value.slice A4 (setsAt (t.rules.take j) k s).length l4).ownBlock ≠ some b) := Lib.hid fun b hb _ => ⟨.inl hb, fun e => by have := HLT.out b e; have := HBW.out.size; omega⟩
          have HST : Hid (setsAt (t.rules.take (j + 1)) k s = setsAt (t.rules.take j) k s ++ [cl.rs]) := Lib.hid (by rw [setsAt_step hxr]; simp only [rsAt, hxc])
          have hik2 : (j : Int) < (t.rules.length : Int) := by omega
          have hik3 : (k : Int) < (r.cells.length : Int) := by omega
          clear hxr hxc hq hq2 hB2 d1 d2 g1 g2 hcl hEc hk3 hk4 hrk
          go_wp2_with (first | (at_builtin; go_must (refine wpList_append_new (R := rSl rRg) (x := cl.rs) el_RgsA rfl (.tmp 35) (.tmp 42) rfl rfl HOW2.out [.slice A6 cl.rs.length l6] rfl rfl (fun b => (S b ∨ T b) ∧ b < w.heap.size) HQ2.out (by exact HUP.out) HBY.out HBA.out ?_); intro v9 w9 hown9 hb9 _ _))
          go_roundw
          case rel => exact ⟨j + 1, by omega, by go_num, Lib.hid (by rw [HST.out]; exact hown9), Lib.hid (HB2.out.trans hb9)⟩
          case measure => simp [intOf]; omega
        · have hj2 : ¬ (j : Int) < (t.rules.length : Int) := by omega
          have hlen : (setsAt (t.rules.take j) k s).length = t.rules.length + 1 := by simp [setsAt]; omega
          have hsets : setsAt (t.rules.take j) k s = setsAt t.rules k s := by rw [List.take_of_length_le (by omega)]
          have HSETS := Lib.hid hsets
          have hE := (HOW.out.elems (by decide) rfl).2
          have HC := Lib.hid (edges_any (c := l4) wr (by omega) hE)
          clear hE hsets hlen
          go_wp2_with (first | (go_at_call 118; go_must ((with_reducible refine HC.out.mono ?_); rintro e w3 ⟨z3, rfl, hown3, hb3⟩; rw [HSETS.out] at hown3; obtain ⟨A5, l5, rfl⟩ := hown3.value; have hel := hown3.elems (by decide) rfl; have HE3 := Lib.hid hel.2; have hel2 := rSl.lenle (hown3.rel (by decide)) (by decide); have HB3 := Lib.hid (HB.out.trans (hb3.mono HB.out.size)); clear hb3 hown3 hel)))
          go_loopw [13, 48] (fun o i wr => ∃ m : Nat, m ≤ (edgesL (setsAt t.rules k s)).length ∧ i = .int .i64 m ∧ Hid (Own rInt 3 wr w3.heap.size (fun _ => False) o (((edgesL (setsAt t.rules k s)).take m).filter (hasL s))) ∧ Hid (Below w3.heap.size w3 wr)) (fun _ i _ => (edgesL (setsAt t.rules k s)).length - (intOf i).toNat)
          case atStart => exact ⟨0, Nat.zero_le _, rfl, Lib.hid (Own.nil _ _ _ _ _), Lib.hid (Below.refl _ _)⟩
          case round =>
            clear HC HOW
            obtain ⟨m, hm, rfl, HOM, HBM⟩ := hrel
            obtain ⟨A6, l6, rfl⟩ := HOM.out.value
            have HBN : Hid (Below wo.heap.size wo wr) := Lib.hid (HB3.out.trans (HBM.out.mono HB3.out.size))
            by_cases hlt3 : m < (edgesL (setsAt t.rules k s)).length
            · obtain ⟨bE, offE, n, rfl, _, hbE, hxn, hin, e1'⟩ := HE3.out.int hlt3
              have g5 := (HBM.out.cell (p := ⟨bE, offE + m, none⟩) hbE).trans e1'
              have g6 := (HBN.out.cell (p := ⟨bC, off + k, none⟩) (Nat.lt_of_lt_of_le hbC HBW.out.size)).trans ((HBW.out.cell (p := ⟨bC, off + k, none⟩) hbC).trans HG3.out)
              have HCI := Lib.hid (InSet_any n wr (Rd.below HSS.out HBN.out))
              have hfs := filter_step (f := hasL s) hxn
              have hfl : (((edgesL (setsAt t.rules k s)).take m).filter (hasL s)).length ≤ m := Nat.le_trans (List.length_filter_le _ _) (by rw [List.length_take]; omega)
              have hik4 : (m : Int) < ((edgesL (setsAt t.rules k s)).length : Int) := by omega
              have HBY : Hid ((((((edgesL (setsAt t.rules k s)).take m).filter (hasL s))).length + 1) * rInt.bytes ≤ 140737488355328) := Lib.hid (by show (_ + _) * 8 ≤ _; omega)
              have HIN := Lib.hid hin
              cases hh : hasL s n
              · rw [hh] at HCI hfs
                have HFS : Hid (((edgesL (setsAt t.rules k s)).take (m + 1)).filter (hasL s) = ((edgesL (setsAt t.rules k s)).take m).filter (hasL s)) := Lib.hid (by rw [hfs]; simp)
                clear hh hfs hxn hin
                go_wp2_with (first | (go_at_call 119; go_must ((with_reducible refine HCI.out.mono ?_); rintro e w4 ⟨rfl, hb4⟩)))
                go_roundw
                case rel => exact ⟨m + 1, by omega, by go_num, Lib.hid (by rw [HFS.out]; exact HOM.out.below hb4), Lib.hid (HBM.out.trans (hb4.mono HBM.out.size))⟩
                case measure => simp [intOf]; omega
              · rw [hh] at HCI hfs
                have HFS : Hid (((edgesL (setsAt t.rules k s)).take (m + 1)).filter (hasL s) = ((edgesL (setsAt t.rules k s)).take m).filter (hasL s) ++ [n]) := Lib.hid (by rw [hfs]; simp)
                clear hh hfs hxn hin
                go_wp2_with (first | (go_at_call 119; go_must ((with_reducible refine HCI.out.mono ?_); rintro e w4 ⟨rfl, hb4⟩; have HOM4 := Lib.hid (HOM.out.below hb4); have HB4 := Lib.hid (HBM.out.trans (hb4.mono HBM.out.size)); clear hb4)) | (at_builtin; go_must (refine wpList_append_new (R := rInt) (x := n) el_Int rfl (.tmp 58) (.tmp 60) rfl rfl HOM4.out [.int .i64 n] rfl rfl (fun _ => False) ⟨rfl, HIN.out⟩ (fun _ h => h.elim) HBY.out HB4.out.size ?_); intro v9 w9 hown9 hb9 _ _))
                go_roundw
                case rel => exact ⟨m + 1, by omega, by go_num, Lib.hid (by rw [HFS.out]; exact hown9), Lib.hid (HB4.out.trans hb9)⟩
                case measure => simp [intOf]; omega
            · have hm2 : ¬ (m : Int) < ((edgesL (setsAt t.rules k s)).length : Int) := by omega
              have hat : ((edgesL (setsAt t.rules k s)).take m).filter (hasL s) = atL t.rules k s := by rw [List.take_of_length_le (show (edgesL (setsAt t.rules k s)).length ≤ m by omega)]; rfl
              rw [hat] at HOM
              generalize hL : ((edgesL (setsAt t.rules k s)).take m).filter (hasL s) = L at *
              obtain ⟨A7, l7, rfl⟩ := HI.out.own.value
              have HIW := Lib.hid (HI.out.own.below HBN.out)
              have b0 := (HBN.out.cell (p := ⟨w.heap.size + 2, 0, none⟩) (by have := HI.out.big; show w.heap.size + 2 < _; omega)).trans HI.out.cur
              have HRO : Hid ((rSl rInt).rel wr (Up (fun _ => False) w3.heap.size) [.slice A6 L.length l6] L) := Lib.hid (by have := HOM.out.rel (by decide); rw [← hat] at this; exact this)
              have HLT := Lib.hid HI.out.own.lt
              have HUP : Hid (∀ b, Up (fun _ => False) w3.heap.size b → b < wr.heap.size → Up (fun _ => False) (w.heap.size + 3) b ∧ (Value.slice A7 pre.length l7).ownBlock ≠ some b) := Lib.hid fun b hb _ => by
                have h1 : w3.heap.size ≤ b := hb.elim (fun h => h.elim) id
                have h2 := HB3.out.size
                have h3 := HI.out.big
                exact ⟨.inr (by omega), fun e => by have := HLT.out b e; omega⟩
              have HBY : Hid ((pre.length + 1) * (rSl rInt).bytes ≤ 140737488355328) := Lib.hid (by rw [HPL.out]; show (_ + _) * 24 ≤ _; omega)
              have HBA : Hid (w.heap.size + 3 ≤ wr.heap.size) := Lib.hid (Nat.le_trans HI.out.big HBN.out.size)
              have HPUT := Lib.hid fun (u : Value) (w' : World) (pre' : List (List Int)) => HI.out.put (wr := wr) (w9 := w') (pre' := pre') (u := u) HBN.out
              have HAE : Hid (atsFrom t.rules 0 all = (pre ++ [L]) ++ atsFrom t.rules (k + 1) (all.drop (k + 1))) := Lib.hid (by rw [HE.out, HAT.out, hat]; simp)
              clear hat hL
              go_wp2_with (first | (at_builtin; go_must (refine wpList_append_new (R := rSl rInt) (x := L) el_IntsA rfl (.tmp 63) (.tmp 65) rfl rfl HIW.out [.slice A6 L.length l6] rfl rfl (Up (fun _ => False) w3.heap.size) HRO.out (by exact HUP.out) HBY.out HBA.out ?_); intro v9 w9 hown9 hb9 _ _; obtain ⟨A9, l9, e9⟩ := hown9.value; rw [List.length_append, List.length_singleton] at e9; subst e9; obtain ⟨HSI, y0, y1⟩ := HPUT.out _ w9 _ hb9 hown9))
              go_roundw
              case rel => exact ⟨k + 1, pre ++ [L], _, by omega, by go_num, Lib.hid HSI, HAE, Lib.hid (by rw [List.length_append, HPL.out]; rfl)⟩
              case measure => simp [intOf]; omega
    · obtain ⟨wo, hwo⟩ : ∃ x, x = wr := ⟨_, rfl⟩
      subst hwo
      have HAE : Hid (atsFrom t.rules 0 all = pre) := Lib.hid (by rw [HE.out, List.drop_eq_nil_of_le (show all.length ≤ k by omega)]; simp [atsFrom])
      have HBW : Hid (Below w.heap.size w wo) := Lib.hid (HB0.out.trans (HI.out.bel.mono (by omega)))
      have hbig := HI.out.big
      have HFN : Hid (∀ (v : Value) (w1 : World), FindSt wo (w.heap.size + 1 + 1) (w.heap.size + 1) wo.heap.size (wo.heap.size + 1) (wo.heap.size + 2) [] v w1 → Calls Tryz.prog 120 #[.pointer (some ⟨wo.heap.size, 0, none⟩), .pointer (some ⟨w.heap.size + 1 + 1, 0, none⟩), .pointer (some ⟨w.heap.size + 1, 0, none⟩), .pointer (some ⟨wo.heap.size + 1, 0, none⟩)] w1 (FindOut wo (w.heap.size + 1 + 1) (w.heap.size + 1) wo.heap.size (wo.heap.size + 1) (wo.heap.size + 2) [] (findL p pre []))) :=
        Lib.hid fun v w1 h => searchClash_fn (p := p) (P := P) HI.out.cur (HI.out.own.rel (by decide)) ((HI.out.bel.cell (p := ⟨w.heap.size + 1, 0, none⟩) (by show w.heap.size + 1 < _; omega)).trans HC1.out) (fun w' hb => HP.out w' (HBW.out.trans (hb.mono HBW.out.size))) pre.length [] v w1 (by simp) h
      obtain ⟨W1, e1, hB1, hs1, n0, n1, x0, x1⟩ := alloc2_cells wo #[.slice none 0 0] #[.nilFunc] 23 67
      have m1 : W1.cell? ⟨wo.heap.size + 1, 0, none⟩ = some .nilFunc := n1 0
      have y1 : W1.frozen? ⟨wo.heap.size + 1, 0, none⟩ = false := x1 0
      obtain ⟨W2, e2, HST⟩ : ∃ W2, W1.setCell ⟨wo.heap.size + 1, 0, none⟩ (.func (.func 120) #[] #[.pointer (some ⟨wo.heap.size, 0, none⟩), .pointer (some ⟨w.heap.size + 1 + 1, 0, none⟩), .pointer (some ⟨w.heap.size + 1, 0, none⟩), .pointer (some ⟨wo.heap.size + 1, 0, none⟩)]) = W2 ∧ Hid (FindSt wo (w.heap.size + 1 + 1) (w.heap.size + 1) wo.heap.size (wo.heap.size + 1) (wo.heap.size + 2) [] (.slice none 0 0) W2) := by
        refine ⟨_, rfl, Lib.hid ⟨hB1.setCell (Nat.le_succ _) _, (World.cell?_setCell_other _ _ _ _ (by simp)).trans (n0 0), by rw [World.frozen?_setCell]; exact x0 0, World.cell?_setCell_same _ _ _ m1, Own.nil _ _ _ _ _, by simp [hs1], by omega⟩⟩
      have j2 := HST.out.walk
      have HBX : Hid (∀ w6, Below wo.heap.size wo w6 → Below w.heap.size w w6) := Lib.hid fun w6 h => HBW.out.trans (h.mono HBW.out.size)
      clear n0 n1 x0 x1 hs1 hB1
      cases hf : findL p pre [] with
      | some z =>
        have HZ := Lib.hid hf
        have HZ2 := Lib.hid (show findL p (atsFrom t.rules 0 all) [] = some z by rw [HAE.out]; exact hf)
        clear hf
        go_wp2_with (first | (go_at_call 120; go_must ((with_reducible refine (HFN.out _ _ HST.out).mono ?_); rintro e w6 ⟨v6, e6, hst6⟩; rw [HZ.out] at e6 hst6; replace e6 : e = .returned (.bool true) := e6; subst e6; have l6 := hst6.cur)))
        go_ret2
        exact ⟨v6, by rw [HZ2.out]; rfl, by rw [HZ2.out]; exact hst6.own.lower (Nat.le_trans (show w.heap.size ≤ wo.heap.size by omega) (Nat.le_add_right _ 2)), HBX.out _ hst6.bel⟩
      | none =>
        have HZ := Lib.hid hf
        have HZ2 := Lib.hid (show findL p (atsFrom t.rules 0 all) [] = none by rw [HAE.out]; exact hf)
        clear hf
        go_wp2_with (first | (go_at_call 120; go_must ((with_reducible refine (HFN.out _ _ HST.out).mono ?_); rintro e w6 ⟨v6, e6, hst6⟩; rw [HZ.out] at e6 hst6; replace e6 : e = .returned (.bool false) := e6; subst e6)))
        go_ret2
        exact ⟨_, by rw [HZ2.out]; rfl, by rw [HZ2.out]; exact Own.nil _ _ _ _ _, HBX.out _ hst6.bel⟩

end Go.Proofs.YtlopccnehgolnabGreatDoor

namespace Go.Proofs.YtlopccnehgolnabGreatDoor
open Go.RowKit Rb

theorem gap_res {t : Tb} {all : Bx} (hg : goodT t = true) (hb : goodBx all (t.ins.length : Int) = true) (h7 : t.pol ≠ 7) : (findL (fun ns => decide ((matchesL t.rules ns).length = 0)) (atsFrom t.rules 0 all) []).isSome = decide (0 < (gapB t all).length) ∧ (findL (fun ns => decide ((matchesL t.rules ns).length = 0)) (atsFrom t.rules 0 all) []).getD [] = leastB (gapB t all) := by
  rw [gap_find hg hb h7]
  by_cases h : 0 < (gapB t all).length
  · simp [h]
  · rw [List.eq_nil_of_length_eq_zero (l := gapB t all) (by omega)]
    exact ⟨rfl, rfl⟩
theorem clash_res {t : Tb} {all : Bx} (hg : goodT t = true) (hb : goodBx all (t.ins.length : Int) = true) : (findL (fun ns => decide ((saysT t ns).2.2 = 4)) (atsFrom t.rules 0 all) []).isSome = decide (0 < (clashB t all).length) ∧ (findL (fun ns => decide ((saysT t ns).2.2 = 4)) (atsFrom t.rules 0 all) []).getD [] = leastB (clashB t all) := by
  rw [clash_find hg hb]
  by_cases h : 0 < (clashB t all).length
  · simp [h]
  · rw [List.eq_nil_of_length_eq_zero (l := clashB t all) (by omega)]
    exact ⟨rfl, rfl⟩
theorem IsTable_g {S : Nat → Prop} {cs : List Value} {t : Tb} {b : Bool} (w : World) (hl : rTb.rel w S cs t) (h : goodT t = b) : Calls Tryz.prog 56 #[.agg cs.toArray] w fun e w' => e = .returned (.bool b) ∧ Below w.heap.size w w' := h ▸ IsTable_any w hl
theorem IsBox_g {S : Nat → Prop} {v : Value} {b : Bx} {r : Bool} (n : Int) (w : World) (hl : rBx.rel w S [v] b) (h : goodBx b n = r) : Calls Tryz.prog 57 #[v, .int .i64 n] w fun e w' => e = .returned (.bool r) ∧ Below w.heap.size w w' := h ▸ IsBox_any n w hl

set_option maxRecDepth 100000 in
set_option maxHeartbeats 1600000 in
theorem GapOf_any {S T : Nat → Prop} {cs : List Value} {t : Tb} {u : Value} {all : Bx} (w : World) (hl : rTb.rel w S cs t) (hm : rBx.rel w T [u] all) :
    Calls Tryz.prog 20 #[.agg cs.toArray, u] w fun e w' => ∃ z S', e = .returned (.tuple #[z, .bool (decide (0 < (gapB t all).length))]) ∧ (rSl rInt).rel w' S' [z] (leastB (gapB t all)) ∧ Below w.heap.size w w' := by
  have hl0 := hl
  obtain ⟨vi, vr, rfl, hnm, hp, hi, hr⟩ := hl
  obtain ⟨A, c, rfl, _, _, hi3, _⟩ := rSl.elems hi
  obtain ⟨B, d, rfl, _⟩ := rSl.elems hr
  obtain ⟨W0, e0, HB0, HT0, HM0, c0, c1, c2, c3, c4, hs0⟩ : ∃ W0, w.alloc (.cells #[.string ⟨t.name.toArray⟩, .int .i64 t.pol, .bool t.comp, .slice A t.ins.length c, .slice B t.rules.length d] 42) = W0 ∧ Hid (Below w.heap.size w W0) ∧ Hid (rTb.rel W0 S [.string ⟨t.name.toArray⟩, .int .i64 t.pol, .bool t.comp, .slice A t.ins.length c, .slice B t.rules.length d] t) ∧ Hid (rBx.rel W0 T [u] all) ∧
      W0.cell? ⟨w.heap.size, 0, none⟩ = some (.string ⟨t.name.toArray⟩) ∧ W0.cell? ⟨w.heap.size, 1, none⟩ = some (.int .i64 t.pol) ∧ W0.cell? ⟨w.heap.size, 2, none⟩ = some (.bool t.comp) ∧ W0.cell? ⟨w.heap.size, 3, none⟩ = some (.slice A t.ins.length c) ∧ W0.cell? ⟨w.heap.size, 4, none⟩ = some (.slice B t.rules.length d) ∧ w.heap.size < W0.heap.size :=
    ⟨_, rfl, Lib.hid ((Below.refl _ _).alloc (Nat.le_refl _) _), Lib.hid (Rd.alloc hl0 _), Lib.hid (Rd.alloc hm _), World.cell?_alloc_new _ _ _ _, World.cell?_alloc_new _ _ _ _, World.cell?_alloc_new _ _ _ _, World.cell?_alloc_new _ _ _ _, World.cell?_alloc_new _ _ _ _, by simp⟩
  obtain ⟨AU, cU, rfl, _⟩ := rSl.elems hm
  have hil : t.ins.length ≤ 17592186044416 := by simp only [rStr] at hi3; omega
  clear hl0 hm hi hr hnm hp hi3
  cases hgt : goodT t
  · have qg := Lib.hid hgt
    have HN : Hid (gapB t all = []) := Lib.hid (by unfold gapB; rw [hgt]; rfl)
    clear hgt
    go_enter Tryz.func20, Tryz.ntmps20
    go_wp2_with (first | (go_at_call 56; go_must ((with_reducible refine (IsTable_g W0 HT0.out qg.out).mono ?_); rintro e w1 ⟨rfl, hb1⟩; have HB1 := Lib.hid (HB0.out.trans (hb1.mono HB0.out.size)); clear hb1)))
    go_ret2
    exact ⟨_, fun _ => True, by rw [HN.out]; rfl, by rw [HN.out]; exact nil_rel rInt _, HB1.out⟩
  have qg := Lib.hid hgt
  cases hgb : goodBx all (t.ins.length : Int)
  · have qb := Lib.hid hgb
    have HN : Hid (gapB t all = []) := Lib.hid (by unfold gapB; rw [hgt, hgb]; rfl)
    clear hgt hgb
    go_enter Tryz.func20, Tryz.ntmps20
    go_wp2_with (first | (go_at_call 56; go_must ((with_reducible refine (IsTable_g W0 HT0.out qg.out).mono ?_); rintro e w1 ⟨rfl, hb1⟩; have HB1 := Lib.hid (HB0.out.trans (hb1.mono HB0.out.size)); have HM1 := Lib.hid (Rd.below HM0.out hb1); have d1 := (hb1.cell (p := ⟨w.heap.size, 1, none⟩) hs0).trans c1; have d3 := (hb1.cell (p := ⟨w.heap.size, 3, none⟩) hs0).trans c3; clear hb1)) | (go_at_call 57; go_must ((with_reducible refine (IsBox_g _ w1 HM1.out qb.out).mono ?_); rintro e w2 ⟨rfl, hb2⟩; have HB2 := Lib.hid (HB1.out.trans (hb2.mono HB1.out.size)); clear hb2)))
    go_ret2
    exact ⟨_, fun _ => True, by rw [HN.out]; rfl, by rw [HN.out]; exact nil_rel rInt _, HB2.out⟩
  have qb := Lib.hid hgb
  by_cases hc : t.pol = 7
  · have HN : Hid (gapB t all = []) := Lib.hid (by
      have : (0 : Int) ≤ 0 := Int.le_refl _
      unfold gapB; rw [hgt, hgb, if_neg]; simp; omega)
    have hpp : (t.pol == 7) = true := by simp [hc]
    clear hgt hgb hc
    go_enter Tryz.func20, Tryz.ntmps20
    go_wp2_with (first | (go_at_call 56; go_must ((with_reducible refine (IsTable_g W0 HT0.out qg.out).mono ?_); rintro e w1 ⟨rfl, hb1⟩; have HB1 := Lib.hid (HB0.out.trans (hb1.mono HB0.out.size)); have HM1 := Lib.hid (Rd.below HM0.out hb1); have d1 := (hb1.cell (p := ⟨w.heap.size, 1, none⟩) hs0).trans c1; have d3 := (hb1.cell (p := ⟨w.heap.size, 3, none⟩) hs0).trans c3; have HS1 := Lib.hid (Nat.lt_of_lt_of_le hs0 hb1.size); clear hb1)) | (go_at_call 57; go_must ((with_reducible refine (IsBox_g _ w1 HM1.out qb.out).mono ?_); rintro e w2 ⟨rfl, hb2⟩; have HB2 := Lib.hid (HB1.out.trans (hb2.mono HB1.out.size)); have x1 := (hb2.cell (p := ⟨w.heap.size, 1, none⟩) HS1.out).trans d1; clear hb2)))
    go_ret2
    exact ⟨_, fun _ => True, by rw [HN.out]; rfl, by rw [HN.out]; exact nil_rel rInt _, HB2.out⟩
  · have HR := Lib.hid (gap_res hgt hgb hc)
    have HOK : Hid (∀ r ∈ t.rules, r.cells.length = all.length) := Lib.hid fun r hr => by
      have h1 := goodT_cells hgt hr
      have h2 : (all.length : Int) = t.ins.length := (goodBx_iff.1 hgb).2.1
      omega
    have hpp : (t.pol == 7) = false := by simp [hc]
    have HC : Hid (∀ w2, Below W0.heap.size W0 w2 → Calls Tryz.prog 58 #[.agg #[.string ⟨t.name.toArray⟩, .int .i64 t.pol, .bool t.comp, .slice A t.ins.length c, .slice B t.rules.length d], .slice AU all.length cU, .func (.func 59) #[] #[.pointer (some ⟨w.heap.size, 0, none⟩)]] w2 fun e w' => ∃ z, e = .returned (.tuple #[z, .bool (decide (0 < (gapB t all).length))]) ∧ Own rInt 3 w' w2.heap.size (fun _ => False) z (leastB (gapB t all)) ∧ Below w2.heap.size w2 w') := Lib.hid fun w2 hb => by
      have h := searchGap_any (p := fun ns => decide ((matchesL t.rules ns).length = 0)) (P := .pointer (some ⟨w.heap.size, 0, none⟩)) w2 (Rd.below HT0.out hb) (Rd.below HM0.out hb) HOK.out fun w' hb' T v ns hn => by
        have hbb := hb.trans (hb'.mono hb.size)
        exact GapFn_any w.heap.size w' ((hbb.cell (p := ⟨w.heap.size, 0, none⟩) hs0).trans c0) ((hbb.cell (p := ⟨w.heap.size, 1, none⟩) hs0).trans c1) ((hbb.cell (p := ⟨w.heap.size, 2, none⟩) hs0).trans c2) ((hbb.cell (p := ⟨w.heap.size, 3, none⟩) hs0).trans c3) ((hbb.cell (p := ⟨w.heap.size, 4, none⟩) hs0).trans c4) (Rd.below HT0.out hbb) hn
      rw [HR.out.1, HR.out.2] at h
      exact h
    clear hgt hgb hc
    go_enter Tryz.func20, Tryz.ntmps20
    go_wp2_with (first | (go_at_call 56; go_must ((with_reducible refine (IsTable_g W0 HT0.out qg.out).mono ?_); rintro e w1 ⟨rfl, hb1⟩; have HB1 := Lib.hid hb1; have HM1 := Lib.hid (Rd.below HM0.out hb1); have d1 := (hb1.cell (p := ⟨w.heap.size, 1, none⟩) hs0).trans c1; have d3 := (hb1.cell (p := ⟨w.heap.size, 3, none⟩) hs0).trans c3; clear hb1)) | (go_at_call 57; go_must ((with_reducible refine (IsBox_g _ w1 HM1.out qb.out).mono ?_); rintro e w2 ⟨rfl, hb2'⟩; have hb2 := HB1.out.trans (hb2'.mono HB1.out.size); have HB2 := Lib.hid hb2; have x0 := (hb2.cell (p := ⟨w.heap.size, 0, none⟩) hs0).trans c0; have x1 := (hb2.cell (p := ⟨w.heap.size, 1, none⟩) hs0).trans c1; have x2 := (hb2.cell (p := ⟨w.heap.size, 2, none⟩) hs0).trans c2; have x3 := (hb2.cell (p := ⟨w.heap.size, 3, none⟩) hs0).trans c3; have x4 := (hb2.cell (p := ⟨w.heap.size, 4, none⟩) hs0).trans c4; clear hb2 hb2')) | (go_at_call 58; go_must ((with_reducible refine (HC.out w2 HB2.out).mono ?_); rintro e w3 ⟨z3, rfl, hown3, hb3⟩; have HB3 := Lib.hid (HB0.out.trans (((HB2.out.trans (hb3.mono HB2.out.size))).mono HB0.out.size)); clear hb3)))
    go_ret2
    exact ⟨z3, _, rfl, hown3.rel (by decide), HB3.out⟩
set_option maxRecDepth 100000 in
set_option maxHeartbeats 1600000 in
theorem ClashOf_any {S T : Nat → Prop} {cs : List Value} {t : Tb} {u : Value} {all : Bx} (w : World) (hl : rTb.rel w S cs t) (hm : rBx.rel w T [u] all) :
    Calls Tryz.prog 22 #[.agg cs.toArray, u] w fun e w' => ∃ z S', e = .returned (.tuple #[z, .bool (decide (0 < (clashB t all).length))]) ∧ (rSl rInt).rel w' S' [z] (leastB (clashB t all)) ∧ Below w.heap.size w w' := by
  have hl0 := hl
  obtain ⟨vi, vr, rfl, hnm, hp, hi, hr⟩ := hl
  obtain ⟨A, c, rfl, _, _, hi3, _⟩ := rSl.elems hi
  obtain ⟨B, d, rfl, _⟩ := rSl.elems hr
  obtain ⟨W0, e0, HB0, HT0, HM0, c0, c1, c2, c3, c4, hs0⟩ : ∃ W0, w.alloc (.cells #[.string ⟨t.name.toArray⟩, .int .i64 t.pol, .bool t.comp, .slice A t.ins.length c, .slice B t.rules.length d] 42) = W0 ∧ Hid (Below w.heap.size w W0) ∧ Hid (rTb.rel W0 S [.string ⟨t.name.toArray⟩, .int .i64 t.pol, .bool t.comp, .slice A t.ins.length c, .slice B t.rules.length d] t) ∧ Hid (rBx.rel W0 T [u] all) ∧
      W0.cell? ⟨w.heap.size, 0, none⟩ = some (.string ⟨t.name.toArray⟩) ∧ W0.cell? ⟨w.heap.size, 1, none⟩ = some (.int .i64 t.pol) ∧ W0.cell? ⟨w.heap.size, 2, none⟩ = some (.bool t.comp) ∧ W0.cell? ⟨w.heap.size, 3, none⟩ = some (.slice A t.ins.length c) ∧ W0.cell? ⟨w.heap.size, 4, none⟩ = some (.slice B t.rules.length d) ∧ w.heap.size < W0.heap.size :=
    ⟨_, rfl, Lib.hid ((Below.refl _ _).alloc (Nat.le_refl _) _), Lib.hid (Rd.alloc hl0 _), Lib.hid (Rd.alloc hm _), World.cell?_alloc_new _ _ _ _, World.cell?_alloc_new _ _ _ _, World.cell?_alloc_new _ _ _ _, World.cell?_alloc_new _ _ _ _, World.cell?_alloc_new _ _ _ _, by simp⟩
  obtain ⟨AU, cU, rfl, _⟩ := rSl.elems hm
  have hil : t.ins.length ≤ 17592186044416 := by simp only [rStr] at hi3; omega
  clear hl0 hm hi hr hnm hp hi3
  cases hgt : goodT t
  · have qg := Lib.hid hgt
    have HN : Hid (clashB t all = []) := Lib.hid (by unfold clashB; rw [hgt]; rfl)
    clear hgt
    go_enter Tryz.func22, Tryz.ntmps22
    go_wp2_with (first | (go_at_call 56; go_must ((with_reducible refine (IsTable_g W0 HT0.out qg.out).mono ?_); rintro e w1 ⟨rfl, hb1⟩; have HB1 := Lib.hid (HB0.out.trans (hb1.mono HB0.out.size)); clear hb1)))
    go_ret2
    exact ⟨_, fun _ => True, by rw [HN.out]; rfl, by rw [HN.out]; exact nil_rel rInt _, HB1.out⟩
  have qg := Lib.hid hgt
  cases hgb : goodBx all (t.ins.length : Int)
  · have qb := Lib.hid hgb
    have HN : Hid (clashB t all = []) := Lib.hid (by unfold clashB; rw [hgt, hgb]; rfl)
    clear hgt hgb
    go_enter Tryz.func22, Tryz.ntmps22
    go_wp2_with (first | (go_at_call 56; go_must ((with_reducible refine (IsTable_g W0 HT0.out qg.out).mono ?_); rintro e w1 ⟨rfl, hb1⟩; have HB1 := Lib.hid (HB0.out.trans (hb1.mono HB0.out.size)); have HM1 := Lib.hid (Rd.below HM0.out hb1); have d1 := (hb1.cell (p := ⟨w.heap.size, 1, none⟩) hs0).trans c1; have d3 := (hb1.cell (p := ⟨w.heap.size, 3, none⟩) hs0).trans c3; clear hb1)) | (go_at_call 57; go_must ((with_reducible refine (IsBox_g _ w1 HM1.out qb.out).mono ?_); rintro e w2 ⟨rfl, hb2⟩; have HB2 := Lib.hid (HB1.out.trans (hb2.mono HB1.out.size)); clear hb2)))
    go_ret2
    exact ⟨_, fun _ => True, by rw [HN.out]; rfl, by rw [HN.out]; exact nil_rel rInt _, HB2.out⟩
  have qb := Lib.hid hgb
  by_cases hc : 2 < t.pol
  · have HN : Hid (clashB t all = []) := Lib.hid (by
      have : (0 : Int) ≤ 0 := Int.le_refl _
      unfold clashB; rw [hgt, hgb, if_neg]; simp; omega)
    have hpp : 2 < t.pol := hc
    clear hgt hgb hc
    go_enter Tryz.func22, Tryz.ntmps22
    go_wp2_with (first | (go_at_call 56; go_must ((with_reducible refine (IsTable_g W0 HT0.out qg.out).mono ?_); rintro e w1 ⟨rfl, hb1⟩; have HB1 := Lib.hid (HB0.out.trans (hb1.mono HB0.out.size)); have HM1 := Lib.hid (Rd.below HM0.out hb1); have d1 := (hb1.cell (p := ⟨w.heap.size, 1, none⟩) hs0).trans c1; have d3 := (hb1.cell (p := ⟨w.heap.size, 3, none⟩) hs0).trans c3; have HS1 := Lib.hid (Nat.lt_of_lt_of_le hs0 hb1.size); clear hb1)) | (go_at_call 57; go_must ((with_reducible refine (IsBox_g _ w1 HM1.out qb.out).mono ?_); rintro e w2 ⟨rfl, hb2⟩; have HB2 := Lib.hid (HB1.out.trans (hb2.mono HB1.out.size)); have x1 := (hb2.cell (p := ⟨w.heap.size, 1, none⟩) HS1.out).trans d1; clear hb2)))
    go_ret2
    exact ⟨_, fun _ => True, by rw [HN.out]; rfl, by rw [HN.out]; exact nil_rel rInt _, HB2.out⟩
  · have HR := Lib.hid (clash_res hgt hgb)
    have HOK : Hid (∀ r ∈ t.rules, r.cells.length = all.length) := Lib.hid fun r hr => by
      have h1 := goodT_cells hgt hr
      have h2 : (all.length : Int) = t.ins.length := (goodBx_iff.1 hgb).2.1
      omega
    have hpp : ¬ 2 < t.pol := hc
    have HC : Hid (∀ w2, Below W0.heap.size W0 w2 → Calls Tryz.prog 58 #[.agg #[.string ⟨t.name.toArray⟩, .int .i64 t.pol, .bool t.comp, .slice A t.ins.length c, .slice B t.rules.length d], .slice AU all.length cU, .func (.func 63) #[] #[.pointer (some ⟨w.heap.size, 0, none⟩)]] w2 fun e w' => ∃ z, e = .returned (.tuple #[z, .bool (decide (0 < (clashB t all).length))]) ∧ Own rInt 3 w' w2.heap.size (fun _ => False) z (leastB (clashB t all)) ∧ Below w2.heap.size w2 w') := Lib.hid fun w2 hb => by
      have h := searchClash_any (p := fun ns => decide ((saysT t ns).2.2 = 4)) (P := .pointer (some ⟨w.heap.size, 0, none⟩)) w2 (Rd.below HT0.out hb) (Rd.below HM0.out hb) HOK.out fun w' hb' T v ns hn => by
        have hbb := hb.trans (hb'.mono hb.size)
        exact ClashFn_any w.heap.size w' ((hbb.cell (p := ⟨w.heap.size, 0, none⟩) hs0).trans c0) ((hbb.cell (p := ⟨w.heap.size, 1, none⟩) hs0).trans c1) ((hbb.cell (p := ⟨w.heap.size, 2, none⟩) hs0).trans c2) ((hbb.cell (p := ⟨w.heap.size, 3, none⟩) hs0).trans c3) ((hbb.cell (p := ⟨w.heap.size, 4, none⟩) hs0).trans c4) (Rd.below HT0.out hbb) hn
      rw [HR.out.1, HR.out.2] at h
      exact h
    clear hgt hgb hc
    go_enter Tryz.func22, Tryz.ntmps22
    go_wp2_with (first | (go_at_call 56; go_must ((with_reducible refine (IsTable_g W0 HT0.out qg.out).mono ?_); rintro e w1 ⟨rfl, hb1⟩; have HB1 := Lib.hid hb1; have HM1 := Lib.hid (Rd.below HM0.out hb1); have d1 := (hb1.cell (p := ⟨w.heap.size, 1, none⟩) hs0).trans c1; have d3 := (hb1.cell (p := ⟨w.heap.size, 3, none⟩) hs0).trans c3; clear hb1)) | (go_at_call 57; go_must ((with_reducible refine (IsBox_g _ w1 HM1.out qb.out).mono ?_); rintro e w2 ⟨rfl, hb2'⟩; have hb2 := HB1.out.trans (hb2'.mono HB1.out.size); have HB2 := Lib.hid hb2; have x0 := (hb2.cell (p := ⟨w.heap.size, 0, none⟩) hs0).trans c0; have x1 := (hb2.cell (p := ⟨w.heap.size, 1, none⟩) hs0).trans c1; have x2 := (hb2.cell (p := ⟨w.heap.size, 2, none⟩) hs0).trans c2; have x3 := (hb2.cell (p := ⟨w.heap.size, 3, none⟩) hs0).trans c3; have x4 := (hb2.cell (p := ⟨w.heap.size, 4, none⟩) hs0).trans c4; clear hb2 hb2')) | (go_at_call 58; go_must ((with_reducible refine (HC.out w2 HB2.out).mono ?_); rintro e w3 ⟨z3, rfl, hown3, hb3⟩; have HB3 := Lib.hid (HB0.out.trans (((HB2.out.trans (hb3.mono HB2.out.size))).mono HB0.out.size)); clear hb3)))
    go_ret2
    exact ⟨z3, _, rfl, hown3.rel (by decide), HB3.out⟩

end Go.Proofs.YtlopccnehgolnabGreatDoor
