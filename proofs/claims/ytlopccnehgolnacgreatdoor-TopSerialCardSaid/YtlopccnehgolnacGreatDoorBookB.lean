import Derived.Test.YtlopccnehgolnacGreatDoorGK18
import Derived.Test.YtlopccnehgolnacGreatDoorGK23
namespace Go.Proofs.YtlopccnehgolnacGreatDoor
open Go.RowKit Rb
set_option maxRecDepth 100000
set_option maxHeartbeats 800000
def okIn (b : Bk) (s : Txt) : Bool := Y6u b s && (decide (-1000000 <= (allR b s).1) && decide ((allR b s).2 <= 1000000))
def Y4u (b : Bk) : List Txt -> Option Bx
 | [] => some []
 | s :: l => if okIn b s then (Y4u b l).map ([allR b s] :: ·) else none
def Z5f (b : Bk) (t : Tb) : Option Bx := Y4u b t.ins
theorem X0w {b : Bk} {l : List Txt} {k : Nat} {s : Txt} (h : l[k]? = some s) : Y4u b (l.drop k) = if okIn b s then (Y4u b (l.drop (k + 1))).map ([allR b s] :: ·) else none := by
 rw [Z0p h]; rfl
theorem Y5n {pol : Int} {i k : Nat} {r : Int × Int} {o : Int} (hr : (-(1000000 * (k : Int)) <= r.1 /\ r.1 <= 1000000 * (k : Int)) /\ (-(1000000 * (k : Int)) <= r.2 /\ r.2 <= 1000000 * (k : Int))) (ho : -1000000 <= o /\ o <= 1000000) :
  (-(1000000 * ((k + 1 : Nat) : Int)) <= (Z15 pol i r o).1 /\ (Z15 pol i r o).1 <= 1000000 * ((k + 1 : Nat) : Int)) /\ (-(1000000 * ((k + 1 : Nat) : Int)) <= (Z15 pol i r o).2 /\ (Z15 pol i r o).2 <= 1000000 * ((k + 1 : Nat) : Int)) := by
 unfold Z15
 split
 ·split <;> dsimp only <;> omega
 split <;> dsimp only <;> omega
theorem Y4f (pol : Int) : ∀ (l : List Rl) (i k : Nat) (r : Int × Int), ((-(1000000 * (k : Int)) <= r.1 /\ r.1 <= 1000000 * (k : Int)) /\ (-(1000000 * (k : Int)) <= r.2 /\ r.2 <= 1000000 * (k : Int))) -> (∀ x ∈ l, -1000000 <= x.out /\ x.out <= 1000000) ->
  (-(1000000 * ((k + l.length : Nat) : Int)) <= (Z36 pol i l r).1 /\ (Z36 pol i l r).1 <= 1000000 * ((k + l.length : Nat) : Int)) /\ (-(1000000 * ((k + l.length : Nat) : Int)) <= (Z36 pol i l r).2 /\ (Z36 pol i l r).2 <= 1000000 * ((k + l.length : Nat) : Int))
 | [], _, _, _, hr, _ => hr
 | x :: l, i, k, r, hr, h => by
  have := Y4f pol l (i + 1) (k + 1) (Z15 pol i r x.out) (Y5n hr (h x (by simp))) fun y hy => h y (by simp [hy])
  rw [show k + (x :: l).length = k + 1 + l.length by simp; omega]
  exact this
theorem X1z {t : Tb} (h : SmallT t) : InI (Z5h t).1 /\ InI (Z5h t).2 := by
 have h6 := h.1
 unfold Z5h InI
 split
 ·dsimp only; omega
 have := Y4f t.pol t.rules 0 0 (0, 0) (by simp) h.2
 omega
theorem X24 {w : World} {S : Nat -> Prop} {cs : List Value} {b : Bk} (h : rBk.rel w S cs b) (hb : SmallB b) (s : Txt) : InI (allR b s).1 /\ InI (allR b s).2 := by
 unfold allR
 cases hf : findD b.doms s with
 | none => exact X1z (hb.found s)
 | some d =>
  obtain ⟨v, u, rfl, hd, _⟩ := h
  obtain ⟨A, c, rfl, _, _, _, hE⟩ := rSl.elems hd
  obtain ⟨i, hi, rfl⟩ := L1u (L1s hf)
  obtain ⟨_, _, x, _, _, hx, hr, _⟩ := hE.dm hi
  rw [L0f hi] at hx
  obtain rfl := L0s hx
  exact hr.2
theorem X14 {S : Nat -> Prop} {cs : List Value} {b : Bk} {s : Txt} {lo hi : Int} {f : Bool} (w : World) (hl : rBk.rel w S cs b) (hs : s.length <= 140737488355328) (hb : SmallB b) (hr : allR b s = (lo, hi)) (hf : Y6u b s = f) :
  Calls Tryz.prog 117 #[.agg cs.toArray, sq s] w fun e w' => e = .returned (.tuple #[.agg #[.int .i64 lo, .int .i64 hi], .bool f]) /\ Bw w w' := by
 have := X2i s w hl hs hb
 rwa [hr, hf] at this
theorem Y7w {S T : Nat -> Prop} {bs cs : List Value} {b : Bk} {t : Tb} (w : World) (hb : rBk.rel w S bs b) (ht : rTb.rel w T cs t) (hsm : SmallB b) (h3 : t.ins.length <= 3) :
  Calls Tryz.prog 96 #[.agg bs.toArray, .agg cs.toArray] w fun e w' => ∃ z, e = .returned (.tuple #[z, .bool (Z1i (Z5f b t))]) /\ Own (rSl rRg) 70 w' w.heap.size (fun _ => False) z (Z3a (Z5f b t)) /\ Bw w w' := by
 have hb' := hb
 have HIN := L0 fun s => X24 hb hsm s
 have HSM := L0 hsm
 obtain ⟨v0, u0, rfl, hd, htb⟩ := hb
 obtain ⟨A, c, rfl, _⟩ := rSl.elems hd
 obtain ⟨B, d, rfl, _⟩ := rSl.elems htb
 obtain ⟨vi, vr, rfl, _, _, hi, hr⟩ := ht
 obtain ⟨I, ic, rfl, _, _, hib, hE⟩ := rSl.elems hi
 obtain ⟨R, rc, rfl, _⟩ := rSl.elems hr
 obtain ⟨W, eW, HB, k0, k1, k3, hs0, hs1, HBK⟩ : ∃ W, (w.alloc (.cells #[.slice A b.doms.length c, .slice B b.tabs.length d] 38)).alloc (.cells #[sq t.name, .int .i64 t.pol, .bool t.comp, .slice I t.ins.length ic, .slice R t.rules.length rc] 66) = W /\ Hid (Bw w W) /\
   W.cell? (zn w.heap.size 0) = some (.slice A b.doms.length c) /\ W.cell? (zn w.heap.size 1) = some (.slice B b.tabs.length d) /\ W.cell? (zn (w.heap.size + 1) 3) = some (.slice I t.ins.length ic) /\ w.heap.size < W.heap.size /\ w.heap.size + 1 < W.heap.size /\ Hid (rBk.rel W S [.slice A b.doms.length c, .slice B b.tabs.length d] b) := by
  have s1 : (w.alloc (.cells #[.slice A b.doms.length c, .slice B b.tabs.length d] 38)).heap.size = w.heap.size + 1 := by simp
  refine ⟨_, rfl, L0 (bA.alloc (by simp) _), (L0j _ _ _ (by simp)).trans (L0b _ _ _ _), (L0j _ _ _ (by simp)).trans (L0b _ _ _ _), ?_, by simp; omega, by simp, L0 (Rd.alloc (Rd.alloc hb' _) _)⟩
  rw [<- s1]; exact L0b _ _ _ _
 clear hb' hd htb hi hr hib hsm
 go_enter Tryz.func96, Tryz.ntmps96
 go_wp2
 clear eW
 go_loopw [6, 14] (fun o i wr => ∃ (k : Nat) (pre : Bx), k <= t.ins.length /\ i = .int .i64 k /\ Own (rSl rRg) 70 wr W.heap.size (fun _ => False) o pre /\ pre.length = k /\ Hid (Z5f b t = (Y4u b (t.ins.drop k)).map (pre ++ ·)) /\ Hid (Bw W wr)) (fun _ i _ => t.ins.length - (intOf i).toNat)
 exact ⟨0, [], L0o _, rfl, Own.nil _ _ _ _ _, rfl, L0 (by simp [Z5f]), L0 (L0m _ _)⟩
 obtain ⟨k, pre, hk, rfl, hown, hpl, HI, HBr⟩ := hrel
 have g0 := (HBr.o.ce 0 hs0).trans k0
 have g1 := (HBr.o.ce 1 hs0).trans k1
 have hbw := HB.o.trans (HBr.o.mono HB.o.size)
 by_cases hlt : k < t.ins.length
 ·obtain ⟨q, off, s, rfl, _, hq, hx, hxl, h1⟩ := hE.str hlt
  rw [<- hbw.ce _ hq] at h1
  have hik : (k : Int) < t.ins.length := by omega
  have HAT := L0 (X0w (b := b) hx)
  obtain ⟨⟨lo, hi⟩, hrr⟩ : ∃ x, allR b s = x := ⟨_, rfl⟩
  obtain ⟨f, hff⟩ : ∃ x, Y6u b s = x := ⟨_, rfl⟩
  have hin := HIN.o s
  rw [hrr] at hin
  have HOK : Hid (okIn b s = (f && (decide (-1000000 <= lo) && decide (hi <= 1000000)))) := L0 (by unfold okIn; rw [hff, hrr])
  have q1 := L0 hrr
  have q2 := L0 hff
  have HBK1 := L0 (Rd.below HBK.o HBr.o)
  have HOW := L0 hown
  clear hx hrr hff hE
  by_cases hok : f = true /\ -1000000 <= lo /\ hi <= 1000000
  ·obtain ⟨rfl, h2, h3⟩ := hok
   have HF : Hid (Z5f b t = (Y4u b (t.ins.drop (k + 1))).map ((pre ++ [[(lo, hi)]]) ++ ·)) := L0 (by
    rw [HI.o, HAT.o, HOK.o, decide_eq_true h2, decide_eq_true h3, q1.out]
    simp [Option.map_map, Function.comp_def])
   have h2' : ¬ lo < -1000000 := by omega
   have h3' : ¬ 1000000 < hi := by omega
   have HUP : Hid (∀ w5, Bw wr w5 -> ∀ b, Up (fun _ => False) w5.heap.size b -> Up (fun _ => False) W.heap.size b /\ u6.ownBlock ≠ some b) := L0 (by
    rintro w5 h5 b (h | h)
    ·exact h.elim
    exact ⟨.inr (L0h HBr.o.size (L0h h5.size h)), fun e => by have := HOW.o.lt _ e; have := h5.size; omega⟩)
   have HBY : Hid ((pre.length + 1) * (rSl rRg).bytes <= 140737488355328) := L0 (by show (_ + 1) * 24 <= _; omega)
   go_wp2_with (first | (go_at_call 117; (with_reducible refine (X14 wr HBK1.o hxl HSM.o q1.out q2.out).mono ?_); rintro e w4 ⟨rfl, hb4⟩; obtain ⟨W5, e5, HB5⟩ : ∃ W5, w4.alloc (.cells #[.int .i64 lo, .int .i64 hi] 74) = W5 /\ Hid (Bw wr W5) := ⟨_, rfl, L0 (hb4.alloc hb4.size _)⟩; have j0 := ac0 e5; have j1 := ac1 e5; obtain ⟨W6, e6, HR6, HB6⟩ : ∃ W6, W5.alloc (.cells #[.int .i64 lo, .int .i64 hi] 74) = W6 /\ Hid ((rSl rRg).rel W6 (Up (fun _ => False) W5.heap.size) [.slice (some (zn W5.heap.size 0)) 1 1] [(lo, hi)]) /\ Hid (Bw wr W6) := ⟨_, rfl, L0 ((Own.fresh (R := rRg) (e := 74) (by decide) [.int .i64 lo, .int .i64 hi] ⟨rfl, hin⟩ (by decide) rfl).rel (by decide)), L0 (HB5.o.alloc HB5.o.size _)⟩; have HO6 := L0 (HOW.o.below HB6.o); have HB6w := L0 (HBr.o.trans (HB6.o.mono HBr.o.size))) | (at_builtin; refine Z0a (R := rSl rRg) (x := [(lo, hi)]) Y3j rfl (.tmp 36) (.tmp 39) rfl rfl HO6.o [.slice (some (zn W5.heap.size 0)) 1 1] rfl rfl (Up (fun _ => False) W5.heap.size) HR6.o (fun b h _ => HUP.o W5 HB5.o b h) HBY.o HB6w.o.size ?_; intro v9 w9 hown9 hb9 _ _))
   go_roundw
   exact ⟨k + 1, pre ++ [[(lo, hi)]], by omega, by go_num, hown9, by simp [hpl], HF, L0 (HB6w.o.trans hb9)⟩
   simp [intOf]; omega
  have HF : Hid (Z5f b t = none) := L0 (by
   rw [HI.o, HAT.o, HOK.o, if_neg]
   ·rfl
   simp only [L0t, decide_eq_true_iff]; exact fun h => hok ⟨h.1, h.2⟩)
  have hcs : f = false \/ (f = true /\ lo < -1000000) \/ (f = true /\ ¬ lo < -1000000 /\ 1000000 < hi) := by
   cases f
   ·exact .inl rfl
   right
   rcases Int.lt_or_le lo (-1000000) with h | h
   ·exact .inl ⟨rfl, h⟩
   refine .inr ⟨rfl, by omega, ?_⟩
   apply Classical.byContradiction
   intro h'
   exact hok ⟨rfl, h, by omega⟩
  clear hok
  rcases hcs with rfl | ⟨rfl, h2⟩ | ⟨rfl, h2, h3⟩
  all_goals
   go_wp2_with (go_at_call 117; (with_reducible refine (X14 wr HBK1.o hxl HSM.o q1.out q2.out).mono ?_); rintro e w4 ⟨rfl, hb4⟩; obtain ⟨W5, e5, HB5⟩ : ∃ W5, w4.alloc (.cells #[.int .i64 lo, .int .i64 hi] 74) = W5 /\ Hid (Bw wr W5) := ⟨_, rfl, L0 (hb4.alloc hb4.size _)⟩; have j0 := ac0 e5; have j1 := ac1 e5)
   go_ret2
   exact ⟨_, by rw [HF.o]; rfl, by rw [HF.o]; exact Own.nil _ _ _ _ _, hbw.trans (HB5.o.mono hbw.size)⟩
 have HF : Hid (Z5f b t = some pre) := L0 (by rw [HI.o, L0u (by omega)]; simp [Y4u])
 obtain ⟨A9, c9, rfl⟩ := hown.value
 clear hE
 go_wp2
 go_ret2
 exact ⟨_, by rw [HF.o]; rfl, by rw [HF.o]; exact hown.lower HB.o.size, hbw⟩
