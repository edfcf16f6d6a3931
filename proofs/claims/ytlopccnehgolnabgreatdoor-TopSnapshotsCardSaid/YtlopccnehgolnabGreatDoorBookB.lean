import Derived.Test.YtlopccnehgolnabGreatDoorGK18
import Derived.Test.YtlopccnehgolnabGreatDoorGK23
namespace Go.Proofs.YtlopccnehgolnabGreatDoor
open Go.RowKit Rb
set_option maxRecDepth 100000
set_option maxHeartbeats 800000
def okIn (b : Bk) (s : Txt) : Bool := Y49 b s && (decide (-1000000 <= (allR b s).1) && decide ((allR b s).2 <= 1000000))
def Y3g (b : Bk) : List Txt -> Option Bx
 | [] => some []
 | s :: l => if okIn b s then (Y3g b l).map ([allR b s] :: ·) else none
def Z4t (b : Bk) (t : Tb) : Option Bx := Y3g b t.ins
theorem Y83 {b : Bk} {l : List Txt} {k : Nat} {s : Txt} (h : l[k]? = some s) : Y3g b (l.drop k) = if okIn b s then (Y3g b (l.drop (k + 1))).map ([allR b s] :: ·) else none := by
 rw [Z0n h]; rfl
theorem Y37 {pol : Int} {i k : Nat} {r : Int × Int} {o : Int} (hr : (-(1000000 * (k : Int)) <= r.1 /\ r.1 <= 1000000 * (k : Int)) /\ (-(1000000 * (k : Int)) <= r.2 /\ r.2 <= 1000000 * (k : Int))) (ho : -1000000 <= o /\ o <= 1000000) :
  (-(1000000 * ((k + 1 : Nat) : Int)) <= (Z1z pol i r o).1 /\ (Z1z pol i r o).1 <= 1000000 * ((k + 1 : Nat) : Int)) /\ (-(1000000 * ((k + 1 : Nat) : Int)) <= (Z1z pol i r o).2 /\ (Z1z pol i r o).2 <= 1000000 * ((k + 1 : Nat) : Int)) := by
 unfold Z1z
 split
 ·split <;> dsimp only <;> omega
 split <;> dsimp only <;> omega
theorem Y22 (pol : Int) : ∀ (l : List Rl) (i k : Nat) (r : Int × Int), ((-(1000000 * (k : Int)) <= r.1 /\ r.1 <= 1000000 * (k : Int)) /\ (-(1000000 * (k : Int)) <= r.2 /\ r.2 <= 1000000 * (k : Int))) -> (∀ x ∈ l, -1000000 <= x.out /\ x.out <= 1000000) ->
  (-(1000000 * ((k + l.length : Nat) : Int)) <= (Z3p pol i l r).1 /\ (Z3p pol i l r).1 <= 1000000 * ((k + l.length : Nat) : Int)) /\ (-(1000000 * ((k + l.length : Nat) : Int)) <= (Z3p pol i l r).2 /\ (Z3p pol i l r).2 <= 1000000 * ((k + l.length : Nat) : Int))
 | [], _, _, _, hr, _ => hr
 | x :: l, i, k, r, hr, h => by
  have := Y22 pol l (i + 1) (k + 1) (Z1z pol i r x.out) (Y37 hr (h x (by simp))) fun y hy => h y (by simp [hy])
  rw [show k + (x :: l).length = k + 1 + l.length by simp; omega]
  exact this
theorem Y97 {t : Tb} (h : SmallT t) : InI (Z4w t).1 /\ InI (Z4w t).2 := by
 have h6 := h.1
 unfold Z4w InI
 split
 ·dsimp only; omega
 have := Y22 t.pol t.rules 0 0 (0, 0) (by simp) h.2
 omega
theorem X1c {w : World} {S : Nat -> Prop} {cs : List Value} {b : Bk} (h : rBk.rel w S cs b) (hb : SmallB b) (s : Txt) : InI (allR b s).1 /\ InI (allR b s).2 := by
 unfold allR
 cases hf : Z2k b.doms s with
 | none => exact Y97 (hb.found s)
 | some d =>
  obtain ⟨v, u, rfl, hd, _⟩ := h
  obtain ⟨A, c, rfl, _, _, _, hE⟩ := rSl.elems hd
  obtain ⟨i, hi, rfl⟩ := L1z (L2d hf)
  obtain ⟨_, _, x, _, _, hx, hr, _⟩ := hE.dm hi
  rw [L0g hi] at hx
  obtain rfl := L0r hx
  exact hr.2
theorem X0c {S : Nat -> Prop} {cs : List Value} {b : Bk} {s : Txt} {lo hi : Int} {f : Bool} (w : World) (hl : rBk.rel w S cs b) (hs : s.length <= 140737488355328) (hb : SmallB b) (hr : allR b s = (lo, hi)) (hf : Y49 b s = f) :
  Calls Tryz.prog 128 #[.agg cs.toArray, .string ⟨s.toArray⟩] w fun e w' => e = .returned (.tuple #[.agg #[.int .i64 lo, .int .i64 hi], .bool f]) /\ Below w.heap.size w w' := by
 have := X0q s w hl hs hb
 rwa [hr, hf] at this
theorem Y58 {S T : Nat -> Prop} {bs cs : List Value} {b : Bk} {t : Tb} (w : World) (hb : rBk.rel w S bs b) (ht : rTb.rel w T cs t) (hsm : SmallB b) (h3 : t.ins.length <= 3) :
  Calls Tryz.prog 70 #[.agg bs.toArray, .agg cs.toArray] w fun e w' => ∃ z, e = .returned (.tuple #[z, .bool (Z1d (Z4t b t))]) /\ Own (rSl rRg) 95 w' w.heap.size (fun _ => False) z (Z2v (Z4t b t)) /\ Below w.heap.size w w' := by
 have hb' := hb
 have HIN := L0 fun s => X1c hb hsm s
 have HSM := L0 hsm
 obtain ⟨v0, u0, rfl, hd, htb⟩ := hb
 obtain ⟨A, c, rfl, _⟩ := rSl.elems hd
 obtain ⟨B, d, rfl, _⟩ := rSl.elems htb
 obtain ⟨vi, vr, rfl, _, _, hi, hr⟩ := ht
 obtain ⟨I, ic, rfl, _, _, hib, hE⟩ := rSl.elems hi
 obtain ⟨R, rc, rfl, _⟩ := rSl.elems hr
 obtain ⟨W, eW, HB, k0, k1, k3, hs0, hs1, HBK⟩ : ∃ W, (w.alloc (.cells #[.slice A b.doms.length c, .slice B b.tabs.length d] 33)).alloc (.cells #[.string ⟨t.name.toArray⟩, .int .i64 t.pol, .bool t.comp, .slice I t.ins.length ic, .slice R t.rules.length rc] 42) = W /\ Hid (Below w.heap.size w W) /\
   W.cell? ⟨w.heap.size, 0, none⟩ = some (.slice A b.doms.length c) /\ W.cell? ⟨w.heap.size, 1, none⟩ = some (.slice B b.tabs.length d) /\ W.cell? ⟨w.heap.size + 1, 3, none⟩ = some (.slice I t.ins.length ic) /\ w.heap.size < W.heap.size /\ w.heap.size + 1 < W.heap.size /\ Hid (rBk.rel W S [.slice A b.doms.length c, .slice B b.tabs.length d] b) := by
  have s1 : (w.alloc (.cells #[.slice A b.doms.length c, .slice B b.tabs.length d] 33)).heap.size = w.heap.size + 1 := by simp
  refine ⟨_, rfl, L0 (bA.alloc (by simp) _), (L0j _ _ _ (by simp)).trans (L0b _ _ _ _), (L0j _ _ _ (by simp)).trans (L0b _ _ _ _), ?_, by simp; omega, by simp, L0 (Rd.alloc (Rd.alloc hb' _) _)⟩
  rw [<- s1]; exact L0b _ _ _ _
 clear hb' hd htb hi hr hib hsm
 go_enter Tryz.func70, Tryz.ntmps70
 go_wp2
 clear eW
 go_loopw [6, 14] (fun o i wr => ∃ (k : Nat) (pre : Bx), k <= t.ins.length /\ i = .int .i64 k /\ Own (rSl rRg) 95 wr W.heap.size (fun _ => False) o pre /\ pre.length = k /\ Hid (Z4t b t = (Y3g b (t.ins.drop k)).map (pre ++ ·)) /\ Hid (Below W.heap.size W wr)) (fun _ i _ => t.ins.length - (intOf i).toNat)
 exact ⟨0, [], L0o _, rfl, Own.nil _ _ _ _ _, rfl, L0 (by simp [Z4t]), L0 (L0m _ _)⟩
 obtain ⟨k, pre, hk, rfl, hown, hpl, HI, HBr⟩ := hrel
 have g0 := (HBr.o.ce 0 hs0).trans k0
 have g1 := (HBr.o.ce 1 hs0).trans k1
 have hbw := HB.o.trans (HBr.o.mono HB.o.size)
 by_cases hlt : k < t.ins.length
 ·obtain ⟨q, off, s, rfl, _, hq, hx, hxl, h1⟩ := hE.str hlt
  rw [<- hbw.ce _ hq] at h1
  have hik : (k : Int) < (t.ins.length : Int) := by omega
  have HAT := L0 (Y83 (b := b) hx)
  obtain ⟨⟨lo, hi⟩, hrr⟩ : ∃ x, allR b s = x := ⟨_, rfl⟩
  obtain ⟨f, hff⟩ : ∃ x, Y49 b s = x := ⟨_, rfl⟩
  have hin := HIN.o s
  rw [hrr] at hin
  have HOK : Hid (okIn b s = (f && (decide (-1000000 <= lo) && decide (hi <= 1000000)))) := L0 (by unfold okIn; rw [hff, hrr])
  have q1 := L0 hrr
  have q2 := L0 hff
  have HBK1 := L0 (Rd.below HBK.o HBr.o)
  have HOW := L0 hown
  clear hx hrr hff hE
  by_cases hok : f = true /\ -1000000 <= lo /\ hi <= 1000000
  ·obtain ⟨rfl, h2, h3⟩ := hok
   have HF : Hid (Z4t b t = (Y3g b (t.ins.drop (k + 1))).map ((pre ++ [[(lo, hi)]]) ++ ·)) := L0 (by
    rw [HI.o, HAT.o, HOK.o, decide_eq_true h2, decide_eq_true h3, q1.out]
    simp [Option.map_map, Function.comp_def])
   have h2' : ¬ lo < -1000000 := by omega
   have h3' : ¬ 1000000 < hi := by omega
   have HUP : Hid (∀ w5, Below wr.heap.size wr w5 -> ∀ b, Up (fun _ => False) w5.heap.size b -> Up (fun _ => False) W.heap.size b /\ u6.ownBlock ≠ some b) := L0 (by
    rintro w5 h5 b (h | h)
    ·exact h.elim
    exact ⟨.inr (L0h HBr.o.size (L0h h5.size h)), fun e => by have := HOW.o.lt _ e; have := h5.size; omega⟩)
   have HBY : Hid ((pre.length + 1) * (rSl rRg).bytes <= 140737488355328) := L0 (by show (_ + 1) * 24 <= _; omega)
   go_wp2_with (first | (go_at_call 128; (with_reducible refine (X0c wr HBK1.o hxl HSM.o q1.out q2.out).mono ?_); rintro e w4 ⟨rfl, hb4⟩; obtain ⟨W5, e5, HB5⟩ : ∃ W5, w4.alloc (.cells #[.int .i64 lo, .int .i64 hi] 123) = W5 /\ Hid (Below wr.heap.size wr W5) := ⟨_, rfl, L0 (hb4.alloc hb4.size _)⟩; have j0 := ac0 e5; have j1 := ac1 e5; obtain ⟨W6, e6, HR6, HB6⟩ : ∃ W6, W5.alloc (.cells #[.int .i64 lo, .int .i64 hi] 123) = W6 /\ Hid ((rSl rRg).rel W6 (Up (fun _ => False) W5.heap.size) [.slice (some ⟨W5.heap.size, 0, none⟩) 1 1] [(lo, hi)]) /\ Hid (Below wr.heap.size wr W6) := ⟨_, rfl, L0 ((Own.fresh (R := rRg) (e := 123) (by decide) [.int .i64 lo, .int .i64 hi] ⟨rfl, hin⟩ (by decide) rfl).rel (by decide)), L0 (HB5.o.alloc HB5.o.size _)⟩; have HO6 := L0 (HOW.o.below HB6.o); have HB6w := L0 (HBr.o.trans (HB6.o.mono HBr.o.size))) | (at_builtin; refine Z0a (R := rSl rRg) (x := [(lo, hi)]) Y2e rfl (.tmp 36) (.tmp 39) rfl rfl HO6.o [.slice (some ⟨W5.heap.size, 0, none⟩) 1 1] rfl rfl (Up (fun _ => False) W5.heap.size) HR6.o (fun b h _ => HUP.o W5 HB5.o b h) HBY.o HB6w.o.size ?_; intro v9 w9 hown9 hb9 _ _))
   go_roundw
   exact ⟨k + 1, pre ++ [[(lo, hi)]], by omega, by go_num, hown9, by simp [hpl], HF, L0 (HB6w.o.trans hb9)⟩
   simp [intOf]; omega
  have HF : Hid (Z4t b t = none) := L0 (by
   rw [HI.o, HAT.o, HOK.o, if_neg]
   ·rfl
   simp only [L0y, decide_eq_true_iff]; exact fun h => hok ⟨h.1, h.2⟩)
  have hcs : f = false \/ (f = true /\ lo < -1000000) \/ (f = true /\ ¬ lo < -1000000 /\ 1000000 < hi) := by
   cases f
   ·exact .inl rfl
   right
   rcases Int.lt_or_le lo (-1000000) with h | h
   ·exact .inl ⟨rfl, h⟩
   refine .inr ⟨rfl, by omega, ?_⟩
   apply Classical.byContradiction
   intro h'
   exact hok ⟨rfl, h, by omega⟩
  clear hok
  rcases hcs with rfl | ⟨rfl, h2⟩ | ⟨rfl, h2, h3⟩
  all_goals
   go_wp2_with (go_at_call 128; (with_reducible refine (X0c wr HBK1.o hxl HSM.o q1.out q2.out).mono ?_); rintro e w4 ⟨rfl, hb4⟩; obtain ⟨W5, e5, HB5⟩ : ∃ W5, w4.alloc (.cells #[.int .i64 lo, .int .i64 hi] 123) = W5 /\ Hid (Below wr.heap.size wr W5) := ⟨_, rfl, L0 (hb4.alloc hb4.size _)⟩; have j0 := ac0 e5; have j1 := ac1 e5)
   go_ret2
   exact ⟨_, by rw [HF.o]; rfl, by rw [HF.o]; exact Own.nil _ _ _ _ _, hbw.trans (HB5.o.mono hbw.size)⟩
 have HF : Hid (Z4t b t = some pre) := L0 (by rw [HI.o, L0t (by omega)]; simp [Y3g])
 obtain ⟨A9, c9, rfl⟩ := hown.value
 clear hE
 go_wp2
 go_ret2
 exact ⟨_, by rw [HF.o]; rfl, by rw [HF.o]; exact hown.lower HB.o.size, hbw⟩
