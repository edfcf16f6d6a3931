/- Contracts of boxes (does box answer at all), count. -/
import Derived.Test.YtlopccnehgolnaaBoxL
import Derived.Deep.RegionHeld3
namespace Go.Proofs.Ytlopccnehgolnaa
open Go.RowKit Rb

def exA : Bx := [[(1, 9)], [(1, 9)]]
def exB : Bx := [[(5, 6)], [(1, 9)]]
theorem ex_less : lessB exA exB = [[[(1, 4), (7, 9)], [(1, 9)]]] := by decide
theorem ex_good : goodBx exA 2 = true := by decide
theorem ex_size : sizeBx exA = 81 := by
  unfold sizeBx
  rw [if_pos (by decide)]
  decide
theorem ex_point : pointBx [[(1, 4), (7, 9)], [(1, 9)]] = [1, 1] := by decide
theorem ex_has : inBx [[(1, 4), (7, 9)], [(1, 9)]] [1, 1] = true := by decide

theorem lit_box (w : World) (x y : Int) (hx : InI x) (hy : InI y) : rBx.rel ((((w.alloc (.cells #[.int .i64 x, .int .i64 y] 72)).alloc (.cells #[.int .i64 1, .int .i64 9] 72))).alloc (.cells #[.slice (some ⟨w.heap.size, 0, none⟩) 1 1, .slice (some ⟨w.heap.size + 1, 0, none⟩) 1 1] 37)) (fun _ => True)
    [.slice (some ⟨w.heap.size + 1 + 1, 0, none⟩) 2 2] [[(x, y)], [(1, 9)]] := by
  have h1 := Rd.lit1 (R := rRg) (w := w) (S := fun _ => True) (x := (x, y)) (cells := [.int .i64 x, .int .i64 y]) 72 rfl (by decide) (by decide) ⟨rfl, hx, hy⟩
  have h2 := Rd.lit1 (R := rRg) (w := w.alloc (.cells #[.int .i64 x, .int .i64 y] 72)) (S := fun _ => True) (x := (1, 9)) (cells := [.int .i64 1, .int .i64 9]) (n := w.heap.size + 1) 72 (by simp) (by decide) (by decide) ⟨rfl, by unfold InI; omega, by unfold InI; omega⟩
  exact Rd.lit2 (R := rSl rRg) (S := fun _ => True) (x := [(x, y)]) (y := [(1, 9)]) (c1 := [.slice (some ⟨w.heap.size, 0, none⟩) 1 1]) (c2 := [.slice (some ⟨w.heap.size + 1, 0, none⟩) 1 1]) (n := w.heap.size + 1 + 1) 37 (by simp) (by decide) (by decide) (Rd.alloc h1 _) h2

set_option maxRecDepth 100000 in
set_option maxHeartbeats 800000 in
theorem boxesKeep_any (w : World) : Calls Try.prog 45 #[] w fun e w' => e = .returned (.bool true) ∧ Below w.heap.size w w' := by
  have hin : InI 1 ∧ InI 9 ∧ InI 5 ∧ InI 6 := by unfold InI; omega
  obtain ⟨W1, e1, hb1, hA1, hs1⟩ : ∃ W1, (((w.alloc (.cells #[.int .i64 1, .int .i64 9] 72)).alloc (.cells #[.int .i64 1, .int .i64 9] 72))).alloc (.cells #[.slice (some ⟨w.heap.size, 0, none⟩) 1 1, .slice (some ⟨w.heap.size + 1, 0, none⟩) 1 1] 37) = W1 ∧ Below w.heap.size w W1 ∧ rBx.rel W1 (fun _ => True) [.slice (some ⟨w.heap.size + 1 + 1, 0, none⟩) 2 2] exA ∧ W1.heap.size = w.heap.size + 1 + 1 + 1 :=
    ⟨_, rfl, (((Below.refl _ _).alloc (Nat.le_refl _) _).alloc (by simp) _).alloc (by simp; omega) _, lit_box w 1 9 hin.1 hin.2.1, by simp⟩
  obtain ⟨W2, e2, hb2, hA2, hB2⟩ : ∃ W2, (((W1.alloc (.cells #[.int .i64 5, .int .i64 6] 72)).alloc (.cells #[.int .i64 1, .int .i64 9] 72))).alloc (.cells #[.slice (some ⟨W1.heap.size, 0, none⟩) 1 1, .slice (some ⟨W1.heap.size + 1, 0, none⟩) 1 1] 37) = W2 ∧ Below w.heap.size w W2 ∧ rBx.rel W2 (fun _ => True) [.slice (some ⟨w.heap.size + 1 + 1, 0, none⟩) 2 2] exA ∧ rBx.rel W2 (fun _ => True) [.slice (some ⟨W1.heap.size + 1 + 1, 0, none⟩) 2 2] exB :=
    ⟨_, rfl, ((hb1.alloc hb1.size _).alloc (Nat.le_trans hb1.size (by simp)) _).alloc (Nat.le_trans hb1.size (by simp; omega)) _, Rd.alloc (Rd.alloc (Rd.alloc hA1 _) _) _, lit_box W1 5 6 hin.2.2.1 hin.2.2.2⟩
  have HCL := Lib.hid (by have := BLess_any W2 hA2 hB2; rw [ex_less] at this; exact this)
  have HA2 := Lib.hid hA2
  rw [hs1] at e2 HCL
  clear hA1 hA2 hB2
  go_enter Try.func45, Try.ntmps45
  go_wp2_with (first | (go_at_call 46; ((with_reducible refine HCL.out.mono ?_); rintro e w3 ⟨zl, rfl, hol, hb3⟩)))
  obtain ⟨Al, cl, rfl⟩ := hol.value
  obtain ⟨_, hE3⟩ := hol.elems (by decide) rfl
  obtain ⟨gl, ol, vx, x, rfl, _, hgl, hx, hrx, hc0⟩ := hE3.sl (i := 0) (by simp)
  obtain rfl : [[(1, 4), (7, 9)], [(1, 9)]] = x := by simpa using hx
  rw [Nat.add_zero] at hc0
  have HB3 := Lib.hid (hb2.trans (hb3.mono hb2.size))
  have hA3 := Rd.below HA2.out hb3
  obtain ⟨Ax, cx, rfl, _⟩ := rSl.elems hrx
  have hc0' : w3.cell? ⟨gl, ol, none⟩ = some (.slice Ax 2 cx) := hc0
  have hrx' : rBx.rel w3 (Up (fun _ => True) W2.heap.size) [.slice Ax 2 cx] [[(1, 4), (7, 9)], [(1, 9)]] := hrx
  have HG : Hid (∀ W, Below w3.heap.size w3 W → Calls Try.prog 38 #[.slice (some ⟨w.heap.size + 1 + 1, 0, none⟩) 2 2, .int .i64 2] W fun e w' => e = .returned (.bool true) ∧ Below W.heap.size W w') := Lib.hid fun W hb => by have := BGood_any 2 W (Rd.below hA3 hb); rw [ex_good] at this; exact this
  have HZ : Hid (∀ W, Below w3.heap.size w3 W → Calls Try.prog 42 #[.slice (some ⟨w.heap.size + 1 + 1, 0, none⟩) 2 2] W fun e w' => e = .returned (.int .i64 81) ∧ Below W.heap.size W w') := Lib.hid fun W hb => by have := BSize_any W (Rd.below hA3 hb); rw [ex_size] at this; exact this
  have HP : Hid (∀ W, Below w3.heap.size w3 W → Calls Try.prog 49 #[.slice Ax 2 cx] W fun e w' => ∃ z, e = .returned z ∧ Own rInt 3 w' W.heap.size (fun _ => False) z [1, 1] ∧ Below W.heap.size W w') := Lib.hid fun W hb => by have := Point_any W (Rd.below hrx' hb); rw [ex_point] at this; exact this
  have HH : Hid (∀ W T z, Below w3.heap.size w3 W → (rSl rInt).rel W T [z] [1, 1] → Calls Try.prog 40 #[.slice Ax 2 cx, z] W fun e w' => e = .returned (.bool true) ∧ Below W.heap.size W w') := Lib.hid fun W T z hb hz => by have := BHas_any W (Rd.below hrx' hb) hz; rw [ex_has] at this; exact this
  have hbW : Below w3.heap.size w3 w3.drew := drewN_below (Below.refl _ _) 1
  clear hol hE3 hx hrx hc0 hA3 hrx'
  go_region_held3 (fun w' => w'.cell? ⟨gl, ol, none⟩ = some (.slice Ax 2 cx)) (go_keep) (first | (go_at_call 38; ((with_reducible refine (HG.out _ hbW).mono ?_); rintro e w4 ⟨rfl, hb4⟩; have hbG := hbW.trans (hb4.mono hbW.size); have hcG := (hbG.cell (p := ⟨gl, ol, none⟩) hgl).trans hc0')) | (go_at_call 42; ((with_reducible refine (HZ.out _ hbG).mono ?_); rintro e w5 ⟨rfl, hb5⟩; have hbZ := hbG.trans (hb5.mono hbG.size); have hcZ := (hbZ.cell (p := ⟨gl, ol, none⟩) hgl).trans hc0')) | (go_at_call 49; ((with_reducible refine (HP.out _ hbZ).mono ?_); rintro e w6 ⟨zp, rfl, hop, hb6⟩; obtain ⟨Ap, cp, rfl⟩ := hop.value; have hbP := hbZ.trans (hb6.mono hbZ.size); have hcP := (hbP.cell (p := ⟨gl, ol, none⟩) hgl).trans hc0'; have HR := Lib.hid (show (rSl rInt).rel _ _ [.slice Ap 2 cp] _ from hop.rel (by decide)))) | (go_at_call 40; ((with_reducible refine (HH.out _ _ _ hbP HR.out).mono ?_); rintro e w7 ⟨rfl, hb7⟩; have hbH := hbP.trans (hb7.mono hbP.size); have hcH := (hbH.cell (p := ⟨gl, ol, none⟩) hgl).trans hc0')))
  go_wp2
  go_ret
  exact ⟨rfl, HB3.out.trans (hbH.mono HB3.out.size)⟩
set_option maxRecDepth 100000 in
set_option maxHeartbeats 800000 in
theorem boxesLaw_any (w : World) : Calls Try.prog 44 #[] w fun e w' => e = .returned (.bool true) ∧ Below w.heap.size w w' := by
  have hin : InI 1 ∧ InI 9 ∧ InI 5 ∧ InI 6 := by unfold InI; omega
  obtain ⟨W1, e1, hb1, hA1, hs1⟩ : ∃ W1, (((w.alloc (.cells #[.int .i64 1, .int .i64 9] 72)).alloc (.cells #[.int .i64 1, .int .i64 9] 72))).alloc (.cells #[.slice (some ⟨w.heap.size, 0, none⟩) 1 1, .slice (some ⟨w.heap.size + 1, 0, none⟩) 1 1] 37) = W1 ∧ Below w.heap.size w W1 ∧ rBx.rel W1 (fun _ => True) [.slice (some ⟨w.heap.size + 1 + 1, 0, none⟩) 2 2] exA ∧ W1.heap.size = w.heap.size + 1 + 1 + 1 :=
    ⟨_, rfl, (((Below.refl _ _).alloc (Nat.le_refl _) _).alloc (by simp) _).alloc (by simp; omega) _, lit_box w 1 9 hin.1 hin.2.1, by simp⟩
  obtain ⟨W2, e2, hb2, hA2, hB2⟩ : ∃ W2, (((W1.alloc (.cells #[.int .i64 5, .int .i64 6] 72)).alloc (.cells #[.int .i64 1, .int .i64 9] 72))).alloc (.cells #[.slice (some ⟨W1.heap.size, 0, none⟩) 1 1, .slice (some ⟨W1.heap.size + 1, 0, none⟩) 1 1] 37) = W2 ∧ Below w.heap.size w W2 ∧ rBx.rel W2 (fun _ => True) [.slice (some ⟨w.heap.size + 1 + 1, 0, none⟩) 2 2] exA ∧ rBx.rel W2 (fun _ => True) [.slice (some ⟨W1.heap.size + 1 + 1, 0, none⟩) 2 2] exB :=
    ⟨_, rfl, ((hb1.alloc hb1.size _).alloc (Nat.le_trans hb1.size (by simp)) _).alloc (Nat.le_trans hb1.size (by simp; omega)) _, Rd.alloc (Rd.alloc (Rd.alloc hA1 _) _) _, lit_box W1 5 6 hin.2.2.1 hin.2.2.2⟩
  have HCL := Lib.hid (by have := BLess_any W2 hA2 hB2; rw [ex_less] at this; exact this)
  have HA2 := Lib.hid hA2
  rw [hs1] at e2 HCL
  clear hA1 hA2 hB2
  go_enter Try.func44, Try.ntmps44
  go_wp2_with (first | (go_at_call 46; ((with_reducible refine HCL.out.mono ?_); rintro e w3 ⟨zl, rfl, hol, hb3⟩)))
  obtain ⟨Al, cl, rfl⟩ := hol.value
  obtain ⟨_, hE3⟩ := hol.elems (by decide) rfl
  obtain ⟨gl, ol, vx, x, rfl, _, hgl, hx, hrx, hc0⟩ := hE3.sl (i := 0) (by simp)
  obtain rfl : [[(1, 4), (7, 9)], [(1, 9)]] = x := by simpa using hx
  rw [Nat.add_zero] at hc0
  have HB3 := Lib.hid (hb2.trans (hb3.mono hb2.size))
  have hA3 := Rd.below HA2.out hb3
  obtain ⟨Ax, cx, rfl, _⟩ := rSl.elems hrx
  have hc0' : w3.cell? ⟨gl, ol, none⟩ = some (.slice Ax 2 cx) := hc0
  have hrx' : rBx.rel w3 (Up (fun _ => True) W2.heap.size) [.slice Ax 2 cx] [[(1, 4), (7, 9)], [(1, 9)]] := hrx
  have HG : Hid (∀ W, Below w3.heap.size w3 W → Calls Try.prog 38 #[.slice (some ⟨w.heap.size + 1 + 1, 0, none⟩) 2 2, .int .i64 2] W fun e w' => e = .returned (.bool true) ∧ Below W.heap.size W w') := Lib.hid fun W hb => by have := BGood_any 2 W (Rd.below hA3 hb); rw [ex_good] at this; exact this
  have HZ : Hid (∀ W, Below w3.heap.size w3 W → Calls Try.prog 42 #[.slice (some ⟨w.heap.size + 1 + 1, 0, none⟩) 2 2] W fun e w' => e = .returned (.int .i64 81) ∧ Below W.heap.size W w') := Lib.hid fun W hb => by have := BSize_any W (Rd.below hA3 hb); rw [ex_size] at this; exact this
  have HP : Hid (∀ W, Below w3.heap.size w3 W → Calls Try.prog 49 #[.slice Ax 2 cx] W fun e w' => ∃ z, e = .returned z ∧ Own rInt 3 w' W.heap.size (fun _ => False) z [1, 1] ∧ Below W.heap.size W w') := Lib.hid fun W hb => by have := Point_any W (Rd.below hrx' hb); rw [ex_point] at this; exact this
  have HH : Hid (∀ W T z, Below w3.heap.size w3 W → (rSl rInt).rel W T [z] [1, 1] → Calls Try.prog 40 #[.slice Ax 2 cx, z] W fun e w' => e = .returned (.bool true) ∧ Below W.heap.size W w') := Lib.hid fun W T z hb hz => by have := BHas_any W (Rd.below hrx' hb) hz; rw [ex_has] at this; exact this
  have hbW : Below w3.heap.size w3 w3.drew := drewN_below (Below.refl _ _) 1
  clear hol hE3 hx hrx hc0 hA3 hrx'
  go_region_held3 (fun w' => w'.cell? ⟨gl, ol, none⟩ = some (.slice Ax 2 cx)) (go_keep) (first | (go_at_call 38; ((with_reducible refine (HG.out _ hbW).mono ?_); rintro e w4 ⟨rfl, hb4⟩; have hbG := hbW.trans (hb4.mono hbW.size); have hcG := (hbG.cell (p := ⟨gl, ol, none⟩) hgl).trans hc0')) | (go_at_call 42; ((with_reducible refine (HZ.out _ hbG).mono ?_); rintro e w5 ⟨rfl, hb5⟩; have hbZ := hbG.trans (hb5.mono hbG.size); have hcZ := (hbZ.cell (p := ⟨gl, ol, none⟩) hgl).trans hc0')) | (go_at_call 49; ((with_reducible refine (HP.out _ hbZ).mono ?_); rintro e w6 ⟨zp, rfl, hop, hb6⟩; obtain ⟨Ap, cp, rfl⟩ := hop.value; have hbP := hbZ.trans (hb6.mono hbZ.size); have hcP := (hbP.cell (p := ⟨gl, ol, none⟩) hgl).trans hc0'; have HR := Lib.hid (show (rSl rInt).rel _ _ [.slice Ap 2 cp] _ from hop.rel (by decide)))) | (go_at_call 40; ((with_reducible refine (HH.out _ _ _ hbP HR.out).mono ?_); rintro e w7 ⟨rfl, hb7⟩; have hbH := hbP.trans (hb7.mono hbP.size); have hcH := (hbH.cell (p := ⟨gl, ol, none⟩) hgl).trans hc0')))
  go_wp2
  go_ret
  exact ⟨rfl, HB3.out.trans (hbH.mono HB3.out.size)⟩

end Go.Proofs.Ytlopccnehgolnaa
