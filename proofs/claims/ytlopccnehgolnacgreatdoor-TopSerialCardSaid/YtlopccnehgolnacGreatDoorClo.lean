import Derived.Test.YtlopccnehgolnacGreatDoorGK11
import Derived.Test.YtlopccnehgolnacGreatDoorRowSet
import Derived.BigRegion
import Derived.Lib.SliceRun
import Derived.Deep.RegionWith
import Derived.Deep.DrawnRows
import Derived.Deep.DeepMust
namespace Go.Proofs.YtlopccnehgolnacGreatDoor
open Go.RowKit Rb
open Go.Lib renaming run_eql_slice_nil -> jA
set_option maxRecDepth 100000
theorem Y8u : ElemOf Tryz.prog rDm 35 63 := .mk' Tryz.underlying35 (z := .agg #[.string ⟨#[]⟩, .int .i64 0, .int .i64 0]) (k := 3) (b := 32) (by kernel_rfl) rfl rfl rfl (by decide) (by decide)
theorem Y70 {S : Nat -> Prop} {A : Option Addr} {c : Nat} {l : List _} (w : World) (hE : Elems rDm w S A l) (hb : l.length * 32 <= 140737488355328) :
  Calls Tryz.prog 55 #[.slice A l.length c] w fun e w' => ∃ z, e = .returned z /\ OwnS rDm 63 w' w.heap.size (fun b => S b /\ b < w.heap.size) z l /\ Bw w w' := by
 have hq := fun (w : World) (a : Option Addr) (n c : Nat) => jA (P := Tryz.prog) w 35 63 a n c 0 0 Tryz.underlying35
 rcases A with _ | a
 ·have hb0 : l = [] := by
   cases l with
   | nil => rfl
   | cons x t =>
    obtain ⟨_, _, _, h, _⟩ := hE 0 x rfl
    cases h
  subst hb0
  go_enter Tryz.func55, Tryz.ntmps55
  go_wp2
  go_ret
  exact ⟨_, rfl, OwnS.nil _ _ _ _ _, L0m _ _⟩
 have hE3 : Hid (Elems rDm (w.alloc (.cells #[] 63)) (fun b => S b /\ b < w.heap.size) (some a) l) := L0 ((hE.mono fun b h1 h2 => ⟨h1, h2⟩).keep (Keeps.alloc _))
 have HB := L0 hb
 clear hE hb
 go_enter Tryz.func55, Tryz.ntmps55
 go_wp2_with (at_builtin; refine Z08 (R := rDm) (v := .slice (some (zn w.heap.size 0)) 0 0) (S := fun b => S b /\ b < w.heap.size) Y8u rfl (.tmp 5) (.tmp 6) rfl rfl (OwnS.empty rDm 63 w _ rfl fun b h => h.2) rfl rfl hE3.out (fun b h => by simp; have := h.2; omega) ?_ (by simp) ?_; (have := HB.o; simp only [rDm, L0v]; omega); intro v1 w1 hown1 hb1 _ _; obtain ⟨A3, c3, rfl⟩ := hown1.self.value; simp only [L1o] at hown1)
 go_ret
 exact ⟨_, rfl, hown1, bA.trans hb1⟩
theorem Y55 : ElemOf Tryz.prog rTb 36 66 := .mk' Tryz.underlying36 (z := .agg #[.string ⟨#[]⟩, .int .i64 0, .bool false, nl, nl]) (k := 5) (b := 80) (by kernel_rfl) rfl rfl rfl (by decide) (by decide)
theorem X2n {S : Nat -> Prop} {A : Option Addr} {c : Nat} {l : List _} (w : World) (hE : Elems rTb w S A l) (hb : l.length * 80 <= 140737488355328) :
  Calls Tryz.prog 58 #[.slice A l.length c] w fun e w' => ∃ z, e = .returned z /\ OwnS rTb 66 w' w.heap.size (fun b => S b /\ b < w.heap.size) z l /\ Bw w w' := by
 have hq := fun (w : World) (a : Option Addr) (n c : Nat) => jA (P := Tryz.prog) w 36 66 a n c 0 0 Tryz.underlying36
 rcases A with _ | a
 ·have hb0 : l = [] := by
   cases l with
   | nil => rfl
   | cons x t =>
    obtain ⟨_, _, _, h, _⟩ := hE 0 x rfl
    cases h
  subst hb0
  go_enter Tryz.func58, Tryz.ntmps58
  go_wp2
  go_ret
  exact ⟨_, rfl, OwnS.nil _ _ _ _ _, L0m _ _⟩
 have hE3 : Hid (Elems rTb (w.alloc (.cells #[] 66)) (fun b => S b /\ b < w.heap.size) (some a) l) := L0 ((hE.mono fun b h1 h2 => ⟨h1, h2⟩).keep (Keeps.alloc _))
 have HB := L0 hb
 clear hE hb
 go_enter Tryz.func58, Tryz.ntmps58
 go_wp2_with (at_builtin; refine Z08 (R := rTb) (v := .slice (some (zn w.heap.size 0)) 0 0) (S := fun b => S b /\ b < w.heap.size) Y55 rfl (.tmp 5) (.tmp 6) rfl rfl (OwnS.empty rTb 66 w _ rfl fun b h => h.2) rfl rfl hE3.out (fun b h => by simp; have := h.2; omega) ?_ (by simp) ?_; (have := HB.o; simp only [rTb, L0v]; omega); intro v1 w1 hown1 hb1 _ _; obtain ⟨A3, c3, rfl⟩ := hown1.self.value; simp only [L1o] at hown1)
 go_ret
 exact ⟨_, rfl, hown1, bA.trans hb1⟩
theorem X4g : ElemOf Tryz.prog rCl 67 72 := .mk' Tryz.underlying67 (z := .agg #[.bool false, nl]) (k := 2) (b := 32) (by kernel_rfl) rfl rfl rfl (by decide) (by decide)
theorem X2l {S : Nat -> Prop} {A : Option Addr} {c : Nat} {l : List _} (w : World) (hE : Elems rCl w S A l) (hb : l.length * 32 <= 140737488355328) :
  Calls Tryz.prog 65 #[.slice A l.length c] w fun e w' => ∃ z, e = .returned z /\ OwnS rCl 72 w' w.heap.size (fun b => S b /\ b < w.heap.size) z l /\ Bw w w' := by
 have hq := fun (w : World) (a : Option Addr) (n c : Nat) => jA (P := Tryz.prog) w 67 72 a n c 0 0 Tryz.underlying67
 rcases A with _ | a
 ·have hb0 : l = [] := by
   cases l with
   | nil => rfl
   | cons x t =>
    obtain ⟨_, _, _, h, _⟩ := hE 0 x rfl
    cases h
  subst hb0
  go_enter Tryz.func65, Tryz.ntmps65
  go_wp2
  go_ret
  exact ⟨_, rfl, OwnS.nil _ _ _ _ _, L0m _ _⟩
 have hE3 : Hid (Elems rCl (w.alloc (.cells #[] 72)) (fun b => S b /\ b < w.heap.size) (some a) l) := L0 ((hE.mono fun b h1 h2 => ⟨h1, h2⟩).keep (Keeps.alloc _))
 have HB := L0 hb
 clear hE hb
 go_enter Tryz.func65, Tryz.ntmps65
 go_wp2_with (at_builtin; refine Z08 (R := rCl) (v := .slice (some (zn w.heap.size 0)) 0 0) (S := fun b => S b /\ b < w.heap.size) X4g rfl (.tmp 5) (.tmp 6) rfl rfl (OwnS.empty rCl 72 w _ rfl fun b h => h.2) rfl rfl hE3.out (fun b h => by simp; have := h.2; omega) ?_ (by simp) ?_; (have := HB.o; simp only [rCl, L0v]; omega); intro v1 w1 hown1 hb1 _ _; obtain ⟨A3, c3, rfl⟩ := hown1.self.value; simp only [L1o] at hown1)
 go_ret
 exact ⟨_, rfl, hown1, bA.trans hb1⟩
theorem X4h : ElemOf Tryz.prog rRg 70 74 := .mk' Tryz.underlying70 (z := .agg #[.int .i64 0, .int .i64 0]) (k := 2) (b := 16) (by kernel_rfl) rfl rfl rfl (by decide) (by decide)
theorem X2m {S : Nat -> Prop} {A : Option Addr} {c : Nat} {l : List _} (w : World) (hE : Elems rRg w S A l) (hb : l.length * 16 <= 140737488355328) :
  Calls Tryz.prog 66 #[.slice A l.length c] w fun e w' => ∃ z, e = .returned z /\ OwnS rRg 74 w' w.heap.size (fun b => S b /\ b < w.heap.size) z l /\ Bw w w' := by
 have hq := fun (w : World) (a : Option Addr) (n c : Nat) => jA (P := Tryz.prog) w 70 74 a n c 0 0 Tryz.underlying70
 rcases A with _ | a
 ·have hb0 : l = [] := by
   cases l with
   | nil => rfl
   | cons x t =>
    obtain ⟨_, _, _, h, _⟩ := hE 0 x rfl
    cases h
  subst hb0
  go_enter Tryz.func66, Tryz.ntmps66
  go_wp2
  go_ret
  exact ⟨_, rfl, OwnS.nil _ _ _ _ _, L0m _ _⟩
 have hE3 : Hid (Elems rRg (w.alloc (.cells #[] 74)) (fun b => S b /\ b < w.heap.size) (some a) l) := L0 ((hE.mono fun b h1 h2 => ⟨h1, h2⟩).keep (Keeps.alloc _))
 have HB := L0 hb
 clear hE hb
 go_enter Tryz.func66, Tryz.ntmps66
 go_wp2_with (at_builtin; refine Z08 (R := rRg) (v := .slice (some (zn w.heap.size 0)) 0 0) (S := fun b => S b /\ b < w.heap.size) X4h rfl (.tmp 5) (.tmp 6) rfl rfl (OwnS.empty rRg 74 w _ rfl fun b h => h.2) rfl rfl hE3.out (fun b h => by simp; have := h.2; omega) ?_ (by simp) ?_; (have := HB.o; simp only [rRg, L0v]; omega); intro v1 w1 hown1 hb1 _ _; obtain ⟨A3, c3, rfl⟩ := hown1.self.value; simp only [L1o] at hown1)
 go_ret
 exact ⟨_, rfl, hown1, bA.trans hb1⟩
theorem X4j : ElemOf Tryz.prog rStr 39 9 := .mk' Tryz.underlying39 (z := .string ⟨#[]⟩) (k := 1) (b := 16) (by kernel_rfl) rfl rfl rfl (by decide) (by decide)
theorem Y1i {S : Nat -> Prop} {A : Option Addr} {c : Nat} {l : List _} (w : World) (hE : Elems rStr w S A l) (hb : l.length * 16 <= 140737488355328) :
  Calls Tryz.prog 42 #[.slice A l.length c] w fun e w' => ∃ z, e = .returned z /\ OwnS rStr 9 w' w.heap.size (fun b => S b /\ b < w.heap.size) z l /\ Bw w w' := by
 have hq := fun (w : World) (a : Option Addr) (n c : Nat) => jA (P := Tryz.prog) w 39 9 a n c 0 0 Tryz.underlying39
 rcases A with _ | a
 ·have hb0 : l = [] := by
   cases l with
   | nil => rfl
   | cons x t =>
    obtain ⟨_, _, _, h, _⟩ := hE 0 x rfl
    cases h
  subst hb0
  go_enter Tryz.func42, Tryz.ntmps42
  go_wp2
  go_ret
  exact ⟨_, rfl, OwnS.nil _ _ _ _ _, L0m _ _⟩
 have hE3 : Hid (Elems rStr (w.alloc (.cells #[] 9)) (fun b => S b /\ b < w.heap.size) (some a) l) := L0 ((hE.mono fun b h1 h2 => ⟨h1, h2⟩).keep (Keeps.alloc _))
 have HB := L0 hb
 clear hE hb
 go_enter Tryz.func42, Tryz.ntmps42
 go_wp2_with (at_builtin; refine Z08 (R := rStr) (v := .slice (some (zn w.heap.size 0)) 0 0) (S := fun b => S b /\ b < w.heap.size) X4j rfl (.tmp 5) (.tmp 6) rfl rfl (OwnS.empty rStr 9 w _ rfl fun b h => h.2) rfl rfl hE3.out (fun b h => by simp; have := h.2; omega) ?_ (by simp) ?_; (have := HB.o; simp only [rStr, L0v]; omega); intro v1 w1 hown1 hb1 _ _; obtain ⟨A3, c3, rfl⟩ := hown1.self.value; simp only [L1o] at hown1)
 go_ret
 exact ⟨_, rfl, hown1, bA.trans hb1⟩
