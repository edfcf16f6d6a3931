import Derived.Test.YtlopccnehgolnabGreatDoorGK11
import Derived.Test.YtlopccnehgolnabGreatDoorRowSet
import Derived.BigRegion
import Derived.Lib.SliceRun
import Derived.Deep.RegionWith
import Derived.Deep.DrawnRows
import Derived.Deep.DeepMust
namespace Go.Proofs.YtlopccnehgolnabGreatDoor
open Go.RowKit Rb
open Go.Lib renaming run_eql_slice_nil -> jA
set_option maxRecDepth 100000
theorem Y66 : ElemOf Tryz.prog rDm 30 44 := .mk' Tryz.underlying30 (z := .agg #[.string ⟨#[]⟩, .int .i64 0, .int .i64 0]) (k := 3) (b := 32) (by kernel_rfl) rfl rfl rfl (by decide) (by decide)
theorem Y6c {S : Nat -> Prop} {A : Option Addr} {c : Nat} {l : List _} (w : World) (hE : Elems rDm w S A l) (hb : l.length * 32 <= 140737488355328) :
  Calls Tryz.prog 86 #[.slice A l.length c] w fun e w' => ∃ z, e = .returned z /\ OwnS rDm 44 w' w.heap.size (fun b => S b /\ b < w.heap.size) z l /\ Below w.heap.size w w' := by
 have hq := fun (w : World) (a : Option Addr) (n c : Nat) => jA (P := Tryz.prog) w 30 44 a n c 0 0 Tryz.underlying30
 rcases A with _ | a
 ·have hb0 : l = [] := by
   cases l with
   | nil => rfl
   | cons x t =>
    obtain ⟨_, _, _, h, _⟩ := hE 0 x rfl
    cases h
  subst hb0
  go_enter Tryz.func86, Tryz.ntmps86
  go_wp2
  go_ret
  exact ⟨_, rfl, OwnS.nil _ _ _ _ _, L0m _ _⟩
 have hE3 : Hid (Elems rDm (w.alloc (.cells #[] 44)) (fun b => S b /\ b < w.heap.size) (some a) l) := L0 ((hE.mono fun b h1 h2 => ⟨h1, h2⟩).keep (Keeps.alloc _))
 have HB := L0 hb
 clear hE hb
 go_enter Tryz.func86, Tryz.ntmps86
 go_wp2_with (at_builtin; refine Z03 (R := rDm) (v := .slice (some ⟨w.heap.size, 0, none⟩) 0 0) (S := fun b => S b /\ b < w.heap.size) Y66 rfl (.tmp 5) (.tmp 6) rfl rfl (OwnS.empty rDm 44 w _ rfl fun b h => h.2) rfl rfl hE3.out (fun b h => by simp; have := h.2; omega) ?_ (by simp) ?_; (have := HB.o; simp only [rDm, L0u]; omega); intro v1 w1 hown1 hb1 _ _; obtain ⟨A3, c3, rfl⟩ := hown1.self.value; simp only [L1t] at hown1)
 go_ret
 exact ⟨_, rfl, hown1, bA.trans hb1⟩
theorem Y4n : ElemOf Tryz.prog rTb 31 42 := .mk' Tryz.underlying31 (z := .agg #[.string ⟨#[]⟩, .int .i64 0, .bool false, .slice none 0 0, .slice none 0 0]) (k := 5) (b := 80) (by kernel_rfl) rfl rfl rfl (by decide) (by decide)
theorem X0v {S : Nat -> Prop} {A : Option Addr} {c : Nat} {l : List _} (w : World) (hE : Elems rTb w S A l) (hb : l.length * 80 <= 140737488355328) :
  Calls Tryz.prog 106 #[.slice A l.length c] w fun e w' => ∃ z, e = .returned z /\ OwnS rTb 42 w' w.heap.size (fun b => S b /\ b < w.heap.size) z l /\ Below w.heap.size w w' := by
 have hq := fun (w : World) (a : Option Addr) (n c : Nat) => jA (P := Tryz.prog) w 31 42 a n c 0 0 Tryz.underlying31
 rcases A with _ | a
 ·have hb0 : l = [] := by
   cases l with
   | nil => rfl
   | cons x t =>
    obtain ⟨_, _, _, h, _⟩ := hE 0 x rfl
    cases h
  subst hb0
  go_enter Tryz.func106, Tryz.ntmps106
  go_wp2
  go_ret
  exact ⟨_, rfl, OwnS.nil _ _ _ _ _, L0m _ _⟩
 have hE3 : Hid (Elems rTb (w.alloc (.cells #[] 42)) (fun b => S b /\ b < w.heap.size) (some a) l) := L0 ((hE.mono fun b h1 h2 => ⟨h1, h2⟩).keep (Keeps.alloc _))
 have HB := L0 hb
 clear hE hb
 go_enter Tryz.func106, Tryz.ntmps106
 go_wp2_with (at_builtin; refine Z03 (R := rTb) (v := .slice (some ⟨w.heap.size, 0, none⟩) 0 0) (S := fun b => S b /\ b < w.heap.size) Y4n rfl (.tmp 5) (.tmp 6) rfl rfl (OwnS.empty rTb 42 w _ rfl fun b h => h.2) rfl rfl hE3.out (fun b h => by simp; have := h.2; omega) ?_ (by simp) ?_; (have := HB.o; simp only [rTb, L0u]; omega); intro v1 w1 hown1 hb1 _ _; obtain ⟨A3, c3, rfl⟩ := hown1.self.value; simp only [L1t] at hown1)
 go_ret
 exact ⟨_, rfl, hown1, bA.trans hb1⟩
theorem X2m : ElemOf Tryz.prog rCl 91 97 := .mk' Tryz.underlying91 (z := .agg #[.bool false, .slice none 0 0]) (k := 2) (b := 32) (by kernel_rfl) rfl rfl rfl (by decide) (by decide)
theorem X0t {S : Nat -> Prop} {A : Option Addr} {c : Nat} {l : List _} (w : World) (hE : Elems rCl w S A l) (hb : l.length * 32 <= 140737488355328) :
  Calls Tryz.prog 88 #[.slice A l.length c] w fun e w' => ∃ z, e = .returned z /\ OwnS rCl 97 w' w.heap.size (fun b => S b /\ b < w.heap.size) z l /\ Below w.heap.size w w' := by
 have hq := fun (w : World) (a : Option Addr) (n c : Nat) => jA (P := Tryz.prog) w 91 97 a n c 0 0 Tryz.underlying91
 rcases A with _ | a
 ·have hb0 : l = [] := by
   cases l with
   | nil => rfl
   | cons x t =>
    obtain ⟨_, _, _, h, _⟩ := hE 0 x rfl
    cases h
  subst hb0
  go_enter Tryz.func88, Tryz.ntmps88
  go_wp2
  go_ret
  exact ⟨_, rfl, OwnS.nil _ _ _ _ _, L0m _ _⟩
 have hE3 : Hid (Elems rCl (w.alloc (.cells #[] 97)) (fun b => S b /\ b < w.heap.size) (some a) l) := L0 ((hE.mono fun b h1 h2 => ⟨h1, h2⟩).keep (Keeps.alloc _))
 have HB := L0 hb
 clear hE hb
 go_enter Tryz.func88, Tryz.ntmps88
 go_wp2_with (at_builtin; refine Z03 (R := rCl) (v := .slice (some ⟨w.heap.size, 0, none⟩) 0 0) (S := fun b => S b /\ b < w.heap.size) X2m rfl (.tmp 5) (.tmp 6) rfl rfl (OwnS.empty rCl 97 w _ rfl fun b h => h.2) rfl rfl hE3.out (fun b h => by simp; have := h.2; omega) ?_ (by simp) ?_; (have := HB.o; simp only [rCl, L0u]; omega); intro v1 w1 hown1 hb1 _ _; obtain ⟨A3, c3, rfl⟩ := hown1.self.value; simp only [L1t] at hown1)
 go_ret
 exact ⟨_, rfl, hown1, bA.trans hb1⟩
theorem X2n : ElemOf Tryz.prog rRg 95 123 := .mk' Tryz.underlying95 (z := .agg #[.int .i64 0, .int .i64 0]) (k := 2) (b := 16) (by kernel_rfl) rfl rfl rfl (by decide) (by decide)
theorem X0u {S : Nat -> Prop} {A : Option Addr} {c : Nat} {l : List _} (w : World) (hE : Elems rRg w S A l) (hb : l.length * 16 <= 140737488355328) :
  Calls Tryz.prog 89 #[.slice A l.length c] w fun e w' => ∃ z, e = .returned z /\ OwnS rRg 123 w' w.heap.size (fun b => S b /\ b < w.heap.size) z l /\ Below w.heap.size w w' := by
 have hq := fun (w : World) (a : Option Addr) (n c : Nat) => jA (P := Tryz.prog) w 95 123 a n c 0 0 Tryz.underlying95
 rcases A with _ | a
 ·have hb0 : l = [] := by
   cases l with
   | nil => rfl
   | cons x t =>
    obtain ⟨_, _, _, h, _⟩ := hE 0 x rfl
    cases h
  subst hb0
  go_enter Tryz.func89, Tryz.ntmps89
  go_wp2
  go_ret
  exact ⟨_, rfl, OwnS.nil _ _ _ _ _, L0m _ _⟩
 have hE3 : Hid (Elems rRg (w.alloc (.cells #[] 123)) (fun b => S b /\ b < w.heap.size) (some a) l) := L0 ((hE.mono fun b h1 h2 => ⟨h1, h2⟩).keep (Keeps.alloc _))
 have HB := L0 hb
 clear hE hb
 go_enter Tryz.func89, Tryz.ntmps89
 go_wp2_with (at_builtin; refine Z03 (R := rRg) (v := .slice (some ⟨w.heap.size, 0, none⟩) 0 0) (S := fun b => S b /\ b < w.heap.size) X2n rfl (.tmp 5) (.tmp 6) rfl rfl (OwnS.empty rRg 123 w _ rfl fun b h => h.2) rfl rfl hE3.out (fun b h => by simp; have := h.2; omega) ?_ (by simp) ?_; (have := HB.o; simp only [rRg, L0u]; omega); intro v1 w1 hown1 hb1 _ _; obtain ⟨A3, c3, rfl⟩ := hown1.self.value; simp only [L1t] at hown1)
 go_ret
 exact ⟨_, rfl, hown1, bA.trans hb1⟩
theorem X2p : ElemOf Tryz.prog rStr 39 9 := .mk' Tryz.underlying39 (z := .string ⟨#[]⟩) (k := 1) (b := 16) (by kernel_rfl) rfl rfl rfl (by decide) (by decide)
theorem Y0g {S : Nat -> Prop} {A : Option Addr} {c : Nat} {l : List _} (w : World) (hE : Elems rStr w S A l) (hb : l.length * 16 <= 140737488355328) :
  Calls Tryz.prog 87 #[.slice A l.length c] w fun e w' => ∃ z, e = .returned z /\ OwnS rStr 9 w' w.heap.size (fun b => S b /\ b < w.heap.size) z l /\ Below w.heap.size w w' := by
 have hq := fun (w : World) (a : Option Addr) (n c : Nat) => jA (P := Tryz.prog) w 39 9 a n c 0 0 Tryz.underlying39
 rcases A with _ | a
 ·have hb0 : l = [] := by
   cases l with
   | nil => rfl
   | cons x t =>
    obtain ⟨_, _, _, h, _⟩ := hE 0 x rfl
    cases h
  subst hb0
  go_enter Tryz.func87, Tryz.ntmps87
  go_wp2
  go_ret
  exact ⟨_, rfl, OwnS.nil _ _ _ _ _, L0m _ _⟩
 have hE3 : Hid (Elems rStr (w.alloc (.cells #[] 9)) (fun b => S b /\ b < w.heap.size) (some a) l) := L0 ((hE.mono fun b h1 h2 => ⟨h1, h2⟩).keep (Keeps.alloc _))
 have HB := L0 hb
 clear hE hb
 go_enter Tryz.func87, Tryz.ntmps87
 go_wp2_with (at_builtin; refine Z03 (R := rStr) (v := .slice (some ⟨w.heap.size, 0, none⟩) 0 0) (S := fun b => S b /\ b < w.heap.size) X2p rfl (.tmp 5) (.tmp 6) rfl rfl (OwnS.empty rStr 9 w _ rfl fun b h => h.2) rfl rfl hE3.out (fun b h => by simp; have := h.2; omega) ?_ (by simp) ?_; (have := HB.o; simp only [rStr, L0u]; omega); intro v1 w1 hown1 hb1 _ _; obtain ⟨A3, c3, rfl⟩ := hown1.self.value; simp only [L1t] at hown1)
 go_ret
 exact ⟨_, rfl, hown1, bA.trans hb1⟩
