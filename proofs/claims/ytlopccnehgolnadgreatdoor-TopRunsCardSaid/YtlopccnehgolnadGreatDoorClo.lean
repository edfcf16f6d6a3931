import Derived.Test.YtlopccnehgolnadGreatDoorGRuns11
import Derived.Test.YtlopccnehgolnadGreatDoorRowSet
import Derived.BigRegion
import Derived.Lib.SliceRun
import Derived.Deep.RegionWith
import Derived.Deep.DrawnRows
import Derived.Deep.DeepMust
namespace Go.Proofs.YtlopccnehgolnadGreatDoor
open Go.RowKit Rb
open Go.Lib renaming hid -> hI, run_eql_slice_nil -> jB
open Nat renaming le_refl -> nR
open Go.RowKit.Below renaming refl -> jA
open List renaming length_nil -> jC, nil_append -> jD
set_option maxRecDepth 100000
theorem Y57 : ElemOf Tryz.prog rDm 43 66 := .mk' Tryz.underlying43 (z := .agg #[.string ⟨#[]⟩, .int .i64 0, .int .i64 0]) (k := 3) (b := 32) (by kernel_rfl) rfl rfl rfl (by decide) (by decide)
theorem Y49 {S : Nat -> Prop} {A : Option Addr} {c : Nat} {l : List _} (w : World) (hE : Elems rDm w S A l) (hb : l.length * 32 <= 140737488355328) :
  Calls Tryz.prog 25 #[.slice A l.length c] w fun e w' => ∃ z, e = .returned z /\ OwnS rDm 66 w' w.heap.size (fun b => S b /\ b < w.heap.size) z l /\ Below w.heap.size w w' := by
 have hq := fun (w : World) (a : Option Addr) (n c : Nat) => jB (P := Tryz.prog) w 43 66 a n c 0 0 Tryz.underlying43
 rcases A with _ | a
 ·have hb0 : l = [] := by
   cases l with
   | nil => rfl
   | cons x t =>
    obtain ⟨_, _, _, h, _⟩ := hE 0 x rfl
    cases h
  subst hb0
  go_enter Tryz.func25, Tryz.ntmps25
  go_wp2
  go_ret
  exact ⟨_, rfl, OwnS.nil _ _ _ _ _, jA _ _⟩
 ·have hE3 : Hid (Elems rDm (w.alloc (.cells #[] 66)) (fun b => S b /\ b < w.heap.size) (some a) l) := hI ((hE.mono fun b h1 h2 => ⟨h1, h2⟩).keep (Keeps.alloc _))
  have HB := hI hb
  clear hE hb
  go_enter Tryz.func25, Tryz.ntmps25
  go_wp2_with (at_builtin; refine Z0n (R := rDm) (v := .slice (some ⟨w.heap.size, 0, none⟩) 0 0) (S := fun b => S b /\ b < w.heap.size) Y57 rfl (.tmp 5) (.tmp 6) rfl rfl (OwnS.empty rDm 66 w _ rfl fun b h => h.2) rfl rfl hE3.out (fun b h => by simp; have := h.2; omega) ?_ (by simp) ?_; (have := HB.out; simp only [rDm, jC]; omega); intro v1 w1 hown1 hb1 _ _; obtain ⟨A3, c3, rfl⟩ := hown1.self.value; simp only [jD] at hown1)
  go_ret
  exact ⟨_, rfl, hown1, ((jA _ _).alloc (nR _) _).trans hb1⟩
theorem Y3m : ElemOf Tryz.prog rTb 44 69 := .mk' Tryz.underlying44 (z := .agg #[.string ⟨#[]⟩, .int .i64 0, .bool false, .slice none 0 0, .slice none 0 0]) (k := 5) (b := 80) (by kernel_rfl) rfl rfl rfl (by decide) (by decide)
theorem Y9b {S : Nat -> Prop} {A : Option Addr} {c : Nat} {l : List _} (w : World) (hE : Elems rTb w S A l) (hb : l.length * 80 <= 140737488355328) :
  Calls Tryz.prog 28 #[.slice A l.length c] w fun e w' => ∃ z, e = .returned z /\ OwnS rTb 69 w' w.heap.size (fun b => S b /\ b < w.heap.size) z l /\ Below w.heap.size w w' := by
 have hq := fun (w : World) (a : Option Addr) (n c : Nat) => jB (P := Tryz.prog) w 44 69 a n c 0 0 Tryz.underlying44
 rcases A with _ | a
 ·have hb0 : l = [] := by
   cases l with
   | nil => rfl
   | cons x t =>
    obtain ⟨_, _, _, h, _⟩ := hE 0 x rfl
    cases h
  subst hb0
  go_enter Tryz.func28, Tryz.ntmps28
  go_wp2
  go_ret
  exact ⟨_, rfl, OwnS.nil _ _ _ _ _, jA _ _⟩
 ·have hE3 : Hid (Elems rTb (w.alloc (.cells #[] 69)) (fun b => S b /\ b < w.heap.size) (some a) l) := hI ((hE.mono fun b h1 h2 => ⟨h1, h2⟩).keep (Keeps.alloc _))
  have HB := hI hb
  clear hE hb
  go_enter Tryz.func28, Tryz.ntmps28
  go_wp2_with (at_builtin; refine Z0n (R := rTb) (v := .slice (some ⟨w.heap.size, 0, none⟩) 0 0) (S := fun b => S b /\ b < w.heap.size) Y3m rfl (.tmp 5) (.tmp 6) rfl rfl (OwnS.empty rTb 69 w _ rfl fun b h => h.2) rfl rfl hE3.out (fun b h => by simp; have := h.2; omega) ?_ (by simp) ?_; (have := HB.out; simp only [rTb, jC]; omega); intro v1 w1 hown1 hb1 _ _; obtain ⟨A3, c3, rfl⟩ := hown1.self.value; simp only [jD] at hown1)
  go_ret
  exact ⟨_, rfl, hown1, ((jA _ _).alloc (nR _) _).trans hb1⟩
theorem X0y : ElemOf Tryz.prog rCl 98 104 := .mk' Tryz.underlying98 (z := .agg #[.bool false, .slice none 0 0]) (k := 2) (b := 32) (by kernel_rfl) rfl rfl rfl (by decide) (by decide)
theorem Y89 {S : Nat -> Prop} {A : Option Addr} {c : Nat} {l : List _} (w : World) (hE : Elems rCl w S A l) (hb : l.length * 32 <= 140737488355328) :
  Calls Tryz.prog 41 #[.slice A l.length c] w fun e w' => ∃ z, e = .returned z /\ OwnS rCl 104 w' w.heap.size (fun b => S b /\ b < w.heap.size) z l /\ Below w.heap.size w w' := by
 have hq := fun (w : World) (a : Option Addr) (n c : Nat) => jB (P := Tryz.prog) w 98 104 a n c 0 0 Tryz.underlying98
 rcases A with _ | a
 ·have hb0 : l = [] := by
   cases l with
   | nil => rfl
   | cons x t =>
    obtain ⟨_, _, _, h, _⟩ := hE 0 x rfl
    cases h
  subst hb0
  go_enter Tryz.func41, Tryz.ntmps41
  go_wp2
  go_ret
  exact ⟨_, rfl, OwnS.nil _ _ _ _ _, jA _ _⟩
 ·have hE3 : Hid (Elems rCl (w.alloc (.cells #[] 104)) (fun b => S b /\ b < w.heap.size) (some a) l) := hI ((hE.mono fun b h1 h2 => ⟨h1, h2⟩).keep (Keeps.alloc _))
  have HB := hI hb
  clear hE hb
  go_enter Tryz.func41, Tryz.ntmps41
  go_wp2_with (at_builtin; refine Z0n (R := rCl) (v := .slice (some ⟨w.heap.size, 0, none⟩) 0 0) (S := fun b => S b /\ b < w.heap.size) X0y rfl (.tmp 5) (.tmp 6) rfl rfl (OwnS.empty rCl 104 w _ rfl fun b h => h.2) rfl rfl hE3.out (fun b h => by simp; have := h.2; omega) ?_ (by simp) ?_; (have := HB.out; simp only [rCl, jC]; omega); intro v1 w1 hown1 hb1 _ _; obtain ⟨A3, c3, rfl⟩ := hown1.self.value; simp only [jD] at hown1)
  go_ret
  exact ⟨_, rfl, hown1, ((jA _ _).alloc (nR _) _).trans hb1⟩
theorem X0z : ElemOf Tryz.prog rRg 102 107 := .mk' Tryz.underlying102 (z := .agg #[.int .i64 0, .int .i64 0]) (k := 2) (b := 16) (by kernel_rfl) rfl rfl rfl (by decide) (by decide)
theorem Y9a {S : Nat -> Prop} {A : Option Addr} {c : Nat} {l : List _} (w : World) (hE : Elems rRg w S A l) (hb : l.length * 16 <= 140737488355328) :
  Calls Tryz.prog 42 #[.slice A l.length c] w fun e w' => ∃ z, e = .returned z /\ OwnS rRg 107 w' w.heap.size (fun b => S b /\ b < w.heap.size) z l /\ Below w.heap.size w w' := by
 have hq := fun (w : World) (a : Option Addr) (n c : Nat) => jB (P := Tryz.prog) w 102 107 a n c 0 0 Tryz.underlying102
 rcases A with _ | a
 ·have hb0 : l = [] := by
   cases l with
   | nil => rfl
   | cons x t =>
    obtain ⟨_, _, _, h, _⟩ := hE 0 x rfl
    cases h
  subst hb0
  go_enter Tryz.func42, Tryz.ntmps42
  go_wp2
  go_ret
  exact ⟨_, rfl, OwnS.nil _ _ _ _ _, jA _ _⟩
 ·have hE3 : Hid (Elems rRg (w.alloc (.cells #[] 107)) (fun b => S b /\ b < w.heap.size) (some a) l) := hI ((hE.mono fun b h1 h2 => ⟨h1, h2⟩).keep (Keeps.alloc _))
  have HB := hI hb
  clear hE hb
  go_enter Tryz.func42, Tryz.ntmps42
  go_wp2_with (at_builtin; refine Z0n (R := rRg) (v := .slice (some ⟨w.heap.size, 0, none⟩) 0 0) (S := fun b => S b /\ b < w.heap.size) X0z rfl (.tmp 5) (.tmp 6) rfl rfl (OwnS.empty rRg 107 w _ rfl fun b h => h.2) rfl rfl hE3.out (fun b h => by simp; have := h.2; omega) ?_ (by simp) ?_; (have := HB.out; simp only [rRg, jC]; omega); intro v1 w1 hown1 hb1 _ _; obtain ⟨A3, c3, rfl⟩ := hown1.self.value; simp only [jD] at hown1)
  go_ret
  exact ⟨_, rfl, hown1, ((jA _ _).alloc (nR _) _).trans hb1⟩
theorem X01 : ElemOf Tryz.prog rStr 47 9 := .mk' Tryz.underlying47 (z := .string ⟨#[]⟩) (k := 1) (b := 16) (by kernel_rfl) rfl rfl rfl (by decide) (by decide)
theorem Y5a {S : Nat -> Prop} {A : Option Addr} {c : Nat} {l : List _} (w : World) (hE : Elems rStr w S A l) (hb : l.length * 16 <= 140737488355328) :
  Calls Tryz.prog 32 #[.slice A l.length c] w fun e w' => ∃ z, e = .returned z /\ OwnS rStr 9 w' w.heap.size (fun b => S b /\ b < w.heap.size) z l /\ Below w.heap.size w w' := by
 have hq := fun (w : World) (a : Option Addr) (n c : Nat) => jB (P := Tryz.prog) w 47 9 a n c 0 0 Tryz.underlying47
 rcases A with _ | a
 ·have hb0 : l = [] := by
   cases l with
   | nil => rfl
   | cons x t =>
    obtain ⟨_, _, _, h, _⟩ := hE 0 x rfl
    cases h
  subst hb0
  go_enter Tryz.func32, Tryz.ntmps32
  go_wp2
  go_ret
  exact ⟨_, rfl, OwnS.nil _ _ _ _ _, jA _ _⟩
 ·have hE3 : Hid (Elems rStr (w.alloc (.cells #[] 9)) (fun b => S b /\ b < w.heap.size) (some a) l) := hI ((hE.mono fun b h1 h2 => ⟨h1, h2⟩).keep (Keeps.alloc _))
  have HB := hI hb
  clear hE hb
  go_enter Tryz.func32, Tryz.ntmps32
  go_wp2_with (at_builtin; refine Z0n (R := rStr) (v := .slice (some ⟨w.heap.size, 0, none⟩) 0 0) (S := fun b => S b /\ b < w.heap.size) X01 rfl (.tmp 5) (.tmp 6) rfl rfl (OwnS.empty rStr 9 w _ rfl fun b h => h.2) rfl rfl hE3.out (fun b h => by simp; have := h.2; omega) ?_ (by simp) ?_; (have := HB.out; simp only [rStr, jC]; omega); intro v1 w1 hown1 hb1 _ _; obtain ⟨A3, c3, rfl⟩ := hown1.self.value; simp only [jD] at hown1)
  go_ret
  exact ⟨_, rfl, hown1, ((jA _ _).alloc (nR _) _).trans hb1⟩
