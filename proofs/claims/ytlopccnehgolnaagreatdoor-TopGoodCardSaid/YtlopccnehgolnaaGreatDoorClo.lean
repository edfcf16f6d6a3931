import Derived.Test.YtlopccnehgolnaaGreatDoorGGood12
import Derived.Test.YtlopccnehgolnaaGreatDoorRowSet
import Derived.BigRegion
import Derived.Lib.SliceRun
import Derived.Deep.RegionWith
import Derived.Deep.DrawnRows
import Derived.Deep.DeepMust
namespace Go.Proofs.YtlopccnehgolnaaGreatDoor
open Go.RowKit Rb
open Go.Lib renaming hid -> hI
open Nat renaming le_refl -> nR
set_option maxRecDepth 100000
theorem Y62 : ElemOf Tryz.prog rDm 29 54 := .mk' Tryz.underlying29 (z := .agg #[.string ⟨#[]⟩, .int .i64 0, .int .i64 0]) (k := 3) (b := 32) (by kernel_rfl) rfl rfl rfl (by decide) (by decide)
theorem Y6w {S : Nat -> Prop} {A : Option Addr} {c : Nat} {l : List _} (w : World) (hE : Elems rDm w S A l) (hb : l.length * 32 <= 140737488355328) :
  Calls Tryz.prog 29 #[.slice A l.length c] w fun e w' => ∃ z, e = .returned z /\ OwnS rDm 54 w' w.heap.size (fun b => S b /\ b < w.heap.size) z l /\ Below w.heap.size w w' := by
 have hq := fun (w : World) (a : Option Addr) (n c : Nat) => Lib.run_eql_slice_nil (P := Tryz.prog) w 29 54 a n c 0 0 Tryz.underlying29
 rcases A with _ | a
 ·have hb0 : l = [] := by
   cases l with
   | nil => rfl
   | cons x t =>
    obtain ⟨_, _, _, h, _⟩ := hE 0 x rfl
    cases h
  subst hb0
  go_enter Tryz.func29, Tryz.ntmps29
  go_wp2
  go_ret
  exact ⟨_, rfl, OwnS.nil _ _ _ _ _, Below.refl _ _⟩
 ·have hE3 : Hid (Elems rDm (w.alloc (.cells #[] 54)) (fun b => S b /\ b < w.heap.size) (some a) l) := hI ((hE.mono fun b h1 h2 => ⟨h1, h2⟩).keep (Keeps.alloc _))
  have HB := hI hb
  clear hE hb
  go_enter Tryz.func29, Tryz.ntmps29
  go_wp2_with (first | (at_builtin; refine Z00 (R := rDm) (v := .slice (some ⟨w.heap.size, 0, none⟩) 0 0) (S := fun b => S b /\ b < w.heap.size) Y62 rfl (.tmp 5) (.tmp 6) rfl rfl (OwnS.empty rDm 54 w _ rfl fun b h => h.2) rfl rfl hE3.out (fun b h => by simp; have := h.2; omega) ?_ (by simp) ?_; (have := HB.out; simp only [rDm, List.length_nil]; omega); intro v1 w1 hown1 hb1 _ _; obtain ⟨A3, c3, rfl⟩ := hown1.self.value; simp only [List.nil_append] at hown1))
  go_ret
  exact ⟨_, rfl, hown1, ((Below.refl _ _).alloc (nR _) _).trans hb1⟩
theorem Y3j : ElemOf Tryz.prog rTb 30 58 := .mk' Tryz.underlying30 (z := .agg #[.string ⟨#[]⟩, .int .i64 0, .bool false, .slice none 0 0, .slice none 0 0]) (k := 5) (b := 80) (by kernel_rfl) rfl rfl rfl (by decide) (by decide)
theorem Y9j {S : Nat -> Prop} {A : Option Addr} {c : Nat} {l : List _} (w : World) (hE : Elems rTb w S A l) (hb : l.length * 80 <= 140737488355328) :
  Calls Tryz.prog 50 #[.slice A l.length c] w fun e w' => ∃ z, e = .returned z /\ OwnS rTb 58 w' w.heap.size (fun b => S b /\ b < w.heap.size) z l /\ Below w.heap.size w w' := by
 have hq := fun (w : World) (a : Option Addr) (n c : Nat) => Lib.run_eql_slice_nil (P := Tryz.prog) w 30 58 a n c 0 0 Tryz.underlying30
 rcases A with _ | a
 ·have hb0 : l = [] := by
   cases l with
   | nil => rfl
   | cons x t =>
    obtain ⟨_, _, _, h, _⟩ := hE 0 x rfl
    cases h
  subst hb0
  go_enter Tryz.func50, Tryz.ntmps50
  go_wp2
  go_ret
  exact ⟨_, rfl, OwnS.nil _ _ _ _ _, Below.refl _ _⟩
 ·have hE3 : Hid (Elems rTb (w.alloc (.cells #[] 58)) (fun b => S b /\ b < w.heap.size) (some a) l) := hI ((hE.mono fun b h1 h2 => ⟨h1, h2⟩).keep (Keeps.alloc _))
  have HB := hI hb
  clear hE hb
  go_enter Tryz.func50, Tryz.ntmps50
  go_wp2_with (first | (at_builtin; refine Z00 (R := rTb) (v := .slice (some ⟨w.heap.size, 0, none⟩) 0 0) (S := fun b => S b /\ b < w.heap.size) Y3j rfl (.tmp 5) (.tmp 6) rfl rfl (OwnS.empty rTb 58 w _ rfl fun b h => h.2) rfl rfl hE3.out (fun b h => by simp; have := h.2; omega) ?_ (by simp) ?_; (have := HB.out; simp only [rTb, List.length_nil]; omega); intro v1 w1 hown1 hb1 _ _; obtain ⟨A3, c3, rfl⟩ := hown1.self.value; simp only [List.nil_append] at hown1))
  go_ret
  exact ⟨_, rfl, hown1, ((Below.refl _ _).alloc (nR _) _).trans hb1⟩
theorem X00 : ElemOf Tryz.prog rCl 83 89 := .mk' Tryz.underlying83 (z := .agg #[.bool false, .slice none 0 0]) (k := 2) (b := 32) (by kernel_rfl) rfl rfl rfl (by decide) (by decide)
theorem Y9l {S : Nat -> Prop} {A : Option Addr} {c : Nat} {l : List _} (w : World) (hE : Elems rCl w S A l) (hb : l.length * 32 <= 140737488355328) :
  Calls Tryz.prog 31 #[.slice A l.length c] w fun e w' => ∃ z, e = .returned z /\ OwnS rCl 89 w' w.heap.size (fun b => S b /\ b < w.heap.size) z l /\ Below w.heap.size w w' := by
 have hq := fun (w : World) (a : Option Addr) (n c : Nat) => Lib.run_eql_slice_nil (P := Tryz.prog) w 83 89 a n c 0 0 Tryz.underlying83
 rcases A with _ | a
 ·have hb0 : l = [] := by
   cases l with
   | nil => rfl
   | cons x t =>
    obtain ⟨_, _, _, h, _⟩ := hE 0 x rfl
    cases h
  subst hb0
  go_enter Tryz.func31, Tryz.ntmps31
  go_wp2
  go_ret
  exact ⟨_, rfl, OwnS.nil _ _ _ _ _, Below.refl _ _⟩
 ·have hE3 : Hid (Elems rCl (w.alloc (.cells #[] 89)) (fun b => S b /\ b < w.heap.size) (some a) l) := hI ((hE.mono fun b h1 h2 => ⟨h1, h2⟩).keep (Keeps.alloc _))
  have HB := hI hb
  clear hE hb
  go_enter Tryz.func31, Tryz.ntmps31
  go_wp2_with (first | (at_builtin; refine Z00 (R := rCl) (v := .slice (some ⟨w.heap.size, 0, none⟩) 0 0) (S := fun b => S b /\ b < w.heap.size) X00 rfl (.tmp 5) (.tmp 6) rfl rfl (OwnS.empty rCl 89 w _ rfl fun b h => h.2) rfl rfl hE3.out (fun b h => by simp; have := h.2; omega) ?_ (by simp) ?_; (have := HB.out; simp only [rCl, List.length_nil]; omega); intro v1 w1 hown1 hb1 _ _; obtain ⟨A3, c3, rfl⟩ := hown1.self.value; simp only [List.nil_append] at hown1))
  go_ret
  exact ⟨_, rfl, hown1, ((Below.refl _ _).alloc (nR _) _).trans hb1⟩
theorem X03 : ElemOf Tryz.prog rRg 87 92 := .mk' Tryz.underlying87 (z := .agg #[.int .i64 0, .int .i64 0]) (k := 2) (b := 16) (by kernel_rfl) rfl rfl rfl (by decide) (by decide)
theorem Y9t {S : Nat -> Prop} {A : Option Addr} {c : Nat} {l : List _} (w : World) (hE : Elems rRg w S A l) (hb : l.length * 16 <= 140737488355328) :
  Calls Tryz.prog 32 #[.slice A l.length c] w fun e w' => ∃ z, e = .returned z /\ OwnS rRg 92 w' w.heap.size (fun b => S b /\ b < w.heap.size) z l /\ Below w.heap.size w w' := by
 have hq := fun (w : World) (a : Option Addr) (n c : Nat) => Lib.run_eql_slice_nil (P := Tryz.prog) w 87 92 a n c 0 0 Tryz.underlying87
 rcases A with _ | a
 ·have hb0 : l = [] := by
   cases l with
   | nil => rfl
   | cons x t =>
    obtain ⟨_, _, _, h, _⟩ := hE 0 x rfl
    cases h
  subst hb0
  go_enter Tryz.func32, Tryz.ntmps32
  go_wp2
  go_ret
  exact ⟨_, rfl, OwnS.nil _ _ _ _ _, Below.refl _ _⟩
 ·have hE3 : Hid (Elems rRg (w.alloc (.cells #[] 92)) (fun b => S b /\ b < w.heap.size) (some a) l) := hI ((hE.mono fun b h1 h2 => ⟨h1, h2⟩).keep (Keeps.alloc _))
  have HB := hI hb
  clear hE hb
  go_enter Tryz.func32, Tryz.ntmps32
  go_wp2_with (first | (at_builtin; refine Z00 (R := rRg) (v := .slice (some ⟨w.heap.size, 0, none⟩) 0 0) (S := fun b => S b /\ b < w.heap.size) X03 rfl (.tmp 5) (.tmp 6) rfl rfl (OwnS.empty rRg 92 w _ rfl fun b h => h.2) rfl rfl hE3.out (fun b h => by simp; have := h.2; omega) ?_ (by simp) ?_; (have := HB.out; simp only [rRg, List.length_nil]; omega); intro v1 w1 hown1 hb1 _ _; obtain ⟨A3, c3, rfl⟩ := hown1.self.value; simp only [List.nil_append] at hown1))
  go_ret
  exact ⟨_, rfl, hown1, ((Below.refl _ _).alloc (nR _) _).trans hb1⟩
theorem X05 : ElemOf Tryz.prog rStr 46 9 := .mk' Tryz.underlying46 (z := .string ⟨#[]⟩) (k := 1) (b := 16) (by kernel_rfl) rfl rfl rfl (by decide) (by decide)
theorem Y6z {S : Nat -> Prop} {A : Option Addr} {c : Nat} {l : List _} (w : World) (hE : Elems rStr w S A l) (hb : l.length * 16 <= 140737488355328) :
  Calls Tryz.prog 30 #[.slice A l.length c] w fun e w' => ∃ z, e = .returned z /\ OwnS rStr 9 w' w.heap.size (fun b => S b /\ b < w.heap.size) z l /\ Below w.heap.size w w' := by
 have hq := fun (w : World) (a : Option Addr) (n c : Nat) => Lib.run_eql_slice_nil (P := Tryz.prog) w 46 9 a n c 0 0 Tryz.underlying46
 rcases A with _ | a
 ·have hb0 : l = [] := by
   cases l with
   | nil => rfl
   | cons x t =>
    obtain ⟨_, _, _, h, _⟩ := hE 0 x rfl
    cases h
  subst hb0
  go_enter Tryz.func30, Tryz.ntmps30
  go_wp2
  go_ret
  exact ⟨_, rfl, OwnS.nil _ _ _ _ _, Below.refl _ _⟩
 ·have hE3 : Hid (Elems rStr (w.alloc (.cells #[] 9)) (fun b => S b /\ b < w.heap.size) (some a) l) := hI ((hE.mono fun b h1 h2 => ⟨h1, h2⟩).keep (Keeps.alloc _))
  have HB := hI hb
  clear hE hb
  go_enter Tryz.func30, Tryz.ntmps30
  go_wp2_with (first | (at_builtin; refine Z00 (R := rStr) (v := .slice (some ⟨w.heap.size, 0, none⟩) 0 0) (S := fun b => S b /\ b < w.heap.size) X05 rfl (.tmp 5) (.tmp 6) rfl rfl (OwnS.empty rStr 9 w _ rfl fun b h => h.2) rfl rfl hE3.out (fun b h => by simp; have := h.2; omega) ?_ (by simp) ?_; (have := HB.out; simp only [rStr, List.length_nil]; omega); intro v1 w1 hown1 hb1 _ _; obtain ⟨A3, c3, rfl⟩ := hown1.self.value; simp only [List.nil_append] at hown1))
  go_ret
  exact ⟨_, rfl, hown1, ((Below.refl _ _).alloc (nR _) _).trans hb1⟩
end Go.Proofs.YtlopccnehgolnaaGreatDoor
