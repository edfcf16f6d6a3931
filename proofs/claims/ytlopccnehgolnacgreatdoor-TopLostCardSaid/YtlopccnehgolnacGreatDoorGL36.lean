import Derived.Test.YtlopccnehgolnacGreatDoorShTx
import Derived.Test.YtlopccnehgolnacGreatDoorGL33
import Derived.Test.YtlopccnehgolnacGreatDoorGL11
import Derived.Test.YtlopccnehgolnacGreatDoorJoin
import Derived.Test.YtlopccnehgolnacGreatDoorCopyT
import Derived.Test.YtlopccnehgolnacGreatDoorGL0
import Derived.Deep.DeepMust
import Derived.BigQuiet
import Derived.Laws.Concat
import Derived.Lib.ItoaLen
import Derived.Deep.QuietTactic
namespace Go.Proofs.YtlopccnehgolnacGreatDoor
open Go.RowKit Rb
open Go.Lib renaming itoa -> jA, join -> jB, joinTail -> jC
set_option maxRecDepth 100000
set_option maxHeartbeats 3200000
def Y1z (d : Dm) : Txt := [100, 111, 109, 97, 105, 110, 32] ++ d.name ++ [32] ++ jA d.lo ++ [46, 46] ++ jA d.hi ++ [10]
theorem Y6m (a b : Txt) : (⟨a.toArray⟩ : ByteArray) ++ ⟨b.toArray⟩ = ⟨(a ++ b).toArray⟩ := by
 apply ByteArray.ext
 simp [ByteArray.data_append]
theorem Z4a (n : Int) (h : InI n) : (jA n).length <= 30 := by
 have := Lib.itoa_length_le n h.1 h.2
 omega
def Z5q (d : Dm) : Txt × Int := if Z5j d then (Y1z d, 0) else ([], 1)
theorem Y4t (d : Dm) (w : World) (hs : d.name.length <= 140737488355328) (hlo : InI d.lo) (hhi : InI d.hi) (hw : LibW w) :
  Calls Tryz.prog 49 #[.agg #[.string ⟨d.name.toArray⟩, .int .i64 d.lo, .int .i64 d.hi]] w fun e w' => e = .returned (.tuple #[.string ⟨(Z5q d).1.toArray⟩, .int .i64 (Z5q d).2]) /\ Below w.heap.size w w' := by
 obtain ⟨W0, e0, HB0, hs0⟩ : ∃ W0, w.alloc (.cells #[.string ⟨d.name.toArray⟩, .int .i64 d.lo, .int .i64 d.hi] 63) = W0 /\ Hid (Below w.heap.size w W0) /\ w.heap.size < W0.heap.size := ⟨_, rfl, L0 bA, by simp⟩; have c0 := ac0 e0; have c1 := ac1 e0; have c2 := ac2 e0
 obtain ⟨g, hg⟩ : ∃ x, Z5j d = x := ⟨_, rfl⟩
 have HS := L0 hs
 have HGD : Hid (Calls Tryz.prog 77 #[.agg #[.string ⟨d.name.toArray⟩, .int .i64 d.lo, .int .i64 d.hi]] W0 fun e w' => e = .returned (.bool g) /\ Below W0.heap.size W0 w') := L0 (hg ▸ Z3q d W0 hs)
 have HLL : Hid ((jA d.lo).length <= 30) := L0 (Z4a _ hlo)
 have HLH : Hid ((jA d.hi).length <= 30) := L0 (Z4a _ hhi)
 have HW := L0 hw
 have HLO := L0 hlo
 have HHI := L0 hhi
 have HDT : Hid (Z5q d = if g then (Y1z d, 0) else ([], 1)) := L0 (by unfold Z5q; rw [hg])
 clear hg hs hw hlo hhi
 rw [HDT.out]
 go_enter Tryz.func49, Tryz.ntmps49
 cases g
 ·go_wp2_with (go_at_call 77; (with_reducible refine HGD.out.mono ?_); rintro e w1 ⟨rfl, hb1⟩; have HB1 := L0 hb1; clear hb1)
  go_ret2
  exact ⟨rfl, HB0.out.trans (HB1.out.mono HB0.out.size)⟩
 ·go_wp2_with (go_at_call 77; (with_reducible refine HGD.out.mono ?_); rintro e w1 ⟨rfl, hb1⟩; have HB1 := L0 hb1; have d0 := (hb1.ce 0 hs0).trans c0; have d1 := (hb1.ce 1 hs0).trans c1; have d2 := (hb1.ce 2 hs0).trans c2; have hs1 : w.heap.size < w1.heap.size := L0c hs0 hb1.size; have HL1 := L0 (HW.out.below (HB0.out.trans (hb1.mono HB0.out.size))); clear hb1)
  have HI1 := L0 fun w' (hb : Below w1.heap.size w1 w') => Z34 d.lo HLO.out w' (HL1.out.below hb)
  have HI2 := L0 fun w' (hb : Below w1.heap.size w1 w') => Z34 d.hi HHI.out w' (HL1.out.below hb)
  clear c0 c1 c2
  have hA : d.name.length <= 140737488355328 := HS.out
  have hB : (jA d.lo).length <= 30 := HLL.out
  have hC : (jA d.hi).length <= 30 := HLH.out
  have s1 : ¬ (9223372036854775807 < 7 + d.name.length) := by omega
  have s2 : ¬ (9223372036854775807 < 7 + d.name.length + 1) := by omega
  have s3 : ¬ (9223372036854775807 < 7 + d.name.length + 1 + (jA d.lo).length) := by omega
  have s4 : ¬ (9223372036854775807 < 7 + d.name.length + 1 + (jA d.lo).length + 2) := by omega
  have s5 : ¬ (9223372036854775807 < 7 + d.name.length + 1 + (jA d.lo).length + 2 + (jA d.hi).length) := by omega
  have s6 : ¬ (9223372036854775807 < 7 + d.name.length + 1 + (jA d.lo).length + 2 + (jA d.hi).length + 1) := by omega
  clear hA hB hC
  refine wp_region_quiet_below (by kernel_rfl) (by kernel_rfl) ?_
  repeat (go_big_quiet_step (first | with_reducible exact Calls.inBelow HI1.out _ _ | with_reducible exact Calls.inBelow HI2.out _ _))
  refine wpQuiet_nil ?_
  intro _ hw'
  obtain ⟨⟨dq, osq⟩, hw''⟩ := hw'
  subst hw''
  go_wp2
  go_ret2
  refine ⟨?_, (HB0.out.trans (HB1.out.mono HB0.out.size)).trans ((below_regrown _ _ _).mono (HB0.out.trans (HB1.out.mono HB0.out.size)).size)⟩
  have e : (⟨#[100, 111, 109, 97, 105, 110, 32]⟩ : ByteArray) ++ ⟨d.name.toArray⟩ ++ ⟨#[32]⟩ ++ ⟨(jA d.lo).toArray⟩ ++ ⟨#[46, 46]⟩ ++ ⟨(jA d.hi).toArray⟩ ++ ⟨#[10]⟩ = ⟨(Y1z d).toArray⟩ := by
   apply ByteArray.ext
   simp [ByteArray.data_append, Y1z]
  exact congrArg (fun x => Ending.returned (.tuple #[.string x, .int .i64 0])) e
def Z2t (r : Rg) : Txt := if r.1 < r.2 then jA r.1 ++ ([46, 46] ++ jA r.2) else jA r.1
def Z0u (c : Cl) : Txt := if c.rs.length = 0 then [42] else (if c.no then [110, 111, 116, 32] else []) ++ jB (c.rs.map Z2t) [124]
theorem Z8w (r : Rg) (h1 : InI r.1) (h2 : InI r.2) : (Z2t r).length <= 62 := by
 have a := Z4a _ h1
 have b := Z4a _ h2
 unfold Z2t
 split <;> simp <;> omega
theorem Z6b {l : List Txt} {sep : Txt} {m : Nat} (h : ∀ x ∈ l, x.length + sep.length <= m) : (jB l sep).length <= m * l.length := by
 cases l with
 | nil => simp [Lib.join_nil]
 | cons x r =>
  rw [Lib.join_cons]
  have key : ∀ r : List Txt, (∀ x ∈ r, x.length + sep.length <= m) -> (jC sep r).length <= m * r.length := by
   intro r
   induction r with
   | nil => intro _; simp [jC]
   | cons y r ih =>
    intro h
    have h1 := ih fun x hx => h x (L3c _ hx)
    have h2 := h y (L3q ..)
    have e : jC sep (y :: r) = sep ++ y ++ jC sep r := by simp [jC]
    rw [e, L0h, L0h, L0r, Nat.mul_succ]
    omega
  have h1 := key r fun x hx => h x (L3c _ hx)
  have h2 := h x (L3q ..)
  rw [L0h, L0r, Nat.mul_succ]
  omega
theorem Z7z {S : Nat -> Prop} {v : Value} {l : List Txt} (sep : Txt) (w : World) (hl : (rSl rStr).rel w S [v] l) (hj : (jB l sep).length <= 140737488355328) :
  Calls Tryz.prog 41 #[v, .string ⟨sep.toArray⟩] w fun e w' => e = .returned (.string ⟨(jB l sep).toArray⟩) /\ Below w.heap.size w w' := by
 obtain ⟨A, c, rfl, hc, _, hb, hE⟩ := rSl.elems hl
 have hlen : l.length <= 8796093022208 := by simp only [rStr] at hb; omega
 rcases L2d l.length with h0 | h0
 ·obtain rfl : l = [] := L1f h0
  exact (Tryz.strings_Join_none A c ⟨sep.toArray⟩ w).mono fun e w' ⟨he, hw⟩ => ⟨he, hw ▸ L0m _ _⟩
 ·obtain ⟨b, off, s, rfl, _, hb, hx, _, _⟩ := hE.str h0
  have hm : (l.map fun s : Txt => (⟨s.toArray⟩ : ByteArray)).map (·.data.toList) = l := by
   rw [List.map_map]
   exact (List.map_congr_left fun s _ => by simp).trans (List.map_id l)
  have h := Tryz.strings_Join b off c (l.map fun s : Txt => (⟨s.toArray⟩ : ByteArray)) ⟨sep.toArray⟩ w (fun j x hx => by
   rw [L4d, Option.map_eq_some_iff] at hx
   obtain ⟨s', hs', rfl⟩ := hx
   have hlt : j < l.length := (L0n.1 hs').1
   obtain ⟨b', off', s'', hA, _, _, hx', _, hc'⟩ := hE.str hlt
   obtain ⟨rfl, rfl⟩ : b = b' /\ off = off' := by simpa using hA
   obtain rfl : s' = s'' := by rw [hs'] at hx'; exact L0s hx'
   exact hc') hb (by rw [L1g]; omega) (by rw [L1g]; exact hc) (by rw [hm]; exact hj)
  rw [L1g, hm] at h
  exact h
theorem Y3e : ElemOf Tryz.prog rStr 39 9 := .mk' Tryz.underlying39 (z := .string ⟨#[]⟩) (k := 1) (b := 16) (by kernel_rfl) rfl rfl rfl (by decide) (by decide)
theorem X1h (w : World) (S : Nat -> Prop) (r : Rg) (h1 : InI r.1) (h2 : InI r.2) (h : r.2 <= r.1) : rStr.rel w S [.string ⟨(jA r.1).toArray⟩] (Z2t r) := by
 have := Z8w r h1 h2
 refine ⟨?_, by omega⟩
 unfold Z2t
 rw [if_neg (Int.not_lt.2 h)]
abbrev crg2 (lo up : Int) : List Value := [.string ((⟨(jA lo).toArray⟩ : ByteArray) ++ ((⟨#[46, 46]⟩ : ByteArray) ++ ⟨(jA up).toArray⟩))]
theorem X1i (w : World) (S : Nat -> Prop) (r : Rg) (h1 : InI r.1) (h2 : InI r.2) (h : r.1 < r.2) : rStr.rel w S [.string ((⟨(jA r.1).toArray⟩ : ByteArray) ++ ((⟨#[46, 46]⟩ : ByteArray) ++ ⟨(jA r.2).toArray⟩))] (Z2t r) := by
 have := Z8w r h1 h2
 refine ⟨?_, by omega⟩
 unfold Z2t
 rw [if_pos h]
 have e : (⟨(jA r.1).toArray⟩ : ByteArray) ++ ((⟨#[46, 46]⟩ : ByteArray) ++ ⟨(jA r.2).toArray⟩) = ⟨(jA r.1 ++ ([46, 46] ++ jA r.2)).toArray⟩ := by
  apply ByteArray.ext
  simp [ByteArray.data_append]
 rw [e]
theorem Y8u {S : Nat -> Prop} {v : Value} (c : Cl) (w : World) (hl : (rSl rRg).rel w S [v] c.rs) (h4 : c.rs.length <= 4) (hw : LibW w) :
  Calls Tryz.prog 88 #[.agg #[.bool c.no, v]] w fun e w' => e = .returned (.string ⟨(Z0u c).toArray⟩) /\ Below w.heap.size w w' := by
 obtain ⟨A, cp, rfl, _, _, _, hE⟩ := rSl.elems hl
 obtain ⟨W0, e0, HB0, hs0, HW0⟩ : ∃ W0, w.alloc (.cells #[.bool c.no, .slice A c.rs.length cp] 72) = W0 /\ Hid (Below w.heap.size w W0) /\ w.heap.size < W0.heap.size /\ Hid (LibW W0) := ⟨_, rfl, L0 bA, by simp, L0 (hw.below bA)⟩; have c0 := ac0 e0; have c1 := ac1 e0
 have HE := L0 hE
 have H4 := L0 h4
 have HC0 := L0 c0
 clear hl hE hw
 go_enter Tryz.func88, Tryz.ntmps88
 by_cases h0 : c.rs.length = 0
 ·have hz : ((c.rs.length : Int) == 0) = true := by rw [h0]; rfl
  have HZ : Hid (Z0u c = [42]) := L0 (by unfold Z0u; rw [if_pos h0])
  clear h0 h4
  go_wp2
  go_ret
  exact ⟨by rw [HZ.out]; rfl, HB0.out⟩
 ·have hz : ((c.rs.length : Int) == 0) = false := beq_eq_false_iff_ne.2 (by omega)
  have HZ : Hid (Z0u c = (if c.no then [110, 111, 116, 32] else []) ++ jB (c.rs.map Z2t) [124]) := L0 (by unfold Z0u; rw [if_neg h0])
  clear h0
  go_wp2
  clear e0 hz
  go_loopw [3, 15] (fun o i wr => ∃ k : Nat, k <= c.rs.length /\ i = .int .i64 k /\ Hid (Own rStr 9 wr W0.heap.size (fun _ => False) o ((c.rs.take k).map Z2t)) /\ Hid (Below W0.heap.size W0 wr)) (fun _ i _ => c.rs.length - (intOf i).toNat)
  case atStart => exact ⟨0, L0o _, rfl, L0 (Own.nil _ _ _ _ _), L0 (L0m _ _)⟩
  case round =>
   obtain ⟨k, hk, rfl, HO, HB⟩ := hrel
   have HBR : Hid (Below w.heap.size w wr) := L0 (HB0.out.trans (HB.out.mono HB0.out.size))
   by_cases hlt : k < c.rs.length
   ·obtain ⟨bB, off, lo, up, rfl, _, hbB, hx, hlo, hup, g0, g1⟩ := HE.out.rg hlt
    rw [<- HBR.out.ce _ hbB] at g0 g1
    have hik : (k : Int) < (c.rs.length : Int) := by omega
    have HLO := L0 hlo
    have HUP := L0 hup
    have HTK : Hid ((c.rs.take k).map Z2t ++ [Z2t (lo, up)] = (c.rs.take (k + 1)).map Z2t) := L0 (by rw [L1k, hx]; simp)
    obtain ⟨W3, e3, HB3, hs3⟩ : ∃ W3, wr.alloc (.cells #[.int .i64 lo, .int .i64 up] 74) = W3 /\ Hid (Below W0.heap.size W0 W3) /\ Hid (wr.heap.size < W3.heap.size) := ⟨_, rfl, L0 (HB.out.alloc HB.out.size _), L0 (by simp)⟩; have j0 := ac0 e3; have j1 := ac1 e3
    have HO3 : Hid (Own rStr 9 W3 W0.heap.size (fun _ => False) u3 ((c.rs.take k).map Z2t)) := L0 (by rw [<- e3]; exact HO.out.alloc _)
    have HBY : Hid ((((c.rs.take k).map Z2t).length + 1) * rStr.bytes <= 140737488355328) := L0 (by rw [L1g, L1h]; have := H4.out; simp only [rStr]; omega)
    have hA : (jA lo).length <= 30 := Z4a _ hlo
    have hB : (jA up).length <= 30 := Z4a _ hup
    have s1 : ¬ (9223372036854775807 < 2 + (jA up).length) := by omega
    have s2 : ¬ (9223372036854775807 < (jA lo).length + (2 + (jA up).length)) := by omega
    clear hA hB hx hlo hup
    by_cases hgt : lo < up
    ·have HGT := L0 hgt
     go_wp2_with (first
      | (go_at_call 87; first
       | ((with_reducible refine (Z34 lo HLO.out W3 (HW0.out.below HB3.out)).mono ?_); rintro e w4 ⟨rfl, hb4⟩; have HB4 := L0 (HB3.out.trans (hb4.mono HB3.out.size)); have HO4 := L0 (HO3.out.below hb4); have i0 := (hb4.ce 0 hs3.out).trans j0; have i1 := (hb4.ce 1 hs3.out).trans j1; clear hb4)
       | ((with_reducible refine (Z34 up HUP.out w4 (HW0.out.below HB4.out)).mono ?_); rintro e w5 ⟨rfl, hb5⟩; have HB5 := L0 (HB4.out.trans (hb5.mono HB4.out.size)); have HO5 := L0 (HO4.out.below hb5); clear hb5))
      | (at_builtin; refine Z0a (R := rStr) (x := Z2t (lo, up)) Y3e rfl (.tmp 33) (.tmp 35) rfl rfl HO5.out (crg2 lo up) rfl rfl (fun _ => False) (X1i w5 (fun _ => False) (lo, up) HLO.out HUP.out HGT.out) (fun _ h => h.elim) HBY.out HB5.out.size ?_; intro v9 w9 hown9 hb9 _ _; have HB9 := L0 (HB5.out.trans hb9)))
     go_roundw
     case rel => exact ⟨k + 1, by omega, by go_num, L0 (by rw [<- HTK.out]; exact hown9), HB9⟩
     case measure => simp [intOf]; omega
    ·have HGT := L0 hgt
     go_wp2_with (first
      | (go_at_call 87; (with_reducible refine (Z34 lo HLO.out W3 (HW0.out.below HB3.out)).mono ?_); rintro e w4 ⟨rfl, hb4⟩; have HB4 := L0 (HB3.out.trans (hb4.mono HB3.out.size)); have HO4 := L0 (HO3.out.below hb4); have i0 := (hb4.ce 0 hs3.out).trans j0; have i1 := (hb4.ce 1 hs3.out).trans j1; clear hb4)
      | (at_builtin; refine Z0a (R := rStr) (x := Z2t (lo, up)) Y3e rfl (.tmp 33) (.tmp 35) rfl rfl HO4.out [.string ⟨(jA lo).toArray⟩] rfl rfl (fun _ => False) (X1h w4 (fun _ => False) (lo, up) HLO.out HUP.out HGT.out) (fun _ h => h.elim) HBY.out HB4.out.size ?_; intro v9 w9 hown9 hb9 _ _; have HB9 := L0 (HB4.out.trans hb9)))
     go_roundw
     case rel => exact ⟨k + 1, by omega, by go_num, L0 (by rw [<- HTK.out]; exact hown9), HB9⟩
     case measure => simp [intOf]; omega
   ·have hij : ¬ (k : Int) < (c.rs.length : Int) := by omega
    have HOF : Hid (Own rStr 9 wr W0.heap.size (fun _ => False) u3 (c.rs.map Z2t)) := L0 (by have := HO.out; rwa [L0k (by omega)] at this)
    have HJL : Hid ((jB (c.rs.map Z2t) [124]).length <= 252) := L0 (by
     have h := Z6b (l := c.rs.map Z2t) (sep := [124]) (m := 63) (fun x hx => by
      obtain ⟨r, hr, rfl⟩ := L3a.1 hx
      obtain ⟨i, hi, rfl⟩ := L1x hr
      obtain ⟨_, _, lo, up, _, _, _, hx, h1, h2, _⟩ := HE.out.rg hi
      rw [L0g hi] at hx
      have e := L0s hx
      rw [e]
      have := Z8w (lo, up) h1 h2
      simp only [L0p]
      omega)
     rw [L1g] at h
     have := H4.out
     omega)
    have k0 := (HB.out.ce 0 hs0).trans HC0.out
    have HS0 := L0 hs0
    have hj : (jB (c.rs.map Z2t) [124]).length <= 252 := HJL.out
    have s3 : ¬ (9223372036854775807 < 4 + (jB (c.rs.map Z2t) [124]).length) := by omega
    obtain ⟨jt, hjt⟩ : ∃ x, jB (c.rs.map Z2t) [124] = x := ⟨_, rfl⟩
    have HJN : Hid (Calls Tryz.prog 41 #[u3, .string ⟨#[124]⟩] wr fun e w' => e = .returned (.string ⟨jt.toArray⟩) /\ Below wr.heap.size wr w') := L0 (by have := Z7z [124] wr (HOF.out.rel (by decide)) (by have := HJL.out; omega); rw [hjt] at this; exact this)
    rw [hjt] at HZ s3
    obtain ⟨cn, hcn⟩ : ∃ x, c.no = x := ⟨_, rfl⟩
    rw [hcn] at HZ k0
    clear hj hjt hcn hlt hk
    cases cn
    ·go_wp2_with (go_at_call 41; (with_reducible refine HJN.out.mono ?_); rintro e w5 ⟨rfl, hb5⟩; have HB5 := L0 (HB.out.trans (hb5.mono HB.out.size)); have i0 := (hb5.ce 0 (L0c HS0.out HB.out.size)).trans k0; clear hb5)
     go_ret
     exact ⟨by rw [HZ.out]; rfl, HB0.out.trans (HB5.out.mono HB0.out.size)⟩
    ·go_wp2_with (go_at_call 41; (with_reducible refine HJN.out.mono ?_); rintro e w5 ⟨rfl, hb5⟩; have HB5 := L0 (HB.out.trans (hb5.mono HB.out.size)); have i0 := (hb5.ce 0 (L0c HS0.out HB.out.size)).trans k0; clear hb5)
     go_ret
     refine ⟨?_, HB0.out.trans (HB5.out.mono HB0.out.size)⟩
     rw [HZ.out]
     have e : (⟨#[110, 111, 116, 32]⟩ : ByteArray) ++ ⟨jt.toArray⟩ = ⟨(([110, 111, 116, 32] : Txt) ++ jt).toArray⟩ := Y6m [110, 111, 116, 32] jt
     exact congrArg (fun x => Ending.returned (.string x)) e
