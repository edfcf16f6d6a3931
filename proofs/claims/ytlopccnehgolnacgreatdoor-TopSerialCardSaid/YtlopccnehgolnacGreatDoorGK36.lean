import Derived.Test.YtlopccnehgolnacGreatDoorShTx
import Derived.Test.YtlopccnehgolnacGreatDoorGK33
import Derived.Test.YtlopccnehgolnacGreatDoorGK11
import Derived.Test.YtlopccnehgolnacGreatDoorJoin
import Derived.Test.YtlopccnehgolnacGreatDoorCopyT
import Derived.Test.YtlopccnehgolnacGreatDoorGK0
import Derived.Deep.DeepMust
import Derived.BigQuiet
import Derived.Laws.Concat
import Derived.Lib.ItoaLen
import Derived.Deep.QuietTactic
namespace Go.Proofs.YtlopccnehgolnacGreatDoor
open Go.RowKit Rb
open Go.Lib renaming itoa -> jA, join -> jB, joinTail -> jC
set_option maxRecDepth 100000
set_option maxHeartbeats 3200000
def Z49 (d : Dm) : Txt := [100, 111, 109, 97, 105, 110, 32] ++ d.name ++ [32] ++ jA d.lo ++ [46, 46] ++ jA d.hi ++ [10]
theorem Y8h (a b : Txt) : (⟨a.toArray⟩ : ByteArray) ++ ⟨b.toArray⟩ = ⟨(a ++ b).toArray⟩ := by
 apply ByteArray.ext
 simp [ByteArray.data_append]
theorem Z41 (n : Int) (h : InI n) : (jA n).length <= 30 := by
 have := Lib.itoa_length_le n h.1 h.2
 omega
def Z4x (d : Dm) : Txt × Int := if Z4d d then (Z49 d, 0) else ([], 1)
theorem Y6n (d : Dm) (w : World) (hs : d.name.length <= 140737488355328) (hlo : InI d.lo) (hhi : InI d.hi) (hw : LibW w) :
  Calls Tryz.prog 49 #[.agg #[sq d.name, .int .i64 d.lo, .int .i64 d.hi]] w fun e w' => e = .returned (.tuple #[.string ⟨(Z4x d).1.toArray⟩, .int .i64 (Z4x d).2]) /\ Bw w w' := by
 obtain ⟨W0, e0, HB0, hs0⟩ : ∃ W0, w.alloc (.cells #[sq d.name, .int .i64 d.lo, .int .i64 d.hi] 63) = W0 /\ Hid (Bw w W0) /\ w.heap.size < W0.heap.size := ⟨_, rfl, L0 bA, by simp⟩; have c0 := ac0 e0; have c1 := ac1 e0; have c2 := ac2 e0
 obtain ⟨g, hg⟩ : ∃ x, Z4d d = x := ⟨_, rfl⟩
 have HS := L0 hs
 have HGD : Hid (Calls Tryz.prog 77 #[.agg #[sq d.name, .int .i64 d.lo, .int .i64 d.hi]] W0 fun e w' => e = .returned (.bool g) /\ Bw W0 w') := L0 (hg ▸ Z4a d W0 hs)
 have HLL : Hid ((jA d.lo).length <= 30) := L0 (Z41 _ hlo)
 have HLH : Hid ((jA d.hi).length <= 30) := L0 (Z41 _ hhi)
 have HW := L0 hw
 have HLO := L0 hlo
 have HHI := L0 hhi
 have HDT : Hid (Z4x d = if g then (Z49 d, 0) else ([], 1)) := L0 (by unfold Z4x; rw [hg])
 clear hg hs hw hlo hhi
 rw [HDT.o]
 go_enter Tryz.func49, Tryz.ntmps49
 cases g
 ·go_wp2_with (go_at_call 77; (with_reducible refine HGD.o.mono ?_); rintro e w1 ⟨rfl, hb1⟩; have HB1 := L0 hb1; clear hb1)
  go_ret2
  exact ⟨rfl, HB0.o.trans (HB1.o.mono HB0.o.size)⟩
 go_wp2_with (go_at_call 77; (with_reducible refine HGD.o.mono ?_); rintro e w1 ⟨rfl, hb1⟩; have HB1 := L0 hb1; have d0 := (hb1.ce 0 hs0).trans c0; have d1 := (hb1.ce 1 hs0).trans c1; have d2 := (hb1.ce 2 hs0).trans c2; have hs1 : w.heap.size < w1.heap.size := L0c hs0 hb1.size; have HL1 := L0 (HW.o.below (HB0.o.trans (hb1.mono HB0.o.size))); clear hb1)
 have HI1 := L0 fun w' (hb : Bw w1 w') => Z4t d.lo HLO.o w' (HL1.o.below hb)
 have HI2 := L0 fun w' (hb : Bw w1 w') => Z4t d.hi HHI.o w' (HL1.o.below hb)
 clear c0 c1 c2
 have hA : d.name.length <= 140737488355328 := HS.o
 have hB : (jA d.lo).length <= 30 := HLL.o
 have hC : (jA d.hi).length <= 30 := HLH.o
 have s1 : ¬ (9223372036854775807 < 7 + d.name.length) := by omega
 have s2 : ¬ (9223372036854775807 < 7 + d.name.length + 1) := by omega
 have s3 : ¬ (9223372036854775807 < 7 + d.name.length + 1 + (jA d.lo).length) := by omega
 have s4 : ¬ (9223372036854775807 < 7 + d.name.length + 1 + (jA d.lo).length + 2) := by omega
 have s5 : ¬ (9223372036854775807 < 7 + d.name.length + 1 + (jA d.lo).length + 2 + (jA d.hi).length) := by omega
 have s6 : ¬ (9223372036854775807 < 7 + d.name.length + 1 + (jA d.lo).length + 2 + (jA d.hi).length + 1) := by omega
 clear hA hB hC
 refine wp_region_quiet_below (by kernel_rfl) (by kernel_rfl) ?_
 repeat (go_big_quiet_step (first | with_reducible exact Calls.inBelow HI1.o _ _ | with_reducible exact Calls.inBelow HI2.o _ _))
 refine wpQuiet_nil ?_
 intro _ hw'
 obtain ⟨⟨dq, osq⟩, hw''⟩ := hw'
 subst hw''
 go_wp2
 go_ret2
 refine ⟨?_, (HB0.o.trans (HB1.o.mono HB0.o.size)).trans ((below_regrown _ _ _).mono (HB0.o.trans (HB1.o.mono HB0.o.size)).size)⟩
 have e : (⟨#[100, 111, 109, 97, 105, 110, 32]⟩ : ByteArray) ++ ⟨d.name.toArray⟩ ++ ⟨#[32]⟩ ++ ⟨(jA d.lo).toArray⟩ ++ ⟨#[46, 46]⟩ ++ ⟨(jA d.hi).toArray⟩ ++ ⟨#[10]⟩ = ⟨(Z49 d).toArray⟩ := by
  apply ByteArray.ext
  simp [ByteArray.data_append, Z49]
 exact congrArg (fun x => Ending.returned (.tuple #[.string x, .int .i64 0])) e
def Z2f (r : Rg) : Txt := if r.1 < r.2 then jA r.1 ++ ([46, 46] ++ jA r.2) else jA r.1
def Z0t (c : Cl) : Txt := if c.rs.length = 0 then [42] else (if c.no then [110, 111, 116, 32] else []) ++ jB (c.rs.map Z2f) [124]
theorem Z93 (r : Rg) (h1 : InI r.1) (h2 : InI r.2) : (Z2f r).length <= 62 := by
 have a := Z41 _ h1
 have b := Z41 _ h2
 unfold Z2f
 split <;> simp <;> omega
theorem Z69 {l : List Txt} {sep : Txt} {m : Nat} (h : ∀ x ∈ l, x.length + sep.length <= m) : (jB l sep).length <= m * l.length := by
 cases l with
 | nil => simp [Lib.join_nil]
 | cons x r =>
  rw [Lib.join_cons]
  have key : ∀ r : List Txt, (∀ x ∈ r, x.length + sep.length <= m) -> (jC sep r).length <= m * r.length := by
   intro r
   induction r with
   | nil => intro _; simp [jC]
   | cons y r ih =>
    intro h
    have h1 := ih fun x hx => h x (L1w _ hx)
    have h2 := h y (L2d ..)
    have e : jC sep (y :: r) = sep ++ y ++ jC sep r := by simp [jC]
    rw [e, L0i, L0i, L0r, Nat.mul_succ]
    omega
  have h1 := key r fun x hx => h x (L1w _ hx)
  have h2 := h x (L2d ..)
  rw [L0i, L0r, Nat.mul_succ]
  omega
theorem Z86 {S : Nat -> Prop} {v : Value} {l : List Txt} (sep : Txt) (w : World) (hl : (rSl rStr).rel w S [v] l) (hj : (jB l sep).length <= 140737488355328) :
  Calls Tryz.prog 41 #[v, sq sep] w fun e w' => e = .returned (.string ⟨(jB l sep).toArray⟩) /\ Bw w w' := by
 obtain ⟨A, c, rfl, hc, _, hb, hE⟩ := rSl.elems hl
 have hlen : l.length <= 8796093022208 := by simp only [rStr] at hb; omega
 rcases L2p l.length with h0 | h0
 ·obtain rfl : l = [] := L1g h0
  exact (Tryz.strings_Join_none A c ⟨sep.toArray⟩ w).mono fun e w' ⟨he, hw⟩ => ⟨he, hw ▸ L0m _ _⟩
 obtain ⟨b, off, s, rfl, _, hb, hx, _, _⟩ := hE.str h0
 have hm : (l.map fun s : Txt => (⟨s.toArray⟩ : ByteArray)).map (·.data.toList) = l := by
  rw [List.map_map]
  exact (List.map_congr_left fun s _ => by simp).trans (List.map_id l)
 have h := Tryz.strings_Join b off c (l.map fun s : Txt => (⟨s.toArray⟩ : ByteArray)) ⟨sep.toArray⟩ w (fun j x hx => by
  rw [L4l, Option.map_eq_some_iff] at hx
  obtain ⟨s', hs', rfl⟩ := hx
  have hlt : j < l.length := (L0n.1 hs').1
  obtain ⟨b', off', s'', hA, _, _, hx', _, hc'⟩ := hE.str hlt
  obtain ⟨rfl, rfl⟩ : b = b' /\ off = off' := by simpa using hA
  obtain rfl : s' = s'' := by rw [hs'] at hx'; exact L0s hx'
  exact hc') hb (by rw [L1h]; omega) (by rw [L1h]; exact hc) (by rw [hm]; exact hj)
 rw [L1h, hm] at h
 exact h
theorem Y42 : ElemOf Tryz.prog rStr 39 9 := .mk' Tryz.underlying39 (z := .string ⟨#[]⟩) (k := 1) (b := 16) (by kernel_rfl) rfl rfl rfl (by decide) (by decide)
theorem X3r (w : World) (S : Nat -> Prop) (r : Rg) (h1 : InI r.1) (h2 : InI r.2) (h : r.2 <= r.1) : rStr.rel w S [.string ⟨(jA r.1).toArray⟩] (Z2f r) := by
 have := Z93 r h1 h2
 refine ⟨?_, by omega⟩
 unfold Z2f
 rw [if_neg (Int.not_lt.2 h)]
abbrev crg2 (lo up : Int) : List Value := [.string ((⟨(jA lo).toArray⟩ : ByteArray) ++ ((⟨#[46, 46]⟩ : ByteArray) ++ ⟨(jA up).toArray⟩))]
theorem X3s (w : World) (S : Nat -> Prop) (r : Rg) (h1 : InI r.1) (h2 : InI r.2) (h : r.1 < r.2) : rStr.rel w S [.string ((⟨(jA r.1).toArray⟩ : ByteArray) ++ ((⟨#[46, 46]⟩ : ByteArray) ++ ⟨(jA r.2).toArray⟩))] (Z2f r) := by
 have := Z93 r h1 h2
 refine ⟨?_, by omega⟩
 unfold Z2f
 rw [if_pos h]
 have e : (⟨(jA r.1).toArray⟩ : ByteArray) ++ ((⟨#[46, 46]⟩ : ByteArray) ++ ⟨(jA r.2).toArray⟩) = ⟨(jA r.1 ++ ([46, 46] ++ jA r.2)).toArray⟩ := by
  apply ByteArray.ext
  simp [ByteArray.data_append]
 rw [e]
theorem X0x {S : Nat -> Prop} {v : Value} (c : Cl) (w : World) (hl : (rSl rRg).rel w S [v] c.rs) (h4 : c.rs.length <= 4) (hw : LibW w) :
  Calls Tryz.prog 88 #[.agg #[.bool c.no, v]] w fun e w' => e = .returned (.string ⟨(Z0t c).toArray⟩) /\ Bw w w' := by
 obtain ⟨A, cp, rfl, _, _, _, hE⟩ := rSl.elems hl
 obtain ⟨W0, e0, HB0, hs0, HW0⟩ : ∃ W0, w.alloc (.cells #[.bool c.no, .slice A c.rs.length cp] 72) = W0 /\ Hid (Bw w W0) /\ w.heap.size < W0.heap.size /\ Hid (LibW W0) := ⟨_, rfl, L0 bA, by simp, L0 (hw.below bA)⟩; have c0 := ac0 e0; have c1 := ac1 e0
 have HE := L0 hE
 have H4 := L0 h4
 have HC0 := L0 c0
 clear hl hE hw
 go_enter Tryz.func88, Tryz.ntmps88
 by_cases h0 : c.rs.length = 0
 ·have hz : ((c.rs.length : Int) == 0) = true := by rw [h0]; rfl
  have HZ : Hid (Z0t c = [42]) := L0 (by unfold Z0t; rw [if_pos h0])
  clear h0 h4
  go_wp2
  go_ret
  exact ⟨by rw [HZ.o]; rfl, HB0.o⟩
 have hz : ((c.rs.length : Int) == 0) = false := beq_eq_false_iff_ne.2 (by omega)
 have HZ : Hid (Z0t c = (if c.no then [110, 111, 116, 32] else []) ++ jB (c.rs.map Z2f) [124]) := L0 (by unfold Z0t; rw [if_neg h0])
 clear h0
 go_wp2
 clear e0 hz
 go_loopw [3, 15] (fun o i wr => ∃ k : Nat, k <= c.rs.length /\ i = .int .i64 k /\ Hid (Own rStr 9 wr W0.heap.size (fun _ => False) o ((c.rs.take k).map Z2f)) /\ Hid (Bw W0 wr)) (fun _ i _ => c.rs.length - (intOf i).toNat)
 exact ⟨0, L0o _, rfl, L0 (Own.nil _ _ _ _ _), L0 (L0m _ _)⟩
 obtain ⟨k, hk, rfl, HO, HB⟩ := hrel
 have HBR : Hid (Bw w wr) := L0 (HB0.o.trans (HB.o.mono HB0.o.size))
 by_cases hlt : k < c.rs.length
 ·obtain ⟨bB, off, lo, up, rfl, _, hbB, hx, hlo, hup, g0, g1⟩ := HE.o.rg hlt
  rw [<- HBR.o.ce _ hbB] at g0 g1
  have hik : (k : Int) < c.rs.length := by omega
  have HLO := L0 hlo
  have HUP := L0 hup
  have HTK : Hid ((c.rs.take k).map Z2f ++ [Z2f (lo, up)] = (c.rs.take (k + 1)).map Z2f) := L0 (by rw [L1k, hx]; simp)
  obtain ⟨W3, e3, HB3, hs3⟩ : ∃ W3, wr.alloc (.cells #[.int .i64 lo, .int .i64 up] 74) = W3 /\ Hid (Bw W0 W3) /\ Hid (wr.heap.size < W3.heap.size) := ⟨_, rfl, L0 (HB.o.alloc HB.o.size _), L0 (by simp)⟩; have j0 := ac0 e3; have j1 := ac1 e3
  have HO3 : Hid (Own rStr 9 W3 W0.heap.size (fun _ => False) u3 ((c.rs.take k).map Z2f)) := L0 (by rw [<- e3]; exact HO.o.alloc _)
  have HBY : Hid ((((c.rs.take k).map Z2f).length + 1) * rStr.bytes <= 140737488355328) := L0 (by rw [L1h, L1i]; have := H4.o; simp only [rStr]; omega)
  have hA : (jA lo).length <= 30 := Z41 _ hlo
  have hB : (jA up).length <= 30 := Z41 _ hup
  have s1 : ¬ (9223372036854775807 < 2 + (jA up).length) := by omega
  have s2 : ¬ (9223372036854775807 < (jA lo).length + (2 + (jA up).length)) := by omega
  clear hA hB hx hlo hup
  by_cases hgt : lo < up
  ·have HGT := L0 hgt
   go_wp2_with (first
    | (go_at_call 87; first
     | ((with_reducible refine (Z4t lo HLO.o W3 (HW0.o.below HB3.o)).mono ?_); rintro e w4 ⟨rfl, hb4⟩; have HB4 := L0 (HB3.o.trans (hb4.mono HB3.o.size)); have HO4 := L0 (HO3.o.below hb4); have i0 := (hb4.ce 0 hs3.out).trans j0; have i1 := (hb4.ce 1 hs3.out).trans j1; clear hb4)
     | ((with_reducible refine (Z4t up HUP.o w4 (HW0.o.below HB4.o)).mono ?_); rintro e w5 ⟨rfl, hb5⟩; have HB5 := L0 (HB4.o.trans (hb5.mono HB4.o.size)); have HO5 := L0 (HO4.o.below hb5); clear hb5))
    | (at_builtin; refine Z0a (R := rStr) (x := Z2f (lo, up)) Y42 rfl (.tmp 33) (.tmp 35) rfl rfl HO5.o (crg2 lo up) rfl rfl (fun _ => False) (X3s w5 (fun _ => False) (lo, up) HLO.o HUP.o HGT.o) (fun _ h => h.elim) HBY.o HB5.o.size ?_; intro v9 w9 hown9 hb9 _ _; have HB9 := L0 (HB5.o.trans hb9)))
   go_roundw
   exact ⟨k + 1, by omega, by go_num, L0 (by rw [<- HTK.o]; exact hown9), HB9⟩
   simp [intOf]; omega
  have HGT := L0 hgt
  go_wp2_with (first
   | (go_at_call 87; (with_reducible refine (Z4t lo HLO.o W3 (HW0.o.below HB3.o)).mono ?_); rintro e w4 ⟨rfl, hb4⟩; have HB4 := L0 (HB3.o.trans (hb4.mono HB3.o.size)); have HO4 := L0 (HO3.o.below hb4); have i0 := (hb4.ce 0 hs3.out).trans j0; have i1 := (hb4.ce 1 hs3.out).trans j1; clear hb4)
   | (at_builtin; refine Z0a (R := rStr) (x := Z2f (lo, up)) Y42 rfl (.tmp 33) (.tmp 35) rfl rfl HO4.o [.string ⟨(jA lo).toArray⟩] rfl rfl (fun _ => False) (X3r w4 (fun _ => False) (lo, up) HLO.o HUP.o HGT.o) (fun _ h => h.elim) HBY.o HB4.o.size ?_; intro v9 w9 hown9 hb9 _ _; have HB9 := L0 (HB4.o.trans hb9)))
  go_roundw
  exact ⟨k + 1, by omega, by go_num, L0 (by rw [<- HTK.o]; exact hown9), HB9⟩
  simp [intOf]; omega
 have hij : ¬ (k : Int) < c.rs.length := by omega
 have HOF : Hid (Own rStr 9 wr W0.heap.size (fun _ => False) u3 (c.rs.map Z2f)) := L0 (by have := HO.o; rwa [L0l (by omega)] at this)
 have HJL : Hid ((jB (c.rs.map Z2f) [124]).length <= 252) := L0 (by
  have h := Z69 (l := c.rs.map Z2f) (sep := [124]) (m := 63) (fun x hx => by
   obtain ⟨r, hr, rfl⟩ := L1n.1 hx
   obtain ⟨i, hi, rfl⟩ := L1u hr
   obtain ⟨_, _, lo, up, _, _, _, hx, h1, h2, _⟩ := HE.o.rg hi
   rw [L0f hi] at hx
   have e := L0s hx
   rw [e]
   have := Z93 (lo, up) h1 h2
   simp only [L0p]
   omega)
  rw [L1h] at h
  have := H4.o
  omega)
 have k0 := (HB.o.ce 0 hs0).trans HC0.o
 have HS0 := L0 hs0
 have hj : (jB (c.rs.map Z2f) [124]).length <= 252 := HJL.o
 have s3 : ¬ (9223372036854775807 < 4 + (jB (c.rs.map Z2f) [124]).length) := by omega
 obtain ⟨jt, hjt⟩ : ∃ x, jB (c.rs.map Z2f) [124] = x := ⟨_, rfl⟩
 have HJN : Hid (Calls Tryz.prog 41 #[u3, .string ⟨#[124]⟩] wr fun e w' => e = .returned (sq jt) /\ Bw wr w') := L0 (by have := Z86 [124] wr (HOF.o.rel (by decide)) (by have := HJL.o; omega); rw [hjt] at this; exact this)
 rw [hjt] at HZ s3
 obtain ⟨cn, hcn⟩ : ∃ x, c.no = x := ⟨_, rfl⟩
 rw [hcn] at HZ k0
 clear hj hjt hcn hlt hk
 cases cn
 ·go_wp2_with (go_at_call 41; (with_reducible refine HJN.o.mono ?_); rintro e w5 ⟨rfl, hb5⟩; have HB5 := L0 (HB.o.trans (hb5.mono HB.o.size)); have i0 := (hb5.ce 0 (L0c HS0.o HB.o.size)).trans k0; clear hb5)
  go_ret
  exact ⟨by rw [HZ.o]; rfl, HB0.o.trans (HB5.o.mono HB0.o.size)⟩
 go_wp2_with (go_at_call 41; (with_reducible refine HJN.o.mono ?_); rintro e w5 ⟨rfl, hb5⟩; have HB5 := L0 (HB.o.trans (hb5.mono HB.o.size)); have i0 := (hb5.ce 0 (L0c HS0.o HB.o.size)).trans k0; clear hb5)
 go_ret
 refine ⟨?_, HB0.o.trans (HB5.o.mono HB0.o.size)⟩
 rw [HZ.o]
 have e : (⟨#[110, 111, 116, 32]⟩ : ByteArray) ++ ⟨jt.toArray⟩ = ⟨(([110, 111, 116, 32] : Txt) ++ jt).toArray⟩ := Y8h [110, 111, 116, 32] jt
 exact congrArg (fun x => Ending.returned (.string x)) e
