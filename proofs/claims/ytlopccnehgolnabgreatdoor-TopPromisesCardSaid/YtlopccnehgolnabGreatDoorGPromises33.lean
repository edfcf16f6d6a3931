import Derived.Test.YtlopccnehgolnabGreatDoorCheck
import Derived.Test.YtlopccnehgolnabGreatDoorSays
import Derived.Deep.DeepMust
import Derived.Test.YtlopccnehgolnabGreatDoorGPromises11
import Derived.Test.YtlopccnehgolnabGreatDoorGPromises8
import Derived.Test.YtlopccnehgolnabGreatDoorGPromises19
import Derived.Test.YtlopccnehgolnabGreatDoorGapMath
namespace Go.Proofs.YtlopccnehgolnabGreatDoor
open Go.RowKit Rb
open Go.Lib renaming hid -> hI
open Nat renaming lt_of_lt_of_le -> nL, le_trans -> jD, zero_le -> jE
open List renaming length_cons -> jA, length_map -> jB, take_of_length_le -> jC
open Rd renaming below -> jF
open Go.World renaming cell?_alloc_lt -> jG, cell?_setCell_other -> jH
set_option maxRecDepth 100000
set_option maxHeartbeats 1600000
def rAn : Rd An where
 k := 3
 bytes := 32
 rel _ _ cs x := cs = [.string ⟨x.name.toArray⟩, .bool x.found, .int .i64 x.n] /\ x.name.length <= 140737488355328 /\ InI x.n
 len h := by obtain ⟨rfl, _⟩ := h; rfl
 keep h _ := h
 mono h _ := h
 one h u hu := by
  obtain ⟨rfl, _⟩ := h
  simp at hu
  rcases hu with rfl | rfl | rfl <;> rfl
theorem X4l : ElemOf Tryz.prog rAn 35 46 := .mk' Tryz.underlying35 (z := .agg #[.string ⟨#[]⟩, .bool false, .int .i64 0]) (k := 3) (b := 32) (by kernel_rfl) rfl rfl rfl (by decide) (by decide)
def putA (m : Txt -> Option An) (s : Txt) (a : An) : Txt -> Option An := fun t => if t = s then some a else m t
theorem MapA.put {w : World} {b n : Nat} {m : Txt -> Option An} {s : Txt} {a : An} (h : SMap Tryz.prog 9 w b n (putM (fun s => (m s).map ansV) s (ansV a))) (hm : ∀ s, InI (atM m s).n) (ha : InI a.n) : MapA w b n (putA m s a) := by
 refine ⟨h.congr fun t => ?_, fun t => ?_⟩
 ·unfold putM putA
  split <;> rfl
 ·have := hm t
  unfold atM putA at *
  split
  ·exact ha
  ·exact this
theorem MapA.made (w : World) : MapA (w.alloc (.map #[] 0)) w.heap.size 0 (fun _ => none) := ⟨SMap.made _ _ _, fun _ => by show InI 0; unfold InI; decide⟩
def Z13 (l : List Dm) (ns : List Int) : Nat -> (Txt -> Option An)
 | 0 => fun _ => none
 | k + 1 => match l[k]? with | some d => putA (Z13 l ns k) d.name ⟨[], true, (ns[k]?).getD 0⟩ | none => Z13 l ns k
def inOk (l : List Dm) (ns : List Int) (k : Nat) : Bool := match l[k]? with | some d => decide (d.lo <= (ns[k]?).getD 0) && decide ((ns[k]?).getD 0 <= d.hi) | none => true
def Z99 (l : List Dm) (ns : List Int) : Bool := (List.range l.length).all (inOk l ns)
theorem Y5p {l : List Dm} {ns : List Int} {k : Nat} (hk : k < l.length) (h : inOk l ns k = false) : Z99 l ns = false := Z3j hk h
def X4g (b : Bk) (m : Txt -> Option An) (s : Txt) : Txt -> Option An := putA m s (Z47 m (tbOf (findT b.tabs s)))
def Z0y (b : Bk) (ns : List Int) (o : List Txt) (k : Nat) : Txt -> Option An := (o.take k).foldl (X4g b) (Z13 b.doms ns b.doms.length)
def Z2n (b : Bk) (ns : List Int) (o : List Txt) : Txt -> Option An := o.foldl (X4g b) (Z13 b.doms ns b.doms.length)
def Z2m (m : Txt -> Option An) (t : Tb) : An := ⟨t.name, (atM m t.name).found, (atM m t.name).n⟩
def askB (b : Bk) (ns : List Int) : List An × Int :=
 if (Z0g b).2.2 ≠ 0 then ([], (Z0g b).2.2)
 else if ns.length ≠ b.doms.length then ([], 1)
 else if Z99 b.doms ns = false then ([], 2)
 else (b.tabs.map (Z2m (Z2n b ns ((Z2j b).getD []))), 0)
theorem Z3y {b : Bk} {ns : List Int} {o : List Txt} {k : Nat} {s : Txt} (h : o[k]? = some s) : Z0y b ns o (k + 1) = putA (Z0y b ns o k) s (Z47 (Z0y b ns o k) (tbOf (findT b.tabs s))) := by
 unfold Z0y
 rw [Z0b h, List.foldl_append]
 rfl
theorem X1j {m : Txt -> Option An} {t : Tb} (h : ∀ ns, InI (Z03 t ns).1) : InI (Z47 m t).n := by
 unfold Z47
 split
 ·show InI 0; unfold InI; decide
 ·exact h _
theorem Y22 {b : Bk} (h : (Z0g b).2.2 = 0) : b.doms.length <= 4 /\ b.tabs.length <= 4 := by
 unfold Z0g at h
 split at h
 ·cases h
 ·omega
theorem Z81 {b : Bk} (h : (Z0g b).2.2 = 0) : Y0m b.doms = true /\ Z7e b = true := by
 unfold Z0g at h
 split at h
 ·cases h
 ·split at h
  ·cases h
  ·split at h
   ·cases h
   ·rename_i h1 h2
    exact ⟨by simpa using h1, by simpa using h2⟩
theorem Z8l {S : Nat -> Prop} {bs : List Value} {b : Bk} {nm : Txt} {l : List Int} {r : Int} (w : World) (hl : rBk.rel w S bs b) (h : Z0g b = (nm, l, r)) :
  Calls Tryz.prog 28 #[.agg bs.toArray] w fun e w' => ∃ A c S', e = .returned (.tuple #[.string ⟨nm.toArray⟩, .slice A l.length c, .int .i64 r]) /\ (rSl rInt).rel w' (New w S') [.slice A l.length c] l /\ Below w.heap.size w w' := by
 refine (Y7d w hl).mono ?_
 rintro e w' ⟨z, S', he, hz, hb⟩
 rw [h] at he hz
 obtain ⟨A, c, rfl, _⟩ := rSl.elems hz
 exact ⟨A, c, S', he, hz, hb⟩
theorem X3b {S : Nat -> Prop} {cs : List Value} {t : Tb} {mb mn : Nat} {m : Txt -> Option An} {a : An} (w : World) (hl : rTb.rel w S cs t) (hm : MapA w mb mn m) (h : Z47 m t = a) :
  Calls Tryz.prog 41 #[.agg cs.toArray, .map (some mb)] w fun e w' => e = .returned (.agg #[.string ⟨a.name.toArray⟩, .bool a.found, .int .i64 a.n]) /\ Below w.heap.size w w' := h ▸ X1l w hl hm
theorem X4k {B : Nat} {a w : World} (h : Below B a w) : Below B a w.drew := ⟨h.os, h.tape, h.output, h.size, h.block⟩
theorem Y6j {b : Bk} (h : Z7e b = true) {t : Tb} (ht : t ∈ b.tabs) : Z0s t = true := Z3r h t ht
theorem Y04 {pol : Int} : ∀ (l : List Int) (n B : Int), 0 <= B -> -B <= n -> n <= B -> (∀ x ∈ l, -1000000 <= x /\ x <= 1000000) -> 1000000 <= B -> -(B + 1000000 * l.length) <= (Z0e pol n l).1 /\ (Z0e pol n l).1 <= B + 1000000 * l.length
 | [], n, B, h0, h1, h2, _, _ => by simp only [Z0e, List.length_nil]; omega
 | o :: t, n, B, h0, h1, h2, h, hB => by
  have ho := h o (by simp)
  have ht : ∀ x ∈ t, -1000000 <= x /\ x <= 1000000 := fun x hx => h x (by simp [hx])
  have k := fun n' (a1 : -(B + 1000000) <= n') (a2 : n' <= B + 1000000) => Y04 (pol := pol) t n' (B + 1000000) (by omega) (by omega) (by omega) ht (by omega)
  rw [jA]
  unfold Z0e
  split
  ·dsimp only; omega
  ·split
   ·split
    ·dsimp only; omega
    ·have := k n (by omega) (by omega); push_cast; omega
   ·split
    ·have := k (min n o) (by omega) (by omega); push_cast; omega
    ·split
     ·have := k (max n o) (by omega) (by omega); push_cast; omega
     ·split
      ·have := k (n + o) (by omega) (by omega); push_cast; omega
      ·have := k n (by omega) (by omega); push_cast; omega
theorem Y9g (ms : List Int) : InI (Z03 (tbOf none) ms).1 := by
 unfold Z03
 rw [if_neg (fun h => by have := (Z0z h.1).1; simp [tbOf, tb0] at this)]
 show InI 0; unfold InI; decide
theorem X1k {t : Tb} (hg : Z0s t = true) (ms : List Int) : InI (Z03 t ms).1 := by
 have h6 := Z0z hg
 have hml : (Z1p t.rules ms).length <= 6 := jD (Z4y _ _ _) h6.2.2.2.2.2
 unfold Z03
 split
 ·unfold sayL
  split
  ·show InI _; unfold InI; omega
  ·split
   ·show InI 0; unfold InI; decide
   ·rename_i o os he
    have hall : ∀ x ∈ o :: os, -1000000 <= x /\ x <= 1000000 := by
     rw [<- he]
     intro x hx
     rw [List.mem_map] at hx
     obtain ⟨i, hi, rfl⟩ := hx
     obtain ⟨k, rfl, hk⟩ := Z9j hi
     unfold Z5j
     rw [Int.toNat_natCast, List.getElem?_eq_getElem hk]
     exact Z6z hg (List.getElem_mem hk)
    have hl : (o :: os).length <= 6 := by rw [<- he, jB]; exact hml
    rw [jA] at hl
    have := Y04 (pol := t.pol) os o 1000000 (by omega) (hall o (by simp)).1 (hall o (by simp)).2 (fun x hx => hall x (by simp [hx])) (by omega)
    show InI _; unfold InI; omega
 ·show InI 0; unfold InI; decide
theorem Own.flat_set {α : Type} {R : Rd α} {e : TypeId} {w : World} {base : Nat} {S0 : Nat -> Prop} {v : Value} {xs : List α} (h : Own R e w base S0 v xs) (hF : Flat R) {a : Addr} (ha : ∀ g, v.ownBlock = some g -> g ≠ a.block) (u : Value) : Own R e (w.setCell a u) base (fun _ => False) v xs := by
 obtain ⟨S, ⟨cells, h1, h2, h3, h4⟩, h5⟩ := h.flat hF
 have hg : w.grownBy (w.setCell a u) (some a.block) := ⟨rfl, rfl, rfl, by simp [World.setCell], fun i _ hi => Below.heap_setCell w a u i (fun e => hi (by rw [e]))⟩
 refine ⟨fun _ => False, ⟨cells, h1.kept hg ?_, fun _ _ h => h, h3, fun i x hx => hF _ _ _ _ _ _ (h4 i x hx)⟩, fun _ h => h.elim⟩
 cases hv : v.ownBlock with
 | none => exact .inl rfl
 | some g => exact .inr (fun e => ha g hv (by injection e))
def Y73 (b : Bk) (ns : List Int) (w : World) (e : Ending) (w' : World) : Prop := ∃ z S', e = .returned (.tuple #[z, .int .i64 (askB b ns).2]) /\ (rSl rAn).rel w' (New w S') [z] (askB b ns).1 /\ Below w.heap.size w w'
theorem X2s {S : Nat -> Prop} (w : World) : (rSl rAn).rel w S [.slice none 0 0] [] := ⟨none, 0, rfl, Nat.le_refl _, by decide, by simp, fun i x hx => by simp at hx⟩
theorem X18 {S T : Nat -> Prop} {bs : List Value} {b : Bk} {u : Value} {ns : List Int} (w : World) (hl : rBk.rel w S bs b) (hn : (rSl rInt).rel w T [u] ns) :
  Calls Tryz.prog 12 #[.agg bs.toArray, u] w fun e w' => Y73 b ns w e w' := by
 have hl' := hl
 obtain ⟨v0, u0, rfl, hd, htb⟩ := hl
 obtain ⟨A, c, rfl, _, _, hbd, hD⟩ := rSl.elems hd
 obtain ⟨B, d, rfl, _, _, hbt, hF⟩ := rSl.elems htb
 obtain ⟨C, g, rfl, _, _, hbn, hN⟩ := rSl.elems hn
 have hld : b.doms.length <= 4398046511104 := by simp only [rDm] at hbd; omega
 have hlt5 : b.tabs.length <= 1759218604441 := by simp only [rTb] at hbt; omega
 have hln : ns.length <= 17592186044416 := by simp only [rInt] at hbn; omega
 obtain ⟨W0, e0, HB0, hs0, HBK⟩ : ∃ W0, w.alloc (.cells #[.slice A b.doms.length c, .slice B b.tabs.length d] 33) = W0 /\ Hid (Below w.heap.size w W0) /\ w.heap.size < W0.heap.size /\ Hid (rBk.rel W0 S [.slice A b.doms.length c, .slice B b.tabs.length d] b) := ⟨_, rfl, hI bA, by simp, hI (Rd.alloc hl' _)⟩; have c0 := ac0 e0; have c1 := ac1 e0
 have HD := hI hD
 have HF := hI hF
 have HN := hI hN
 clear hl' hd htb hbd hbt hbn hn hD hF hN
 have HZ : Hid (∀ (e : Ending) (w' : World) (r : Int), askB b ns = ([], r) -> e = .returned (.tuple #[.slice none 0 0, .int .i64 r]) -> Below W0.heap.size W0 w' -> Y73 b ns w e w') := hI (by
  rintro e w' r h rfl h2
  exact ⟨_, fun _ => True, by rw [h], by rw [h]; exact X2s _, HB0.out.trans (h2.mono HB0.out.size)⟩)
 obtain ⟨⟨nm, at_, er⟩, hck⟩ : ∃ x, Z0g b = x := ⟨_, rfl⟩
 have HCK := hI hck
 have hmm := @run_makeMap Tryz.prog
 go_enter Tryz.func12, Tryz.ntmps12
 by_cases her : er = 0
 ·subst her
  have HC0 : Hid ((Z0g b).2.2 = 0) := hI (by rw [hck])
  have HL := hI (Y22 HC0.out)
  have HTO := hI (Z81 HC0.out)
  have HA1 : Hid (askB b ns = if ns.length ≠ b.doms.length then ([], 1) else if Z99 b.doms ns = false then ([], 2) else (b.tabs.map (Z2m (Z2n b ns ((Z2j b).getD []))), 0)) := hI (by unfold askB; rw [if_neg (by rw [HC0.out]; simp)])
  clear hck
  by_cases hne : ns.length = b.doms.length
  ·have HNE := hI hne
   have hq1 : ((ns.length : Int) == (b.doms.length : Int)) = true := by simp [hne]
   have hq2 : (ns.length == b.doms.length) = true := by simp [hne]
   have HA2 := hI (HA1.out.trans (if_neg (by rw [hne]; simp)))
   clear hne HA1
   go_wp2_with (go_at_call 28; (with_reducible refine (Z8l W0 HBK.out HCK.out).mono ?_); rintro e w1 ⟨Ak, ck, Sk, rfl, _, hb1⟩; have HB1 := hI hb1; have d0 := (hb1.ce 0 hs0).trans c0; have d1 := (hb1.ce 1 hs0).trans c1; clear hb1; obtain ⟨WM, eM, HBM, HMA, m0, HMb⟩ : ∃ WM, w1.alloc (.map #[] 0) = WM /\ Hid (Below W0.heap.size W0 WM) /\ Hid (MapA WM w1.heap.size 0 (Z13 b.doms ns 0)) /\ WM.cell? ⟨w.heap.size, 0, none⟩ = some (.slice A b.doms.length c) /\ Hid (W0.heap.size <= w1.heap.size) := ⟨_, rfl, hI (HB1.out.alloc HB1.out.size _), hI (MapA.made _), (jG _ _ _ (nL hs0 HB1.out.size)).trans d0, hI HB1.out.size⟩)
   clear d0 d1 m0 eM hq1 hq2 e0
   generalize hmb : w1.heap.size = mb at *
   clear hmb
   go_loopw [41] (fun i wr => ∃ (k n : Nat), k <= b.doms.length /\ i = .int .i64 k /\ Hid (MapA wr mb n (Z13 b.doms ns k)) /\ Hid (n <= k) /\ Hid (∀ j, j < k -> inOk b.doms ns j = true) /\ Hid (Below W0.heap.size W0 wr)) (fun i _ => b.doms.length - (intOf i).toNat)
   case atStart => exact ⟨0, 0, jE _, rfl, HMA, hI (Nat.le_refl _), hI (by omega), HBM⟩
   case round =>
    obtain ⟨k, n, hk, rfl, HM, Hn, HK, HB⟩ := hrel
    by_cases hlt : k < b.doms.length
    ·obtain ⟨bB, off, x, rfl, hbB, hx, ⟨hxl, hxi⟩, g0, g1, g2⟩ := HD.out.dm hlt
     obtain ⟨q, off', v, rfl, _, hq, hy, hyi, h3⟩ := HN.out.intAt (show k < ns.length by rw [HNE.out]; exact hlt)
     have hbw := HB0.out.trans (HB.out.mono HB0.out.size)
     rw [<- hbw.ce _ hbB] at g0 g1 g2
     rw [<- hbw.ce _ hq] at h3
     have hik : (k : Int) < (b.doms.length : Int) := by omega
     have hin : (k : Int) < (ns.length : Int) := by rw [HNE.out]; exact hik
     have HIK : Hid (inOk b.doms ns k = (decide (x.lo <= v) && decide (v <= x.hi))) := hI (by unfold inOk; rw [hx, hy]; rfl)
     have HKN : Hid (Z13 b.doms ns (k + 1) = putA (Z13 b.doms ns k) x.name ⟨[], true, v⟩) := hI (by rw [Z13, hx, hy]; rfl)
     obtain ⟨W3, e3, HB3, h4, hqs, hws, HM3⟩ : ∃ W3, wr.alloc (.cells #[.string ⟨x.name.toArray⟩, .int .i64 x.lo, .int .i64 x.hi] 44) = W3 /\ Hid (Below W0.heap.size W0 W3) /\ W3.cell? ⟨q, off' + k, none⟩ = some (.int .i64 v) /\ q < W3.heap.size /\ wr.heap.size < W3.heap.size /\ Hid (MapA W3 mb n (Z13 b.doms ns k)) := ⟨_, rfl, hI (HB.out.alloc HB.out.size _), (jG _ _ _ (nL hq hbw.size)).trans h3, nL (nL hq hbw.size) (by simp), by simp, hI (HM.out.alloc _)⟩; have j0 := ac0 e3; have j1 := ac1 e3; have j2 := ac2 e3
     have HYI := hI hyi
     clear hx hy hyi hbw hq
     by_cases h1 : v < x.lo
     ·have hd1 : decide (v < x.lo) = true := decide_eq_true h1
      have HC : Hid (askB b ns = ([], 2)) := hI (by rw [HA2.out, if_pos (Y5p hlt (by rw [HIK.out, decide_eq_false (by omega)]; rfl))])
      clear h1
      go_wp2
      refine wp_region_quiet_below (by kernel_rfl) (by kernel_rfl) ?_
      repeat (go_big_quiet_step (fail))
      refine wpQuiet_nil ?_
      intro _ hw'
      obtain ⟨⟨dq, osq⟩, hw''⟩ := hw'
      subst hw''
      go_wp2
      go_ret2
      exact HZ.out _ _ _ HC.out rfl (HB3.out.trans ((below_regrown _ _ _).mono HB3.out.size))
     ·by_cases h2 : x.hi < v
      ·have hd1 : decide (v < x.lo) = false := decide_eq_false h1
       have hd2 : decide (x.hi < v) = true := decide_eq_true h2
       have HC : Hid (askB b ns = ([], 2)) := hI (by rw [HA2.out, if_pos (Y5p hlt (by rw [HIK.out, decide_eq_false (show ¬ v <= x.hi by omega)]; simp))])
       clear h1 h2
       go_wp2
       refine wp_region_quiet_below (by kernel_rfl) (by kernel_rfl) ?_
       repeat (go_big_quiet_step (fail))
       refine wpQuiet_nil ?_
       intro _ hw'
       obtain ⟨⟨dq, osq⟩, hw''⟩ := hw'
       subst hw''
       go_wp2
       go_ret2
       exact HZ.out _ _ _ HC.out rfl (HB3.out.trans ((below_regrown _ _ _).mono HB3.out.size))
      ·have hd1 : decide (v < x.lo) = false := decide_eq_false h1
       have hd2 : decide (x.hi < v) = false := decide_eq_false h2
       have HS := hI (Z5o HK.out (by rw [HIK.out, decide_eq_true (show x.lo <= v by omega), decide_eq_true (show v <= x.hi by omega)]; rfl))
       clear h1 h2
       go_wp2
       refine wp_region_quiet_below (by kernel_rfl) (by kernel_rfl) ?_
       repeat (go_big_quiet_step (fail))
       refine wpQuiet_nil ?_
       intro _ hw'
       obtain ⟨⟨dq, osq⟩, hw''⟩ := hw'
       subst hw''
       obtain ⟨W4, e4, HB4, a0, a4, HM4⟩ : ∃ W4, Go.Sort.grow (redrawn W3 dq) osq = W4 /\ Hid (Below W0.heap.size W0 W4) /\ W4.cell? ⟨wr.heap.size, 0, none⟩ = some (.string ⟨x.name.toArray⟩) /\ W4.cell? ⟨q, off' + k, none⟩ = some (.int .i64 v) /\ Hid (MapA W4 mb n (Z13 b.doms ns k)) :=
        ⟨_, rfl, hI (HB3.out.trans ((below_regrown _ _ _).mono HB3.out.size)), ((below_regrown W3 dq osq).ce 0 hws).trans j0, ((below_regrown W3 dq osq).ce _ hqs).trans h4, hI (HM3.out.below (below_regrown _ _ _))⟩
       obtain ⟨W5, e5, hM5, hb5, hg5⟩ := SMap.update (B := W0.heap.size) (t := 87) HM4.out.1.drew Tryz.underlying87 Tryz.underlying9 (by have := Hn.out; unfold maxLen; omega) hxl (.agg #[.string ⟨#[]⟩, .bool true, .int .i64 v]) HMb.out
       have HM5 : Hid (MapA W5 mb (n + 1) (Z13 b.doms ns (k + 1))) := hI (by rw [HKN.out]; exact MapA.put hM5 HM4.out.2 HYI.out)
       have HB5 := hI ((X4k HB4.out).trans hb5)
       clear hM5 hb5 hg5
       rw [e4]
       go_wp2
       go_region
       all_goals
        go_wp2
        go_roundw
        case rel => exact ⟨k + 1, n + 1, by omega, by go_num, HM5, hI (by have := Hn.out; omega), HS, HB5⟩
        case measure => simp [intOf]; omega
    ·have HIO : Hid (Z99 b.doms ns = true) := hI (Z4a hlt HK.out)
     have HA3 := hI (HA2.out.trans (if_neg (by rw [HIO.out]; decide)))
     obtain rfl : k = b.doms.length := by omega
     clear HK HA2 hk
     obtain ⟨w2, hw2⟩ : ∃ x, x = wr := ⟨_, rfl⟩
     subst hw2
     have f0 := (HB.out.ce 0 hs0).trans c0
     have f1 := (HB.out.ce 1 hs0).trans c1
     have HBK2 := hI (jF HBK.out HB.out)
     obtain ⟨oo, hoo⟩ : ∃ o, Z2j b = o := ⟨_, rfl⟩
     have HOO := hI hoo
     obtain ⟨o, ho⟩ : ∃ x, oo.getD [] = x := ⟨_, rfl⟩
     have HO := hI ho
     clear hoo ho
     go_wp2_with (go_at_call 34; (with_reducible refine (Y1l w2 HBK2.out HOO.out).mono ?_); rintro e wo ⟨zo, rfl, hzo, hbo⟩; obtain ⟨HB9, HM9, HR9⟩ : Hid (Below W0.heap.size W0 wo) /\ Hid (MapA wo mb n (Z13 b.doms ns b.doms.length)) /\ Hid ((rSl rStr).rel wo (Up (fun _ => False) w2.heap.size) [zo] o) := ⟨hI (HB.out.trans (hbo.mono HB.out.size)), hI (HM.out.below hbo), hI (by rw [<- HO.out]; exact hzo)⟩; clear hzo hbo; have hro := HR9.out; obtain ⟨Ao, co, rfl, _, _, hbyo, _⟩ := rSl.elems hro; clear hro)
     clear f0 f1 hlt
     have hlo : o.length <= 8796093022208 := by simp only [rStr] at hbyo; omega
     clear hbyo
     have Hmb := hI (show mb < w2.heap.size from HM.out.1.lt)
     generalize hN2 : w2.heap.size = N2 at *
     clear hN2
     go_loopw [78] (fun i wr => ∃ (k n : Nat), k <= o.length /\ i = .int .i64 k /\ Hid (MapA wr mb n (Z0y b ns o k)) /\ Hid (n <= k + 4) /\ Hid ((rSl rStr).rel wr (Up (fun _ => False) N2) [.slice Ao o.length co] o) /\ Hid (Below W0.heap.size W0 wr)) (fun i _ => o.length - (intOf i).toNat)
     case atStart => exact ⟨0, n, jE _, rfl, HM9, hI (by have := Hn.out; have := HL.out.1; omega), HR9, HB9⟩
     case round =>
      obtain ⟨k, n', hk, rfl, HM, Hn', HR, HB⟩ := hrel
      by_cases hlt : k < o.length
      ·obtain ⟨_, _, hA0, _, _, _, hE⟩ := rSl.elems HR.out
       obtain ⟨rfl, rfl⟩ : Ao = _ /\ co = _ := by injection hA0 with h1 h2 h3; exact ⟨h1, h3⟩
       obtain ⟨q, off, s, rfl, hSq, hq, hx, hxl, g0⟩ := hE.str hlt
       have hik : (k : Int) < (o.length : Int) := by omega
       have HST := hI (Z3y (b := b) (ns := ns) hx)
       obtain ⟨tb, htb⟩ : ∃ x, tbOf (findT b.tabs s) = x := ⟨_, rfl⟩
       obtain ⟨ft, hft⟩ : ∃ x, (findT b.tabs s).isSome = x := ⟨_, rfl⟩
       have HT := hI htb
       have HF2 := hI hft
       obtain ⟨a, ha⟩ : ∃ a, Z47 (Z0y b ns o k) tb = a := ⟨_, rfl⟩
       have HSA := hI ha
       have HAI : Hid (InI a.n) := hI (by
        rw [<- ha]
        refine X1j fun ms => ?_
        rw [<- htb]
        cases hf : findT b.tabs s with
        | none => exact Y9g _
        | some t => exact X1k (Y6j HTO.out.2 (List.mem_of_find?_eq_some hf)) _)
       have f0 := (HB.out.ce 0 hs0).trans c0
       have f1 := (HB.out.ce 1 hs0).trans c1
       have HBK2 := hI (jF HBK.out HB.out)
       clear hx hE hA0 htb hft ha
       go_wp2_with (first | (go_at_call 40; (with_reducible refine (Z23 wr HBK2.out hxl HT.out HF2.out).mono ?_); rintro e w4 ⟨A5, c5, B5, d5, S5, rfl, hr5, hb4⟩; obtain ⟨W5, e5, HB5, HR5, HM5, HO5⟩ : ∃ W5, w4.alloc (.cells #[.string ⟨tb.name.toArray⟩, .int .i64 tb.pol, .bool tb.comp, .slice A5 tb.ins.length c5, .slice B5 tb.rules.length d5] 42) = W5 /\ Hid (Below W0.heap.size W0 W5) /\ Hid (rTb.rel W5 S5 [.string ⟨tb.name.toArray⟩, .int .i64 tb.pol, .bool tb.comp, .slice A5 tb.ins.length c5, .slice B5 tb.rules.length d5] tb) /\ Hid (MapA W5 mb n' (Z0y b ns o k)) /\ Hid ((rSl rStr).rel W5 (Up (fun _ => False) N2) [.slice (some ⟨q, off, none⟩) o.length co] o) := ⟨_, rfl, hI ((HB.out.trans (hb4.mono HB.out.size)).alloc (jD HB.out.size hb4.size) _), hI (Rd.alloc hr5 _), hI ((HM.out.below hb4).alloc _), hI (Rd.alloc (jF HR.out hb4) _)⟩; have j50 := ac0 e5; have j51 := ac1 e5; have j52 := ac2 e5; have j53 := ac3 e5; have j54 := ac4 e5; clear hr5 hb4)| (go_at_call 41; (with_reducible refine (X3b W5 HR5.out HM5.out HSA.out).mono ?_); rintro e w6 ⟨rfl, hb6⟩; have HM6 := hI (HM5.out.below hb6); have HB6 := hI (HB5.out.trans (hb6.mono HB5.out.size)); have HO6 := hI (jF HO5.out hb6); clear hb6)| (at_mapUpdate; refine Z7y (B := W0.heap.size) rfl (.tmp 88) (.tmp 89) (.tmp 92) 87 rfl Tryz.underlying87 Tryz.underlying9 rfl HM6.out.1 (by have := Hn'.out; unfold maxLen; omega) rfl hxl rfl HMb.out ?_; intro w7 hM7 hb7 hg7))
       have HM7 : Hid (MapA w7 mb (n' + 1) (Z0y b ns o (k + 1))) := hI (by rw [HST.out, HT.out, HSA.out]; exact MapA.put hM7 HM6.out.2 HAI.out)
       have HO7 := hI ((rSl rStr).keep HO6.out (.grown hg7 fun g hg h => by cases hg; rcases h with h | h; exact h; have := Hmb.out; omega))
       go_roundw
       case rel => exact ⟨k + 1, n' + 1, by omega, by go_num, HM7, hI (by have := Hn'.out; omega), HO7, hI (HB6.out.trans hb7)⟩
       case measure => simp [intOf]; omega
      ·have HAS : Hid (Z0y b ns o k = Z2n b ns o) := hI (by unfold Z0y Z2n; rw [jC (by omega)])
       rw [HAS.out] at HM
       have HA4 : Hid (askB b ns = (b.tabs.map (Z2m (Z2n b ns o)), 0)) := hI (by rw [HA3.out, HOO.out, HO.out])
       clear HA3 hk
       generalize Z2n b ns o = m at *
       obtain ⟨w3, hw3⟩ : ∃ x, x = wr := ⟨_, rfl⟩
       subst hw3
       have f1 := (HB.out.ce 1 hs0).trans c1
       go_wp2
       clear f1 hlt
       have HMs := HM
       have HBs := HB
       go_loopw [18, 97] (fun ov i wr => ∃ (k : Nat) (out : List An), k <= b.tabs.length /\ i = .int .i64 k /\ Own rAn 46 wr w3.heap.size (fun _ => False) ov out /\ Hid (out = (b.tabs.take k).map (Z2m m)) /\ Hid (Below w3.heap.size w3 wr)) (fun _ i _ => b.tabs.length - (intOf i).toNat)
       case atStart => exact ⟨0, [], jE _, rfl, Own.nil _ _ _ _ _, hI rfl, hI (Below.refl _ _)⟩
       case round =>
        obtain ⟨k, out, hk, rfl, hown, HO2, HB⟩ := hrel
        have HBW := hI (HBs.out.trans (HB.out.mono HBs.out.size))
        by_cases hlt : k < b.tabs.length
        ·obtain ⟨bB, off, x, A1, ca, A2, cb, rfl, hbB, hx, hr, g0, g1, g2, g3, g4⟩ := HF.out.tb hlt
         have hbw := HB0.out.trans (HBW.out.mono HB0.out.size)
         rw [<- hbw.ce _ hbB] at g0 g1 g2 g3 g4
         have hik : (k : Int) < (b.tabs.length : Int) := by omega
         have hxl : x.name.length <= 140737488355328 := by obtain ⟨_, _, _, h, _⟩ := hr; exact h
         obtain ⟨⟨nm', fd, nn⟩, ha⟩ : ∃ a, atM m x.name = a := ⟨_, rfl⟩
         have HV : Hid (((m x.name).map ansV).getD (ansV an0) = .agg #[.string ⟨nm'.toArray⟩, .bool fd, .int .i64 nn]) := hI (by rw [MapA.getD, ha]; rfl)
         have HNN : Hid (InI nn) := hI (by have := HMs.out.2 x.name; rw [ha] at this; exact this)
         have HOS : Hid (out ++ [⟨x.name, fd, nn⟩] = (b.tabs.take (k + 1)).map (Z2m m)) := hI (by rw [Z0b hx, List.map_append, <- HO2.out]; simp [Z2m, ha])
         have HOL : Hid (out.length <= 4) := hI (by rw [HO2.out, jB, List.length_take]; have := HL.out.2; omega)
         have HBY : Hid ((out.length + 1) * rAn.bytes <= 140737488355328) := hI (by have := HOL.out; show (_ + 1) * 32 <= _; omega)
         obtain ⟨W3, e3, HB3, HM3, HOW3, hw3s⟩ : ∃ W3, wr.alloc (.cells #[.string ⟨x.name.toArray⟩, .int .i64 x.pol, .bool x.comp, .slice A1 x.ins.length ca, .slice A2 x.rules.length cb] 42) = W3 /\ Hid (Below w3.heap.size w3 W3) /\ Hid (MapA W3 mb n' m) /\ Hid (Own rAn 46 W3 w3.heap.size (fun _ => False) u18 out) /\ wr.heap.size < W3.heap.size := ⟨_, rfl, hI (HB.out.alloc HB.out.size _), hI ((HMs.out.below HB.out).alloc _), hI (hown.alloc _), by simp⟩; have j0 := ac0 e3
         obtain ⟨W4, e4, HB4, z0, hk0, hw4s, HOW4⟩ : ∃ W4, W3.alloc (.cells #[.string ⟨nm'.toArray⟩, .bool fd, .int .i64 nn] 46) = W4 /\ Hid (Below w3.heap.size w3 W4) /\ W4.frozen? ⟨W3.heap.size, 0, none⟩ = false /\ W4.cell? ⟨wr.heap.size, 0, none⟩ = some (.string ⟨x.name.toArray⟩) /\ Hid (W3.heap.size < W4.heap.size) /\ Hid (Own rAn 46 W4 w3.heap.size (fun _ => False) u18 out) := ⟨_, rfl, hI (HB3.out.alloc HB3.out.size _), by simp, (jG _ _ _ hw3s).trans j0, hI (by simp), hI (HOW3.out.alloc _)⟩; have k0 := ac0 e4; have k1 := ac1 e4; have k2 := ac2 e4
         obtain ⟨W5, e5, HB5, l0, l1, l2, HOW5⟩ : ∃ W5, W4.setCell ⟨W3.heap.size, 0, none⟩ (.string ⟨x.name.toArray⟩) = W5 /\ Hid (Below w3.heap.size w3 W5) /\ W5.cell? ⟨W3.heap.size, 0, none⟩ = some (.string ⟨x.name.toArray⟩) /\ W5.cell? ⟨W3.heap.size, 1, none⟩ = some (.bool fd) /\ W5.cell? ⟨W3.heap.size, 2, none⟩ = some (.int .i64 nn) /\ Hid (Own rAn 46 W5 w3.heap.size (fun _ => False) u18 out) :=
          ⟨_, rfl, hI (HB4.out.setCell HB3.out.size _), World.cell?_setCell_same _ _ _ k0, (jH _ _ _ _ (by simp)).trans k1, (jH _ _ _ _ (by simp)).trans k2, hI (HOW4.out.flat_set (fun _ _ _ _ _ _ h => h) (fun g hg => by have := HOW3.out.lt g hg; show g ≠ W3.heap.size; omega) _)⟩
         clear hx hr hbw hown ha
         go_wp2_with (first | (at_lookup; refine Z2z rfl (.tmp 101) (.tmp 103) 87 rfl Tryz.underlying87 Tryz.underlying9 (X3h _) rfl HM3.out.1 rfl hxl HV.out ?_) | (at_builtin; refine Z0a (R := rAn) (x := ⟨x.name, fd, nn⟩) X4l rfl (.tmp 108) (.tmp 110) rfl rfl HOW5.out [.string ⟨x.name.toArray⟩, .bool fd, .int .i64 nn] rfl rfl (fun _ => False) ⟨rfl, hxl, HNN.out⟩ (fun _ h => h.elim) HBY.out HB5.out.size ?_; intro v9 w9 hown9 hb9 _ _))
         go_roundw
         case rel => exact ⟨k + 1, out ++ [⟨x.name, fd, nn⟩], by omega, by go_num, hown9, HOS, hI (HB5.out.trans hb9)⟩
         case measure => simp [intOf]; omega
        ·have HC : Hid (askB b ns = (out, 0)) := hI (by rw [HA4.out, HO2.out, jC (by omega)])
         obtain ⟨A9, l9, rfl⟩ := hown.value
         go_wp2
         go_ret2
         exact ⟨_, _, by rw [HC.out]; rfl, by rw [HC.out]; exact Y9w (hown.rel (by decide)) (jD HB0.out.size HBs.out.size), HB0.out.trans (HBW.out.mono HB0.out.size)⟩
  ·have HA3 : Hid (askB b ns = ([], 1)) := hI (by rw [HA1.out, if_pos hne])
   have hq1 : ((ns.length : Int) == (b.doms.length : Int)) = false := beq_eq_false_iff_ne.2 (by omega)
   have hq2 : (ns.length == b.doms.length) = false := beq_eq_false_iff_ne.2 hne
   clear hne
   go_wp2_with (go_at_call 28; (with_reducible refine (Z8l W0 HBK.out HCK.out).mono ?_); rintro e w1 ⟨Ak, ck, Sk, rfl, _, hb1⟩; have HB1 := hI hb1; have d0 := (hb1.ce 0 hs0).trans c0; have d1 := (hb1.ce 1 hs0).trans c1; clear hb1)
   go_ret2
   exact HZ.out _ _ _ HA3.out rfl HB1.out
 ·have HA3 : Hid (askB b ns = ([], er)) := hI (by unfold askB; rw [hck]; exact if_pos her)
  have hq1 : (er == 0) = false := by simpa using her
  clear hck her
  go_wp2_with (go_at_call 28; (with_reducible refine (Z8l W0 HBK.out HCK.out).mono ?_); rintro e w1 ⟨Ak, ck, Sk, rfl, _, hb1⟩; have HB1 := hI hb1; have d0 := (hb1.ce 0 hs0).trans c0; have d1 := (hb1.ce 1 hs0).trans c1; clear hb1)
  go_ret2
  exact HZ.out _ _ _ HA3.out rfl HB1.out
structure Rep where
 code : Int
 n : Int
 text : Txt
 ans : List An
 at' : List Int
def rRep : Rd Rep where
 k := 5
 bytes := 80
 rel w S cs x := ∃ v u, cs = [.int .i64 x.code, .int .i64 x.n, .string ⟨x.text.toArray⟩, v, u] /\ InI x.code /\ InI x.n /\ x.text.length <= 140737488355328 /\ (rSl rAn).rel w S [v] x.ans /\ (rSl rInt).rel w S [u] x.at'
 len h := by obtain ⟨v, u, rfl, _⟩ := h; rfl
 keep h hk := by obtain ⟨v, u, e, h1, h2, h3, h4, h5⟩ := h; exact ⟨v, u, e, h1, h2, h3, (rSl rAn).keep h4 hk, (rSl rInt).keep h5 hk⟩
 mono h hk := by obtain ⟨v, u, e, h1, h2, h3, h4, h5⟩ := h; exact ⟨v, u, e, h1, h2, h3, (rSl rAn).mono h4 hk, (rSl rInt).mono h5 hk⟩
 one h x hx := by
  obtain ⟨v, u, rfl, _, _, _, h4, h5⟩ := h
  simp at hx
  rcases hx with rfl | rfl | rfl | rfl | rfl
  ·rfl
  ·rfl
  ·rfl
  ·exact (rSl rAn).one h4 _ (by simp)
  ·exact (rSl rInt).one h5 _ (by simp)
theorem X1v {S T : Nat -> Prop} {bs : List Value} {b : Bk} {u : Value} {ns : List Int} {l : List An} {r : Int} (w : World) (hl : rBk.rel w S bs b) (hn : (rSl rInt).rel w T [u] ns) (h : askB b ns = (l, r)) :
  Calls Tryz.prog 12 #[.agg bs.toArray, u] w fun e w' => ∃ A c S', e = .returned (.tuple #[.slice A l.length c, .int .i64 r]) /\ (rSl rAn).rel w' (New w S') [.slice A l.length c] l /\ Below w.heap.size w w' := by
 refine (X18 w hl hn).mono ?_
 rintro e w' ⟨z, S', he, hz, hb⟩
 rw [h] at he hz
 obtain ⟨A, c, rfl, _⟩ := rSl.elems hz
 exact ⟨A, c, S', he, hz, hb⟩
end Go.Proofs.YtlopccnehgolnabGreatDoor
namespace Go.Proofs.YtlopccnehgolnabGreatDoor
open Go.RowKit Rb
open List renaming getElem?_eq_getElem -> gE, take_of_length_le -> tL, all_eq_true -> jC, eq_nil_of_length_eq_zero -> jD, find?_some -> jE, getElem?_eq_none_iff -> jF, getElem?_eq_some_iff -> jG, getElem?_map -> jH, getElem_map -> jI, getElem_of_mem -> jJ, length_map -> jK, map_cons -> jL, mem_cons -> jM, mem_of_find?_eq_some -> jN, mem_range -> jO
open Bool renaming and_eq_true -> jA, or_eq_true -> jB
open Nat renaming lt_succ_iff_lt_or_eq -> jP
open Go.Op renaming bytesLess -> jQ
theorem Z41 : ∀ a : Txt, jQ a a = false
 | [] => rfl
 | a :: l => by simp [jQ, Z41 l]
theorem Z5b : ∀ {a b c : Txt}, jQ a b = true -> jQ b c = true -> jQ a c = true
 | _, _, [], _, h => by simp [jQ] at h
 | [], _, _ :: _, _, _ => rfl
 | a :: x, [], _ :: _, h, _ => by simp [jQ] at h
 | a :: x, b :: y, c :: z, h1, h2 => by
  simp only [jQ, jB, decide_eq_true_iff, jA, beq_iff_eq] at h1 h2 ⊢
  rcases h1 with h1 | ⟨rfl, h1⟩
  ·rcases h2 with h2 | ⟨rfl, h2⟩
   ·exact .inl (UInt8.lt_trans h1 h2)
   ·exact .inl h1
  ·rcases h2 with h2 | ⟨rfl, h2⟩
   ·exact .inl h2
   ·exact .inr ⟨rfl, Z5b h1 h2⟩
theorem Y03 {α : Type} {f : α -> Txt} {l : List α} (h : ∀ k (hk : k + 1 < l.length), jQ (f l[k]) (f l[k + 1]) = true) : (l.map f).Nodup := by
 have key : ∀ (j i : Nat) (hij : i < j) (hj : j < l.length), jQ (f (l[i]'(by omega))) (f l[j]) = true := by
  intro j
  induction j with
  | zero => intro i hi; omega
  | succ j ih =>
   intro i hij hj
   rcases jP.1 hij with h1 | rfl
   ·exact Z5b (ih i h1 (by omega)) (h j hj)
   ·exact h i hj
 show List.Pairwise _ _
 rw [List.pairwise_iff_getElem]
 intro i j hi hj hij e
 rw [jI, jI] at e
 rw [jK] at hj
 have := key j i hij hj
 rw [e, Z41] at this
 cases this
theorem Z85 {α : Type} {f : α -> Txt} : ∀ {l : List α}, (l.map f).Nodup -> ∀ {x : α}, x ∈ l -> l.find? (fun y => f y == f x) = some x
 | a :: l, h, x, hx => by
  rw [jL, List.nodup_cons] at h
  rw [List.find?_cons]
  rcases jM.1 hx with rfl | hx
  ·simp
  ·have : (f a == f x) = false := by
    rw [beq_eq_false_iff_ne]
    intro e
    exact h.1 (List.mem_map.2 ⟨x, hx, e.symm⟩)
   rw [this]
   exact Z85 h.2 hx
structure CheckOk (b : Bk) : Prop where
 dl : b.doms.length <= 4
 tl : b.tabs.length <= 4
 doms : Y0m b.doms = true
 tabs : Z7e b = true
 box : ∀ t ∈ b.tabs, Z1b (Z4t b t) = true
 ord : (Z2j b).isSome = true
 clash : ∀ t ∈ b.tabs, (Z17 t (bxOf b t)).length = 0 /\ (t.comp = true -> (gapB t (bxOf b t)).length = 0)
theorem Z83 {b : Bk} : ∀ {l : List Tb}, (Z1e b l).2.2 = 0 -> ∀ t ∈ l, (Z17 t (bxOf b t)).length = 0 /\ (t.comp = true -> (gapB t (bxOf b t)).length = 0)
 | [], _, t, ht => by cases ht
 | a :: l, h, t, ht => by
  rw [Z1e] at h
  split at h
  ·cases h
  ·rename_i h1
   split at h
   ·cases h
   ·rename_i h2
    rcases jM.1 ht with rfl | ht
    ·exact ⟨by omega, fun hc => by
      rcases Nat.eq_zero_or_pos (gapB t (bxOf b t)).length with h3 | h3
      ·exact h3
      ·exact absurd ⟨h3, hc⟩ h2⟩
    ·exact Z83 h t ht
theorem Y8c {b : Bk} (h : (Z0g b).2.2 = 0) : CheckOk b := by
 have hl := Y22 h
 have hd := Z81 h
 unfold Z0g at h
 rw [if_neg (by omega), if_neg (by rw [hd.1]; decide), if_neg (by rw [hd.2]; decide)] at h
 split at h
 ·cases h
 ·rename_i hf
  rw [List.find?_eq_none] at hf
  split at h
  ·cases h
  ·rename_i ho
   exact ⟨hl.1, hl.2, hd.1, hd.2, fun t ht => by simpa using hf t ht, by revert ho; cases (Z2j b).isSome <;> simp, Z83 h⟩
section
variable {b : Bk} (h : CheckOk b)
include h
theorem CheckOk.domAt {i : Nat} {d : Dm} (hd : b.doms[i]? = some d) : Z46 d = true := by
 obtain ⟨hi, _⟩ := jG.1 hd
 have := jC.1 h.doms i (jO.2 hi)
 unfold Y29 at this
 rw [hd] at this
 simp only [jA] at this
 exact this.1
theorem CheckOk.domNames : (b.doms.map (·.name)).Nodup := Y03 fun k hk => by
 have := jC.1 h.doms (k + 1) (jO.2 hk)
 unfold Y29 at this
 rw [gE hk] at this
 simp only [jA, jB, decide_eq_true_iff] at this
 rcases this.2 with h1 | h1
 ·omega
 ·rw [show k + 1 - 1 = k by omega] at h1
  simpa [X03, gE (show k < b.doms.length by omega)] using h1
theorem CheckOk.tabNames : (b.tabs.map (·.name)).Nodup := Y03 fun k hk => by
 have := jC.1 h.tabs (k + 1) (jO.2 hk)
 unfold Y2e at this
 rw [gE hk] at this
 simp only [jA, jB, decide_eq_true_iff] at this
 rcases this.2 with h1 | h1
 ·omega
 ·rw [show k + 1 - 1 = k by omega] at h1
  simpa [X04, gE (show k < b.tabs.length by omega)] using h1
theorem CheckOk.apart {t : Tb} (ht : t ∈ b.tabs) : findD b.doms t.name = none := by
 obtain ⟨i, hi, rfl⟩ := jJ ht
 have := jC.1 h.tabs i (jO.2 hi)
 unfold Y2e at this
 rw [gE hi] at this
 simp only [jA, Bool.not_eq_true', Option.isSome_eq_false_iff, Option.isNone_iff_eq_none] at this
 exact this.1.2
theorem CheckOk.good {t : Tb} (ht : t ∈ b.tabs) : Z0s t = true := Z3r h.tabs t ht
theorem CheckOk.findT {t : Tb} (ht : t ∈ b.tabs) : findT b.tabs t.name = some t := Z85 h.tabNames ht
theorem CheckOk.findD {d : Dm} (hd : d ∈ b.doms) : findD b.doms d.name = some d := Z85 h.domNames hd
end
def X3r (a c : An) : Prop := a.found = c.found /\ a.n = c.n
theorem Y0s {m m' : Txt -> Option An} : ∀ {l : List Txt}, (∀ s ∈ l, X3r (atM m s) (atM m' s)) -> gotM m l = gotM m' l
 | [], _ => rfl
 | s :: l, h => by
  rw [gotM, gotM, Y0s fun s hs => h s (by simp [hs]), (h s (by simp)).1, (h s (by simp)).2]
theorem Y10 (m : Txt -> Option An) : ∀ l : List Txt, gotM m l = if l.all (fun s => (atM m s).found) then some (l.map fun s => (atM m s).n) else none
 | [] => rfl
 | s :: l => by
  rw [gotM, Y10 m l, List.all_cons, jL]
  cases (atM m s).found
  ·simp
  ·cases l.all fun s => (atM m s).found <;> simp
theorem Y43 {m m' : Txt -> Option An} {t : Tb} (h : ∀ s ∈ t.ins, X3r (atM m s) (atM m' s)) : Z47 m t = Z47 m' t := by
 unfold Z47
 rw [Y0s h]
theorem Z7p {l : List Dm} {cs : List Int} (hn : (l.map (·.name)).Nodup) {i : Nat} {d : Dm} (hd : l[i]? = some d) : ∀ {n : Nat}, i < n -> Z13 l cs n d.name = some ⟨[], true, (cs[i]?).getD 0⟩
 | n + 1, hi => by
  unfold Z13
  rcases jP.1 hi with h1 | rfl
  ·cases hd' : l[n]? with
   | some d' =>
    dsimp only
    unfold putA
    rw [if_neg]
    ·exact Z7p hn hd h1
    ·intro e
     have h2 : (l.map (·.name))[i]? = some d.name := by rw [jH, hd]; rfl
     have h3 : (l.map (·.name))[n]? = some d.name := by rw [jH, hd', e]; rfl
     have := Y5u hn h2 h3
     omega
   | none => exact Z7p hn hd h1
  ·rw [hd]
   simp [putA]
theorem Z4s {b : Bk} {cs : List Int} {o : List Txt} {s : Txt} : ∀ {k : Nat}, (∀ j, j < k -> o[j]? ≠ some s) -> Z0y b cs o k s = Z13 b.doms cs b.doms.length s
 | 0, _ => rfl
 | k + 1, h => by
  cases hx : o[k]? with
  | none =>
   have : Z0y b cs o (k + 1) = Z0y b cs o k := by
    unfold Z0y
    rw [jF] at hx
    rw [tL (by omega), tL hx]
   rw [this]
   exact Z4s fun j hj => h j (by omega)
  | some x =>
   rw [Z3y hx]
   unfold putA
   rw [if_neg fun e => h k (by omega) (by rw [hx, e])]
   exact Z4s fun j hj => h j (by omega)
theorem Z4k {b : Bk} {cs : List Int} {o : List Txt} (hn : o.Nodup) {j : Nat} {s : Txt} (hs : o[j]? = some s) : ∀ {k : Nat}, j < k -> Z0y b cs o k s = some (Z47 (Z0y b cs o j) (tbOf (findT b.tabs s)))
 | k + 1, hj => by
  rcases jP.1 hj with h1 | rfl
  ·cases hx : o[k]? with
   | none =>
    have : Z0y b cs o (k + 1) = Z0y b cs o k := by
     unfold Z0y
     rw [jF] at hx
     rw [tL (by omega), tL hx]
    rw [this]
    exact Z4k hn hs h1
   | some x =>
    rw [Z3y hx]
    unfold putA
    rw [if_neg]
    ·exact Z4k hn hs h1
    ·intro e
     have := Y5u hn hs (hx.trans (by rw [e]))
     omega
  ·rw [Z3y hs]
   simp [putA]
theorem Y5f (b : Bk) (cs : List Int) (o : List Txt) : Z2n b cs o = Z0y b cs o o.length := by
 unfold Z2n Z0y
 rw [List.take_length]
theorem X0s {m : Txt -> Option An} {l : List Txt} {own : List Int} (h : gotM m l = some own) : own.length = l.length := by
 rw [Y10] at h
 split at h
 ·injection h with h
  rw [<- h, jK]
 ·cases h
theorem Y6k {m : Txt -> Option An} {l : List Txt} {own : List Int} (h : gotM m l = some own) : (∀ s ∈ l, (atM m s).found = true) /\ own = l.map fun s => (atM m s).n := by
 rw [Y10] at h
 split at h
 ·rename_i h1
  rw [jC] at h1
  injection h with h
  exact ⟨h1, h.symm⟩
 ·cases h
theorem Y0l {b : Bk} : ∀ {l : List Txt} {x : Bx}, Z97 b l = some x -> x = l.map (fun s => [allR b s]) /\ ∀ s ∈ l, okIn b s = true
 | [], x, h => by
  rw [Z97] at h
  injection h with h
  exact ⟨h.symm, fun s hs => by cases hs⟩
 | s :: l, x, h => by
  rw [Z97] at h
  split at h
  ·rename_i h1
   rw [Option.map_eq_some_iff] at h
   obtain ⟨y, hy, rfl⟩ := h
   obtain ⟨rfl, h3⟩ := Y0l hy
   exact ⟨rfl, fun s' hs' => by
    rcases jM.1 hs' with rfl | hs'
    ·exact h1
    ·exact h3 s' hs'⟩
  ·cases h
theorem Y82 {b : Bk} {o : List Txt} (ho : Z2j b = some o) {i : Nat} {s : Txt} (hs : o[i]? = some s) : ∃ t ∈ b.tabs, t.name = s := by
 obtain ⟨I, _⟩ := Z9n b.tabs.length (OrdI.nil b) ho
 obtain ⟨t, ht, hn, _⟩ := I.each i s hs
 exact ⟨t, ht, hn⟩
section
variable {b : Bk} {cs : List Int} {o : List Txt} (h : CheckOk b) (hin : Z99 b.doms cs = true) (ho : Z2j b = some o)
include ho
theorem Z58 {s : Txt} (hs : ∀ t ∈ b.tabs, t.name ≠ s) (k : Nat) : Z0y b cs o k s = Z13 b.doms cs b.doms.length s :=
 Z4s fun j _ hj => by
  obtain ⟨t, ht, hn⟩ := Y82 ho hj
  exact hs t ht hn
include h
theorem Y0k {t : Tb} (ht : t ∈ b.tabs) : atM (Z2n b cs o) t.name = Z47 (Z2n b cs o) t := by
 have hd : ∀ t ∈ b.tabs, ∀ u ∈ b.tabs, t.name = u.name -> t = u := Y80 h.tabNames
 obtain ⟨hn, hl, hp⟩ := Y83 hd ho
 obtain ⟨i, hi, hj⟩ := hp t ht
 have hil := (jG.1 hi).1
 rw [Y5f]
 have h1 : Z0y b cs o o.length t.name = some (Z47 (Z0y b cs o i) t) := by
  rw [Z4k hn hi hil, h.findT ht]
  rfl
 unfold atM
 rw [h1]
 show Z47 (Z0y b cs o i) t = _
 refine Y43 fun s hs => ?_
 by_cases hm : (findT b.tabs s).isSome = true
 ·obtain ⟨j, hji, hoj⟩ := hj s hs hm
  have h2 : Z0y b cs o i s = Z0y b cs o o.length s := by rw [Z4k hn hoj hji, Z4k hn hoj (by omega)]
  unfold atM
  rw [h2]
  exact ⟨rfl, rfl⟩
 ·have hno : ∀ t ∈ b.tabs, t.name ≠ s := fun t ht e => hm (by rw [<- e, h.findT ht]; rfl)
  unfold atM
  rw [Z58 ho hno, Z58 ho hno]
  exact ⟨rfl, rfl⟩
include hin
theorem Y2u {i : Nat} {d : Dm} (hd : b.doms[i]? = some d) : atM (Z2n b cs o) d.name = ⟨[], true, (cs[i]?).getD 0⟩ /\ d.lo <= (cs[i]?).getD 0 /\ (cs[i]?).getD 0 <= d.hi := by
 obtain ⟨hi, _⟩ := jG.1 hd
 have hno : ∀ t ∈ b.tabs, t.name ≠ d.name := fun t ht e => by
  have h1 := h.apart ht
  rw [e, h.findD (List.mem_of_getElem? hd)] at h1
  cases h1
 refine ⟨?_, ?_⟩
 ·unfold atM
  rw [Y5f, Z58 ho hno, Z7p h.domNames hd hi]
  rfl
 ·have := jC.1 hin i (jO.2 hi)
  unfold inOk at this
  rw [hd] at this
  simpa using this
theorem Y4b {s : Txt} (hs : okIn b s = true) (hf : (atM (Z2n b cs o) s).found = true) : (allR b s).1 <= (atM (Z2n b cs o) s).n /\ (atM (Z2n b cs o) s).n <= (allR b s).2 := by
 cases hd : findD b.doms s with
 | some d =>
  have hm := jN hd
  have hn : d.name = s := by have := jE hd; simpa using this
  obtain ⟨i, hi, rfl⟩ := jJ hm
  obtain ⟨h1, h2, h3⟩ := Y2u h hin ho (gE hi)
  rw [hn] at h1
  unfold allR
  rw [hd, h1]
  exact ⟨h2, h3⟩
 | none =>
  have h1 : (findT b.tabs s).isSome = true := by
   unfold okIn Y4a at hs
   rw [hd] at hs
   simp only [jA] at hs
   simpa using hs.1
  obtain ⟨t, ht⟩ := Option.isSome_iff_exists.1 h1
  have hm := jN ht
  have hn : t.name = s := by have := jE ht; simpa using this
  have hsy := Y0k (cs := cs) h ho hm
  rw [hn] at hsy
  unfold allR
  rw [hd, ht]
  rw [hsy] at hf ⊢
  show (Z3p t).1 <= _ /\ _ <= (Z3p t).2
  unfold Z47 at hf ⊢
  cases hg : gotM (Z2n b cs o) t.ins with
  | none => rw [hg] at hf; cases hf
  | some own =>
   rw [hg] at hf
   exact X3e (h.good hm) (X0s hg) hf
theorem Y75 {t : Tb} (ht : t ∈ b.tabs) {own : List Int} (hg : gotM (Z2n b cs o) t.ins = some own) : (Z03 t own).2.2 = 0 /\ (t.comp = true -> (Z03 t own).2.1 = true) := by
 obtain ⟨hfd, rfl⟩ := Y6k hg
 obtain ⟨x, hx⟩ : ∃ x, Z4t b t = some x := by
  have := h.box t ht
  unfold Z1b at this
  split at this
  ·rename_i x hx; exact ⟨x, hx⟩
  ·cases this
 obtain ⟨rfl, hok⟩ := Y0l hx
 have hbx : bxOf b t = t.ins.map (fun s => [allR b s]) := by unfold bxOf; rw [hx]; rfl
 have hgt := h.good ht
 have h3 := (Z0z hgt).2.2.2.1
 have hr : ∀ s ∈ t.ins, ((allR b s).1 <= (atM (Z2n b cs o) s).n /\ (atM (Z2n b cs o) s).n <= (allR b s).2) /\ -1000000 <= (allR b s).1 /\ (allR b s).2 <= 1000000 := fun s hs => by
  refine ⟨Y4b h hin ho (hok s hs) (hfd s hs), ?_⟩
  have := hok s hs
  unfold okIn at this
  simp only [jA, decide_eq_true_iff] at this
  exact this.2
 have hgb : Z0j (bxOf b t) (t.ins.length : Int) = true := by
  rw [hbx, goodBx_iff]
  refine ⟨fun s hs => ?_, by rw [jK], by omega⟩
  rw [List.mem_map] at hs
  obtain ⟨s', hs', rfl⟩ := hs
  have := hr s' hs'
  exact ⟨by simp, by show GoodFrom (-MX - 2) [allR b s']; unfold GoodFrom GoodFrom MX; exact ⟨by omega, by omega, by omega, by omega, trivial⟩⟩
 have hib : ∀ l : List Txt, (∀ s ∈ l, s ∈ t.ins) -> inBx (l.map fun s => [allR b s]) (l.map fun s => (atM (Z2n b cs o) s).n) = true := by
  intro l
  induction l with
  | nil => intro _; rfl
  | cons s l ih =>
   intro hl
   rw [jL, jL, inBx, ih fun s hs => hl s (by simp [hs]), Bool.and_true]
   have := (hr s (hl s (by simp))).1
   simp [hasL, inR, this.1, this.2]
 have hin' : inBx (bxOf b t) (t.ins.map fun s => (atM (Z2n b cs o) s).n) = true := by rw [hbx]; exact hib t.ins fun s hs => hs
 obtain ⟨c1, c2⟩ := h.clash t ht
 have he : (Z03 t (t.ins.map fun s => (atM (Z2n b cs o) s).n)).2.2 = 0 := by
  apply Classical.byContradiction
  intro h4
  obtain ⟨x, hx, _⟩ := Y8d hgt hgb _ hin' h4
  rw [jD c1] at hx
  cases hx
 refine ⟨he, fun hc => ?_⟩
 cases h0 : (Z03 t (t.ins.map fun s => (atM (Z2n b cs o) s).n)).2.1 with
 | true => rfl
 | false =>
  obtain ⟨x, hx, _⟩ := X33 hgt hgb _ hin' h0 he
  rw [jD (c2 hc)] at hx
  cases hx
end
theorem Y6e (ns : List Int) (l : List Dm) : (Z18 ns l).length = l.length := by unfold Z18; simp
theorem X2v {b : Bk} (h : CheckOk b) (ns : List Int) : Z99 b.doms (Z18 ns b.doms) = true := by
 unfold Z99
 rw [jC]
 intro i hi
 rw [jO] at hi
 have hg := h.domAt (gE hi)
 unfold Z46 at hg
 simp only [jA, decide_eq_true_iff] at hg
 unfold inOk
 rw [gE hi]
 have : (Z18 ns b.doms)[i]? = some (Z4m b.doms[i].lo b.doms[i].hi ((ns[i]?).getD 0)) := by
  unfold Z18
  rw [jH, List.getElem?_range hi]
  simp [gE hi]
 rw [this]
 simp only [Option.getD_some, jA, decide_eq_true_iff]
 unfold Z4m
 omega
end Go.Proofs.YtlopccnehgolnabGreatDoor
