import Derived.Test.YtlopccnehgolnacGreatDoorCheck
import Derived.Test.YtlopccnehgolnacGreatDoorSays
import Derived.Deep.DeepMust
import Derived.Test.YtlopccnehgolnacGreatDoorGK11
import Derived.Test.YtlopccnehgolnacGreatDoorGK8
import Derived.Test.YtlopccnehgolnacGreatDoorGK18
import Derived.Test.YtlopccnehgolnacGreatDoorGapMath
namespace Go.Proofs.YtlopccnehgolnacGreatDoor
open Go.RowKit Rb
open List renaming getElem?_eq_getElem -> jA, getElem_map -> jB
open Go.Op renaming bytesLess -> jC
open Rd renaming below -> jD
set_option maxRecDepth 100000
set_option maxHeartbeats 1600000
def rAn : Rd An where
 k := 3
 bytes := 32
 rel _ _ cs x := cs = [sq x.name, .bool x.found, .int .i64 x.n] /\ x.name.length <= 140737488355328 /\ InI x.n
 len h := by obtain ⟨rfl, _⟩ := h; rfl
 keep h _ := h
 mono h _ := h
 one h u hu := by
  obtain ⟨rfl, _⟩ := h
  simp at hu
  rcases hu with rfl | rfl | rfl <;> rfl
theorem X40 : ElemOf Tryz.prog rAn 28 99 := .mk' Tryz.underlying28 (z := .agg #[.string ⟨#[]⟩, .bool false, .int .i64 0]) (k := 3) (b := 32) (by kernel_rfl) rfl rfl rfl (by decide) (by decide)
def putA (m : Txt -> Option An) (s : Txt) (a : An) : Txt -> Option An := fun t => if t = s then some a else m t
theorem MapA.put {w : World} {b n : Nat} {m : Txt -> Option An} {s : Txt} {a : An} (h : SMap Tryz.prog 9 w b n (putM (fun s => (m s).map ansV) s (ansV a))) (hm : ∀ s, InI (atM m s).n) (ha : InI a.n) : MapA w b n (putA m s a) := by
 refine ⟨h.congr fun t => ?_, fun t => ?_⟩
 ·unfold putM putA
  split <;> rfl
 have := hm t
 unfold atM putA at *
 split
 ·exact ha
 exact this
theorem MapA.made (w : World) : MapA (w.alloc (.map #[] 0)) w.heap.size 0 (fun _ => none) := ⟨SMap.made _ _ _, fun _ => by show InI 0; unfold InI; decide⟩
def Z2y (l : List Dm) (ns : List Int) : Nat -> (Txt -> Option An)
 | 0 => fun _ => none
 | k + 1 => match l[k]? with | some d => putA (Z2y l ns k) d.name ⟨[], true, (ns[k]?).getD 0⟩ | none => Z2y l ns k
def inOk (l : List Dm) (ns : List Int) (k : Nat) : Bool := match l[k]? with | some d => decide (d.lo <= (ns[k]?).getD 0) && decide ((ns[k]?).getD 0 <= d.hi) | none => true
def Y80 (l : List Dm) (ns : List Int) : Bool := (List.range l.length).all (inOk l ns)
theorem Y6b {l : List Dm} {ns : List Int} {k : Nat} (hk : k < l.length) (h : inOk l ns k = false) : Y80 l ns = false := Z3n hk h
def X4u (b : Bk) (m : Txt -> Option An) (s : Txt) : Txt -> Option An := putA m s (Y2l m (tbOf (findT b.tabs s)))
def Z4c (b : Bk) (ns : List Int) (o : List Txt) (k : Nat) : Txt -> Option An := (o.take k).foldl (X4u b) (Z2y b.doms ns b.doms.length)
def Y6v (b : Bk) (ns : List Int) (o : List Txt) : Txt -> Option An := o.foldl (X4u b) (Z2y b.doms ns b.doms.length)
def Z53 (m : Txt -> Option An) (t : Tb) : An := ⟨t.name, (atM m t.name).found, (atM m t.name).n⟩
def askB (b : Bk) (ns : List Int) : List An × Int :=
 if (Z0j b).2.2 ≠ 0 then ([], (Z0j b).2.2)
 else if ns.length ≠ b.doms.length then ([], 1)
 else if Y80 b.doms ns = false then ([], 2)
 else (b.tabs.map (Z53 (Y6v b ns ((Z3d b).getD []))), 0)
theorem Y23 {b : Bk} {ns : List Int} {o : List Txt} {k : Nat} {s : Txt} (h : o[k]? = some s) : Z4c b ns o (k + 1) = putA (Z4c b ns o k) s (Y2l (Z4c b ns o k) (tbOf (findT b.tabs s))) := by
 unfold Z4c
 rw [Z0c h, L1e]
 rfl
theorem X1t {m : Txt -> Option An} {t : Tb} (h : ∀ ns, InI (Z19 t ns).1) : InI (Y2l m t).n := by
 unfold Y2l
 split
 ·show InI 0; unfold InI; decide
 exact h _
theorem Y3a {b : Bk} (h : (Z0j b).2.2 = 0) : b.doms.length <= 4 /\ b.tabs.length <= 4 := by
 unfold Z0j at h
 split at h
 ·cases h
 omega
theorem Z9d {b : Bk} (h : (Z0j b).2.2 = 0) : Y0t b.doms = true /\ Z7l b = true := by
 unfold Z0j at h
 split at h
 ·cases h
 split at h
 ·cases h
 split at h
 ·cases h
 rename_i h1 h2
 exact ⟨by simpa using h1, by simpa using h2⟩
theorem Z8t {S : Nat -> Prop} {bs : List Value} {b : Bk} {nm : Txt} {l : List Int} {r : Int} (w : World) (hl : rBk.rel w S bs b) (h : Z0j b = (nm, l, r)) :
  Calls Tryz.prog 64 #[.agg bs.toArray] w fun e w' => ∃ A c S', e = .returned (.tuple #[sq nm, .slice A l.length c, .int .i64 r]) /\ (rSl rInt).rel w' (New w S') [.slice A l.length c] l /\ Bw w w' := by
 refine (Y7y w hl).mono ?_
 rintro e w' ⟨z, S', he, hz, hb⟩
 rw [h] at he hz
 obtain ⟨A, c, rfl, _⟩ := rSl.elems hz
 exact ⟨A, c, S', he, hz, hb⟩
theorem X3v {S : Nat -> Prop} {cs : List Value} {t : Tb} {mb mn : Nat} {m : Txt -> Option An} {a : An} (w : World) (hl : rTb.rel w S cs t) (hm : MapA w mb mn m) (h : Y2l m t = a) :
  Calls Tryz.prog 86 #[.agg cs.toArray, .map (some mb)] w fun e w' => e = .returned (.agg #[sq a.name, .bool a.found, .int .i64 a.n]) /\ Bw w w' := h ▸ X1v w hl hm
theorem X4z {B : Nat} {a w : World} (h : Below B a w) : Below B a w.drew := ⟨h.os, h.tape, h.output, h.size, h.block⟩
theorem Y66 {b : Bk} (h : Z7l b = true) {t : Tb} (ht : t ∈ b.tabs) : Z0s t = true := Z3u h t ht
theorem Y1b {pol : Int} : ∀ (l : List Int) (n B : Int), 0 <= B -> -B <= n -> n <= B -> (∀ x ∈ l, -1000000 <= x /\ x <= 1000000) -> 1000000 <= B -> -(B + 1000000 * l.length) <= (Z02 pol n l).1 /\ (Z02 pol n l).1 <= B + 1000000 * l.length
 | [], n, B, h0, h1, h2, _, _ => by simp only [Z02, L0v]; omega
 | o :: t, n, B, h0, h1, h2, h, hB => by
  have ho := h o (by simp)
  have ht : ∀ x ∈ t, -1000000 <= x /\ x <= 1000000 := fun x hx => h x (by simp [hx])
  have k := fun n' (a1 : -(B + 1000000) <= n') (a2 : n' <= B + 1000000) => Y1b (pol := pol) t n' (B + 1000000) (by omega) (by omega) (by omega) ht (by omega)
  rw [L0r]
  unfold Z02
  split
  ·dsimp only; omega
  split
  ·split
   ·dsimp only; omega
   have := k n (by omega) (by omega); push_cast; omega
  split
  ·have := k (min n o) (by omega) (by omega); push_cast; omega
  split
  ·have := k (max n o) (by omega) (by omega); push_cast; omega
  split
  ·have := k (n + o) (by omega) (by omega); push_cast; omega
  have := k n (by omega) (by omega); push_cast; omega
theorem Y9p (ms : List Int) : InI (Z19 (tbOf none) ms).1 := by
 unfold Z19
 rw [if_neg (fun h => by have := (Z00 h.1).1; simp [tbOf, tb0] at this)]
 show InI 0; unfold InI; decide
theorem X1u {t : Tb} (hg : Z0s t = true) (ms : List Int) : InI (Z19 t ms).1 := by
 have h6 := Z00 hg
 have hml : (Z3i t.rules ms).length <= 6 := L0h (Z42 _ _ _) h6.2.2.2.2.2
 unfold Z19
 split
 ·unfold sayL
  split
  ·show InI _; unfold InI; omega
  split
  ·show InI 0; unfold InI; decide
  rename_i o os he
  have hall : ∀ x ∈ o :: os, -1000000 <= x /\ x <= 1000000 := by
   rw [<- he]
   intro x hx
   rw [L1n] at hx
   obtain ⟨i, hi, rfl⟩ := hx
   obtain ⟨k, rfl, hk⟩ := Z9v hi
   unfold Z7h
   rw [L1q, L0f hk]
   exact Z9l hg (L2c hk)
  have hl : (o :: os).length <= 6 := by rw [<- he, L1h]; exact hml
  rw [L0r] at hl
  have := Y1b (pol := t.pol) os o 1000000 (by omega) (hall o (by simp)).1 (hall o (by simp)).2 (fun x hx => hall x (by simp [hx])) (by omega)
  show InI _; unfold InI; omega
 show InI 0; unfold InI; decide
theorem Own.flat_set {α : Type} {R : Rd α} {e : TypeId} {w : World} {base : Nat} {S0 : Nat -> Prop} {v : Value} {xs : List α} (h : Own R e w base S0 v xs) (hF : Flat R) {a : Addr} (ha : ∀ g, v.ownBlock = some g -> g ≠ a.block) (u : Value) : Own R e (w.setCell a u) base (fun _ => False) v xs := by
 obtain ⟨S, ⟨cells, h1, h2, h3, h4⟩, h5⟩ := h.flat hF
 have hg : w.grownBy (w.setCell a u) (some a.block) := ⟨rfl, rfl, rfl, by simp [World.setCell], fun i _ hi => L3 w a u i (fun e => hi (by rw [e]))⟩
 refine ⟨fun _ => False, ⟨cells, h1.kept hg ?_, fun _ _ h => h, h3, fun i x hx => hF _ _ _ _ _ _ (h4 i x hx)⟩, fun _ h => h.elim⟩
 cases hv : v.ownBlock with
 | none => exact .inl rfl
 | some g => exact .inr (fun e => ha g hv (by injection e))
def Y8l (b : Bk) (ns : List Int) (w : World) (e : Ending) (w' : World) : Prop := ∃ z S', e = .returned (.tuple #[z, .int .i64 (askB b ns).2]) /\ (rSl rAn).rel w' (New w S') [z] (askB b ns).1 /\ Bw w w'
theorem X25 {S : Nat -> Prop} (w : World) : (rSl rAn).rel w S [nl] [] := ⟨none, 0, rfl, L0g _, by decide, by simp, fun i x hx => by simp at hx⟩
theorem X2j {S T : Nat -> Prop} {bs : List Value} {b : Bk} {u : Value} {ns : List Int} (w : World) (hl : rBk.rel w S bs b) (hn : (rSl rInt).rel w T [u] ns) :
  Calls Tryz.prog 47 #[.agg bs.toArray, u] w fun e w' => Y8l b ns w e w' := by
 have hl' := hl
 obtain ⟨v0, u0, rfl, hd, htb⟩ := hl
 obtain ⟨A, c, rfl, _, _, hbd, hD⟩ := rSl.elems hd
 obtain ⟨B, d, rfl, _, _, hbt, hF⟩ := rSl.elems htb
 obtain ⟨C, g, rfl, _, _, hbn, hN⟩ := rSl.elems hn
 have hld : b.doms.length <= 4398046511104 := by simp only [rDm] at hbd; omega
 have hlt5 : b.tabs.length <= 1759218604441 := by simp only [rTb] at hbt; omega
 have hln : ns.length <= 17592186044416 := by simp only [rInt] at hbn; omega
 obtain ⟨W0, e0, HB0, hs0, HBK⟩ : ∃ W0, w.alloc (.cells #[.slice A b.doms.length c, .slice B b.tabs.length d] 38) = W0 /\ Hid (Bw w W0) /\ w.heap.size < W0.heap.size /\ Hid (rBk.rel W0 S [.slice A b.doms.length c, .slice B b.tabs.length d] b) := ⟨_, rfl, L0 bA, by simp, L0 (Rd.alloc hl' _)⟩; have c0 := ac0 e0; have c1 := ac1 e0
 have HD := L0 hD
 have HF := L0 hF
 have HN := L0 hN
 clear hl' hd htb hbd hbt hbn hn hD hF hN
 have HZ : Hid (∀ (e : Ending) (w' : World) (r : Int), askB b ns = ([], r) -> e = .returned (.tuple #[nl, .int .i64 r]) -> Bw W0 w' -> Y8l b ns w e w') := L0 (by
  rintro e w' r h rfl h2
  exact ⟨_, fun _ => True, by rw [h], by rw [h]; exact X25 _, HB0.o.trans (h2.mono HB0.o.size)⟩)
 obtain ⟨⟨nm, at_, er⟩, hck⟩ : ∃ x, Z0j b = x := ⟨_, rfl⟩
 have HCK := L0 hck
 have hmm := @run_makeMap Tryz.prog
 go_enter Tryz.func47, Tryz.ntmps47
 by_cases her : er = 0
 ·subst her
  have HC0 : Hid ((Z0j b).2.2 = 0) := L0 (by rw [hck])
  have HL := L0 (Y3a HC0.o)
  have HTO := L0 (Z9d HC0.o)
  have HA1 : Hid (askB b ns = if ns.length ≠ b.doms.length then ([], 1) else if Y80 b.doms ns = false then ([], 2) else (b.tabs.map (Z53 (Y6v b ns ((Z3d b).getD []))), 0)) := L0 (by unfold askB; rw [if_neg (by rw [HC0.o]; simp)])
  clear hck
  by_cases hne : ns.length = b.doms.length
  ·have HNE := L0 hne
   have hq1 : ((ns.length : Int) == (b.doms.length : Int)) = true := by simp [hne]
   have hq2 : (ns.length == b.doms.length) = true := by simp [hne]
   have HA2 := L0 (HA1.o.trans (if_neg (by rw [hne]; simp)))
   clear hne HA1
   go_wp2_with (go_at_call 64; (with_reducible refine (Z8t W0 HBK.o HCK.o).mono ?_); rintro e w1 ⟨Ak, ck, Sk, rfl, _, hb1⟩; have HB1 := L0 hb1; have d0 := (hb1.ce 0 hs0).trans c0; have d1 := (hb1.ce 1 hs0).trans c1; clear hb1; obtain ⟨WM, eM, HBM, HMA, m0, HMb⟩ : ∃ WM, w1.alloc (.map #[] 0) = WM /\ Hid (Bw W0 WM) /\ Hid (MapA WM w1.heap.size 0 (Z2y b.doms ns 0)) /\ WM.cell? (zn w.heap.size 0) = some (.slice A b.doms.length c) /\ Hid (W0.heap.size <= w1.heap.size) := ⟨_, rfl, L0 (HB1.o.alloc HB1.o.size _), L0 (MapA.made _), (L0j _ _ _ (L0c hs0 HB1.o.size)).trans d0, L0 HB1.o.size⟩)
   clear d0 d1 m0 eM hq1 hq2 e0
   try unfold Bw at *
   generalize hmb : w1.heap.size = mb at *
   clear hmb
   go_loopw [41] (fun i wr => ∃ (k n : Nat), k <= b.doms.length /\ i = .int .i64 k /\ Hid (MapA wr mb n (Z2y b.doms ns k)) /\ Hid (n <= k) /\ Hid (∀ j, j < k -> inOk b.doms ns j = true) /\ Hid (Bw W0 wr)) (fun i _ => b.doms.length - (intOf i).toNat)
   exact ⟨0, 0, L0o _, rfl, HMA, L0 (L0g _), L0 (by omega), HBM⟩
   obtain ⟨k, n, hk, rfl, HM, Hn, HK, HB⟩ := hrel
   by_cases hlt : k < b.doms.length
   ·obtain ⟨bB, off, x, rfl, hbB, hx, ⟨hxl, hxi⟩, g0, g1, g2⟩ := HD.o.dm hlt
    obtain ⟨q, off', v, rfl, _, hq, hy, hyi, h3⟩ := HN.o.intAt (show k < ns.length by rw [HNE.o]; exact hlt)
    have hbw := HB0.o.trans (HB.o.mono HB0.o.size)
    rw [<- hbw.ce _ hbB] at g0 g1 g2
    rw [<- hbw.ce _ hq] at h3
    have hik : (k : Int) < b.doms.length := by omega
    have hin : (k : Int) < ns.length := by rw [HNE.o]; exact hik
    have HIK : Hid (inOk b.doms ns k = (decide (x.lo <= v) && decide (v <= x.hi))) := L0 (by unfold inOk; rw [hx, hy]; rfl)
    have HKN : Hid (Z2y b.doms ns (k + 1) = putA (Z2y b.doms ns k) x.name ⟨[], true, v⟩) := L0 (by rw [Z2y, hx, hy]; rfl)
    obtain ⟨W3, e3, HB3, h4, hqs, hws, HM3⟩ : ∃ W3, wr.alloc (.cells #[sq x.name, .int .i64 x.lo, .int .i64 x.hi] 63) = W3 /\ Hid (Bw W0 W3) /\ W3.cell? (zn q (off' + k)) = some (.int .i64 v) /\ q < W3.heap.size /\ wr.heap.size < W3.heap.size /\ Hid (MapA W3 mb n (Z2y b.doms ns k)) := ⟨_, rfl, L0 (HB.o.alloc HB.o.size _), (L0j _ _ _ (L0c hq hbw.size)).trans h3, L0c (L0c hq hbw.size) (by simp), by simp, L0 (HM.o.alloc _)⟩; have j0 := ac0 e3; have j1 := ac1 e3; have j2 := ac2 e3
    have HYI := L0 hyi
    clear hx hy hyi hbw hq
    by_cases h1 : v < x.lo
    ·have hd1 : decide (v < x.lo) = true := decide_eq_true h1
     have HC : Hid (askB b ns = ([], 2)) := L0 (by rw [HA2.o, if_pos (Y6b hlt (by rw [HIK.o, decide_eq_false (by omega)]; rfl))])
     clear h1
     go_wp2
     refine wp_region_quiet_below (by kernel_rfl) (by kernel_rfl) ?_
     repeat (go_big_quiet_step (fail))
     refine wpQuiet_nil ?_
     intro _ hw'
     obtain ⟨⟨dq, osq⟩, hw''⟩ := hw'
     subst hw''
     go_wp2
     go_ret2
     exact HZ.o _ _ _ HC.o rfl (HB3.o.trans ((below_regrown _ _ _).mono HB3.o.size))
    by_cases h2 : x.hi < v
    ·have hd1 : decide (v < x.lo) = false := decide_eq_false h1
     have hd2 : decide (x.hi < v) = true := decide_eq_true h2
     have HC : Hid (askB b ns = ([], 2)) := L0 (by rw [HA2.o, if_pos (Y6b hlt (by rw [HIK.o, decide_eq_false (show ¬ v <= x.hi by omega)]; simp))])
     clear h1 h2
     go_wp2
     refine wp_region_quiet_below (by kernel_rfl) (by kernel_rfl) ?_
     repeat (go_big_quiet_step (fail))
     refine wpQuiet_nil ?_
     intro _ hw'
     obtain ⟨⟨dq, osq⟩, hw''⟩ := hw'
     subst hw''
     go_wp2
     go_ret2
     exact HZ.o _ _ _ HC.o rfl (HB3.o.trans ((below_regrown _ _ _).mono HB3.o.size))
    have hd1 : decide (v < x.lo) = false := decide_eq_false h1
    have hd2 : decide (x.hi < v) = false := decide_eq_false h2
    have HS := L0 (Z50 HK.o (by rw [HIK.o, decide_eq_true (show x.lo <= v by omega), decide_eq_true (show v <= x.hi by omega)]; rfl))
    clear h1 h2
    go_wp2
    refine wp_region_quiet_below (by kernel_rfl) (by kernel_rfl) ?_
    repeat (go_big_quiet_step (fail))
    refine wpQuiet_nil ?_
    intro _ hw'
    obtain ⟨⟨dq, osq⟩, hw''⟩ := hw'
    subst hw''
    obtain ⟨W4, e4, HB4, a0, a4, HM4⟩ : ∃ W4, Go.Sort.grow (redrawn W3 dq) osq = W4 /\ Hid (Bw W0 W4) /\ W4.cell? (zn wr.heap.size 0) = some (sq x.name) /\ W4.cell? (zn q (off' + k)) = some (.int .i64 v) /\ Hid (MapA W4 mb n (Z2y b.doms ns k)) :=
     ⟨_, rfl, L0 (HB3.o.trans ((below_regrown _ _ _).mono HB3.o.size)), ((below_regrown W3 dq osq).ce 0 hws).trans j0, ((below_regrown W3 dq osq).ce _ hqs).trans h4, L0 (HM3.o.below (below_regrown _ _ _))⟩
    obtain ⟨W5, e5, hM5, hb5, hg5⟩ := SMap.update (B := W0.heap.size) (t := 150) HM4.o.1.drew Tryz.underlying150 Tryz.underlying9 (by have := Hn.o; unfold maxLen; omega) hxl (.agg #[.string ⟨#[]⟩, .bool true, .int .i64 v]) HMb.o
    have HM5 : Hid (MapA W5 mb (n + 1) (Z2y b.doms ns (k + 1))) := L0 (by rw [HKN.o]; exact MapA.put hM5 HM4.o.2 HYI.o)
    have HB5 := L0 ((X4z HB4.o).trans hb5)
    clear hM5 hb5 hg5
    rw [e4]
    go_wp2
    go_region
    all_goals
     go_wp2
     go_roundw
     exact ⟨k + 1, n + 1, by omega, by go_num, HM5, L0 (by have := Hn.o; omega), HS, HB5⟩
     simp [intOf]; omega
   have HIO : Hid (Y80 b.doms ns = true) := L0 (Z4b hlt HK.o)
   have HA3 := L0 (HA2.o.trans (if_neg (by rw [HIO.o]; decide)))
   obtain rfl : k = b.doms.length := by omega
   clear HK HA2 hk
   obtain ⟨w2, hw2⟩ : ∃ x, x = wr := ⟨_, rfl⟩
   subst hw2
   have f0 := (HB.o.ce 0 hs0).trans c0
   have f1 := (HB.o.ce 1 hs0).trans c1
   have HBK2 := L0 (jD HBK.o HB.o)
   obtain ⟨oo, hoo⟩ : ∃ o, Z3d b = o := ⟨_, rfl⟩
   have HOO := L0 hoo
   obtain ⟨o, ho⟩ : ∃ x, oo.getD [] = x := ⟨_, rfl⟩
   have HO := L0 ho
   clear hoo ho
   go_wp2_with (go_at_call 85; (with_reducible refine (Y1q w2 HBK2.o HOO.o).mono ?_); rintro e wo ⟨zo, rfl, hzo, hbo⟩; obtain ⟨HB9, HM9, HR9⟩ : Hid (Bw W0 wo) /\ Hid (MapA wo mb n (Z2y b.doms ns b.doms.length)) /\ Hid ((rSl rStr).rel wo (Up (fun _ => False) w2.heap.size) [zo] o) := ⟨L0 (HB.o.trans (hbo.mono HB.o.size)), L0 (HM.o.below hbo), L0 (by rw [<- HO.o]; exact hzo)⟩; clear hzo hbo; have hro := HR9.o; obtain ⟨Ao, co, rfl, _, _, hbyo, _⟩ := rSl.elems hro; clear hro)
   clear f0 f1 hlt
   have hlo : o.length <= 8796093022208 := by simp only [rStr] at hbyo; omega
   clear hbyo
   have Hmb := L0 (show mb < w2.heap.size from HM.o.1.lt)
   try unfold Bw at *
   generalize hN2 : w2.heap.size = N2 at *
   clear hN2
   go_loopw [78] (fun i wr => ∃ (k n : Nat), k <= o.length /\ i = .int .i64 k /\ Hid (MapA wr mb n (Z4c b ns o k)) /\ Hid (n <= k + 4) /\ Hid ((rSl rStr).rel wr (Up (fun _ => False) N2) [.slice Ao o.length co] o) /\ Hid (Bw W0 wr)) (fun i _ => o.length - (intOf i).toNat)
   exact ⟨0, n, L0o _, rfl, HM9, L0 (by have := Hn.o; have := HL.o.1; omega), HR9, HB9⟩
   obtain ⟨k, n', hk, rfl, HM, Hn', HR, HB⟩ := hrel
   by_cases hlt : k < o.length
   ·obtain ⟨_, _, hA0, _, _, _, hE⟩ := rSl.elems HR.o
    obtain ⟨rfl, rfl⟩ : Ao = _ /\ co = _ := by injection hA0 with h1 h2 h3; exact ⟨h1, h3⟩
    obtain ⟨q, off, s, rfl, hSq, hq, hx, hxl, g0⟩ := hE.str hlt
    have hik : (k : Int) < o.length := by omega
    have HST := L0 (Y23 (b := b) (ns := ns) hx)
    obtain ⟨tb, htb⟩ : ∃ x, tbOf (findT b.tabs s) = x := ⟨_, rfl⟩
    obtain ⟨ft, hft⟩ : ∃ x, (findT b.tabs s).isSome = x := ⟨_, rfl⟩
    have HT := L0 htb
    have HF2 := L0 hft
    obtain ⟨a, ha⟩ : ∃ a, Y2l (Z4c b ns o k) tb = a := ⟨_, rfl⟩
    have HSA := L0 ha
    have HAI : Hid (InI a.n) := L0 (by
     rw [<- ha]
     refine X1t fun ms => ?_
     rw [<- htb]
     cases hf : findT b.tabs s with
     | none => exact Y9p _
     | some t => exact X1u (Y66 HTO.o.2 (L1s hf)) _)
    have f0 := (HB.o.ce 0 hs0).trans c0
    have f1 := (HB.o.ce 1 hs0).trans c1
    have HBK2 := L0 (jD HBK.o HB.o)
    clear hx hE hA0 htb hft ha
    go_wp2_with (first | (go_at_call 50; (with_reducible refine (Z23 wr HBK2.o hxl HT.o HF2.o).mono ?_); rintro e w4 ⟨A5, c5, B5, d5, S5, rfl, hr5, hb4⟩; obtain ⟨W5, e5, HB5, HR5, HM5, HO5⟩ : ∃ W5, w4.alloc (.cells #[sq tb.name, .int .i64 tb.pol, .bool tb.comp, .slice A5 tb.ins.length c5, .slice B5 tb.rules.length d5] 66) = W5 /\ Hid (Bw W0 W5) /\ Hid (rTb.rel W5 S5 [sq tb.name, .int .i64 tb.pol, .bool tb.comp, .slice A5 tb.ins.length c5, .slice B5 tb.rules.length d5] tb) /\ Hid (MapA W5 mb n' (Z4c b ns o k)) /\ Hid ((rSl rStr).rel W5 (Up (fun _ => False) N2) [.slice (some (zn q off)) o.length co] o) := ⟨_, rfl, L0 ((HB.o.trans (hb4.mono HB.o.size)).alloc (L0h HB.o.size hb4.size) _), L0 (Rd.alloc hr5 _), L0 ((HM.o.below hb4).alloc _), L0 (Rd.alloc (jD HR.o hb4) _)⟩; have j50 := ac0 e5; have j51 := ac1 e5; have j52 := ac2 e5; have j53 := ac3 e5; have j54 := ac4 e5; clear hr5 hb4)| (go_at_call 86; (with_reducible refine (X3v W5 HR5.o HM5.o HSA.o).mono ?_); rintro e w6 ⟨rfl, hb6⟩; have HM6 := L0 (HM5.o.below hb6); have HB6 := L0 (HB5.o.trans (hb6.mono HB5.o.size)); have HO6 := L0 (jD HO5.o hb6); clear hb6)| (at_mapUpdate; refine Z8b (B := W0.heap.size) rfl (.tmp 88) (.tmp 89) (.tmp 92) 150 rfl Tryz.underlying150 Tryz.underlying9 rfl HM6.o.1 (by have := Hn'.o; unfold maxLen; omega) rfl hxl rfl HMb.o ?_; intro w7 hM7 hb7 hg7))
    have HM7 : Hid (MapA w7 mb (n' + 1) (Z4c b ns o (k + 1))) := L0 (by rw [HST.o, HT.o, HSA.o]; exact MapA.put hM7 HM6.o.2 HAI.o)
    have HO7 := L0 ((rSl rStr).keep HO6.o (.grown hg7 fun g hg h => by cases hg; rcases h with h | h; exact h; have := Hmb.o; omega))
    go_roundw
    exact ⟨k + 1, n' + 1, by omega, by go_num, HM7, L0 (by have := Hn'.o; omega), HO7, L0 (HB6.o.trans hb7)⟩
    simp [intOf]; omega
   have HAS : Hid (Z4c b ns o k = Y6v b ns o) := L0 (by unfold Z4c Y6v; rw [L0l (by omega)])
   rw [HAS.o] at HM
   have HA4 : Hid (askB b ns = (b.tabs.map (Z53 (Y6v b ns o)), 0)) := L0 (by rw [HA3.o, HOO.o, HO.o])
   clear HA3 hk
   generalize Y6v b ns o = m at *
   obtain ⟨w3, hw3⟩ : ∃ x, x = wr := ⟨_, rfl⟩
   subst hw3
   have f1 := (HB.o.ce 1 hs0).trans c1
   go_wp2
   clear f1 hlt
   have HMs := HM
   have HBs := HB
   go_loopw [18, 97] (fun ov i wr => ∃ (k : Nat) (out : List An), k <= b.tabs.length /\ i = .int .i64 k /\ Own rAn 99 wr w3.heap.size (fun _ => False) ov out /\ Hid (out = (b.tabs.take k).map (Z53 m)) /\ Hid (Bw w3 wr)) (fun _ i _ => b.tabs.length - (intOf i).toNat)
   exact ⟨0, [], L0o _, rfl, Own.nil _ _ _ _ _, L0 rfl, L0 (L0m _ _)⟩
   obtain ⟨k, out, hk, rfl, hown, HO2, HB⟩ := hrel
   have HBW := L0 (HBs.o.trans (HB.o.mono HBs.o.size))
   by_cases hlt : k < b.tabs.length
   ·obtain ⟨bB, off, x, A1, ca, A2, cb, rfl, hbB, hx, hr, g0, g1, g2, g3, g4⟩ := HF.o.tb hlt
    have hbw := HB0.o.trans (HBW.o.mono HB0.o.size)
    rw [<- hbw.ce _ hbB] at g0 g1 g2 g3 g4
    have hik : (k : Int) < b.tabs.length := by omega
    have hxl : x.name.length <= 140737488355328 := by obtain ⟨_, _, _, h, _⟩ := hr; exact h
    obtain ⟨⟨nm', fd, nn⟩, ha⟩ : ∃ a, atM m x.name = a := ⟨_, rfl⟩
    have HV : Hid (((m x.name).map ansV).getD (ansV an0) = .agg #[sq nm', .bool fd, .int .i64 nn]) := L0 (by rw [MapA.getD, ha]; rfl)
    have HNN : Hid (InI nn) := L0 (by have := HMs.o.2 x.name; rw [ha] at this; exact this)
    have HOS : Hid (out ++ [⟨x.name, fd, nn⟩] = (b.tabs.take (k + 1)).map (Z53 m)) := L0 (by rw [Z0c hx, L1z, <- HO2.o]; simp [Z53, ha])
    have HOL : Hid (out.length <= 4) := L0 (by rw [HO2.o, L1h, L1i]; have := HL.o.2; omega)
    have HBY : Hid ((out.length + 1) * rAn.bytes <= 140737488355328) := L0 (by have := HOL.o; show (_ + 1) * 32 <= _; omega)
    obtain ⟨W3, e3, HB3, HM3, HOW3, hw3s⟩ : ∃ W3, wr.alloc (.cells #[sq x.name, .int .i64 x.pol, .bool x.comp, .slice A1 x.ins.length ca, .slice A2 x.rules.length cb] 66) = W3 /\ Hid (Bw w3 W3) /\ Hid (MapA W3 mb n' m) /\ Hid (Own rAn 99 W3 w3.heap.size (fun _ => False) u18 out) /\ wr.heap.size < W3.heap.size := ⟨_, rfl, L0 (HB.o.alloc HB.o.size _), L0 ((HMs.o.below HB.o).alloc _), L0 (hown.alloc _), by simp⟩; have j0 := ac0 e3
    obtain ⟨W4, e4, HB4, z0, hk0, hw4s, HOW4⟩ : ∃ W4, W3.alloc (.cells #[sq nm', .bool fd, .int .i64 nn] 99) = W4 /\ Hid (Bw w3 W4) /\ W4.frozen? (zn W3.heap.size 0) = false /\ W4.cell? (zn wr.heap.size 0) = some (sq x.name) /\ Hid (W3.heap.size < W4.heap.size) /\ Hid (Own rAn 99 W4 w3.heap.size (fun _ => False) u18 out) := ⟨_, rfl, L0 (HB3.o.alloc HB3.o.size _), by simp, (L0j _ _ _ hw3s).trans j0, L0 (by simp), L0 (HOW3.o.alloc _)⟩; have k0 := ac0 e4; have k1 := ac1 e4; have k2 := ac2 e4
    obtain ⟨W5, e5, HB5, l0, l1, l2, HOW5⟩ : ∃ W5, W4.setCell (zn W3.heap.size 0) (sq x.name) = W5 /\ Hid (Bw w3 W5) /\ W5.cell? (zn W3.heap.size 0) = some (sq x.name) /\ W5.cell? (zn W3.heap.size 1) = some (.bool fd) /\ W5.cell? (zn W3.heap.size 2) = some (.int .i64 nn) /\ Hid (Own rAn 99 W5 w3.heap.size (fun _ => False) u18 out) :=
     ⟨_, rfl, L0 (HB4.o.setCell HB3.o.size _), L0e _ _ _ k0, (cso).trans k1, (cso).trans k2, L0 (HOW4.o.flat_set (fun _ _ _ _ _ _ h => h) (fun g hg => by have := HOW3.o.lt g hg; show g ≠ W3.heap.size; omega) _)⟩
    clear hx hr hbw hown ha
    go_wp2_with (first | (at_lookup; refine Z20 rfl (.tmp 101) (.tmp 103) 150 rfl Tryz.underlying150 Tryz.underlying9 (X30 _) rfl HM3.o.1 rfl hxl HV.o ?_) | (at_builtin; refine Z0a (R := rAn) (x := ⟨x.name, fd, nn⟩) X40 rfl (.tmp 108) (.tmp 110) rfl rfl HOW5.o [sq x.name, .bool fd, .int .i64 nn] rfl rfl (fun _ => False) ⟨rfl, hxl, HNN.o⟩ (fun _ h => h.elim) HBY.o HB5.o.size ?_; intro v9 w9 hown9 hb9 _ _))
    go_roundw
    exact ⟨k + 1, out ++ [⟨x.name, fd, nn⟩], by omega, by go_num, hown9, HOS, L0 (HB5.o.trans hb9)⟩
    simp [intOf]; omega
   have HC : Hid (askB b ns = (out, 0)) := L0 (by rw [HA4.o, HO2.o, L0l (by omega)])
   obtain ⟨A9, l9, rfl⟩ := hown.value
   go_wp2
   go_ret2
   exact ⟨_, _, by rw [HC.o]; rfl, by rw [HC.o]; exact X0a (hown.rel (by decide)) (L0h HB0.o.size HBs.o.size), HB0.o.trans (HBW.o.mono HB0.o.size)⟩
  have HA3 : Hid (askB b ns = ([], 1)) := L0 (by rw [HA1.o, if_pos hne])
  have hq1 : ((ns.length : Int) == (b.doms.length : Int)) = false := beq_eq_false_iff_ne.2 (by omega)
  have hq2 : (ns.length == b.doms.length) = false := beq_eq_false_iff_ne.2 hne
  clear hne
  go_wp2_with (go_at_call 64; (with_reducible refine (Z8t W0 HBK.o HCK.o).mono ?_); rintro e w1 ⟨Ak, ck, Sk, rfl, _, hb1⟩; have HB1 := L0 hb1; have d0 := (hb1.ce 0 hs0).trans c0; have d1 := (hb1.ce 1 hs0).trans c1; clear hb1)
  go_ret2
  exact HZ.o _ _ _ HA3.o rfl HB1.o
 have HA3 : Hid (askB b ns = ([], er)) := L0 (by unfold askB; rw [hck]; exact if_pos her)
 have hq1 : (er == 0) = false := by simpa using her
 clear hck her
 go_wp2_with (go_at_call 64; (with_reducible refine (Z8t W0 HBK.o HCK.o).mono ?_); rintro e w1 ⟨Ak, ck, Sk, rfl, _, hb1⟩; have HB1 := L0 hb1; have d0 := (hb1.ce 0 hs0).trans c0; have d1 := (hb1.ce 1 hs0).trans c1; clear hb1)
 go_ret2
 exact HZ.o _ _ _ HA3.o rfl HB1.o
structure Rep where
 code : Int
 n : Int
 text : Txt
 ans : List An
 at' : List Int
def rRep : Rd Rep where
 k := 5
 bytes := 80
 rel w S cs x := ∃ v u, cs = [.int .i64 x.code, .int .i64 x.n, sq x.text, v, u] /\ InI x.code /\ InI x.n /\ x.text.length <= 140737488355328 /\ (rSl rAn).rel w S [v] x.ans /\ (rSl rInt).rel w S [u] x.at'
 len h := by obtain ⟨v, u, rfl, _⟩ := h; rfl
 keep h hk := by obtain ⟨v, u, e, h1, h2, h3, h4, h5⟩ := h; exact ⟨v, u, e, h1, h2, h3, (rSl rAn).keep h4 hk, (rSl rInt).keep h5 hk⟩
 mono h hk := by obtain ⟨v, u, e, h1, h2, h3, h4, h5⟩ := h; exact ⟨v, u, e, h1, h2, h3, (rSl rAn).mono h4 hk, (rSl rInt).mono h5 hk⟩
 one h x hx := by
  obtain ⟨v, u, rfl, _, _, _, h4, h5⟩ := h
  simp at hx
  rcases hx with rfl | rfl | rfl | rfl | rfl
  ·rfl
  ·rfl
  ·rfl
  ·exact (rSl rAn).one h4 _ (by simp)
  exact (rSl rInt).one h5 _ (by simp)
theorem Elems.an {w : World} {S : Nat -> Prop} {A : Option Addr} {l : List An} (h : Elems rAn w S A l) {i : Nat} (hi : i < l.length) : ∃ b off x, A = some (zn b off) /\ b < w.heap.size /\ l[i]? = some x /\
  w.cell? (zn b (off + i * 3)) = some (sq x.name) /\ w.cell? (zn b (off + i * 3 + 1)) = some (.bool x.found) /\ w.cell? (zn b (off + i * 3 + 2)) = some (.int .i64 x.n) := by
 obtain ⟨b, off, es, hA, hS, hb, ⟨rfl, hr⟩, hc⟩ := h i l[i] (L0f hi)
 exact ⟨b, off, l[i], hA, hb, L0f hi, hc 0 _ rfl, hc 1 _ rfl, hc 2 _ rfl⟩
theorem X15 {S T : Nat -> Prop} {bs : List Value} {b : Bk} {u : Value} {ns : List Int} {l : List An} {r : Int} (w : World) (hl : rBk.rel w S bs b) (hn : (rSl rInt).rel w T [u] ns) (h : askB b ns = (l, r)) :
  Calls Tryz.prog 47 #[.agg bs.toArray, u] w fun e w' => ∃ A c S', e = .returned (.tuple #[.slice A l.length c, .int .i64 r]) /\ (rSl rAn).rel w' (New w S') [.slice A l.length c] l /\ Bw w w' := by
 refine (X2j w hl hn).mono ?_
 rintro e w' ⟨z, S', he, hz, hb⟩
 rw [h] at he hz
 obtain ⟨A, c, rfl, _⟩ := rSl.elems hz
 exact ⟨A, c, S', he, hz, hb⟩
theorem Z29 : ∀ a : Txt, jC a a = false
 | [] => rfl
 | a :: l => by simp [jC, Z29 l]
theorem Z2j : ∀ {a b c : Txt}, jC a b = true -> jC b c = true -> jC a c = true
 | _, _, [], _, h => by simp [jC] at h
 | [], _, _ :: _, _, _ => rfl
 | a :: x, [], _ :: _, h, _ => by simp [jC] at h
 | a :: x, b :: y, c :: z, h1, h2 => by
  simp only [jC, L4u, decide_eq_true_iff, L0t, beq_iff_eq] at h1 h2 ⊢
  rcases h1 with h1 | ⟨rfl, h1⟩
  ·rcases h2 with h2 | ⟨rfl, h2⟩
   ·exact .inl (UInt8.lt_trans h1 h2)
   exact .inl h1
  rcases h2 with h2 | ⟨rfl, h2⟩
  ·exact .inl h2
  exact .inr ⟨rfl, Z2j h1 h2⟩
theorem Y1a {α : Type} {f : α -> Txt} {l : List α} (h : ∀ k (hk : k + 1 < l.length), jC (f l[k]) (f l[k + 1]) = true) : (l.map f).Nodup := by
 have key : ∀ (j i : Nat) (hij : i < j) (hj : j < l.length), jC (f (l[i]'(by omega))) (f l[j]) = true := by
  intro j
  induction j with
  | zero => intro i hi; omega
  | succ j ih =>
   intro i hij hj
   rcases L4t.1 hij with h1 | rfl
   ·exact Z2j (ih i h1 (by omega)) (h j hj)
   exact h i hj
 show List.Pairwise _ _
 rw [L3l]
 intro i j hi hj hij e
 rw [jB, jB] at e
 rw [L1h] at hj
 have := key j i hij hj
 rw [e, Z29] at this
 cases this
theorem Z64 {α : Type} {f : α -> Txt} : ∀ {l : List α}, (l.map f).Nodup -> ∀ {x : α}, x ∈ l -> l.find? (fun y => f y == f x) = some x
 | a :: l, h, x, hx => by
  rw [L2q, List.nodup_cons] at h
  rw [List.find?_cons]
  rcases L2o.1 hx with rfl | hx
  ·simp
  have : (f a == f x) = false := by
   rw [beq_eq_false_iff_ne]
   intro e
   exact h.1 (L1n.2 ⟨x, hx, e.symm⟩)
  rw [this]
  exact Z64 h.2 hx
structure CheckOk (b : Bk) : Prop where
 dl : b.doms.length <= 4
 tl : b.tabs.length <= 4
 doms : Y0t b.doms = true
 tabs : Z7l b = true
 box : ∀ t ∈ b.tabs, Z1i (Z5f b t) = true
 ord : (Z3d b).isSome = true
 clash : ∀ t ∈ b.tabs, (Z2k t (bxOf b t)).length = 0 /\ (t.comp = true -> (gapB t (bxOf b t)).length = 0)
theorem Z9f {b : Bk} : ∀ {l : List Tb}, (Z03 b l).2.2 = 0 -> ∀ t ∈ l, (Z2k t (bxOf b t)).length = 0 /\ (t.comp = true -> (gapB t (bxOf b t)).length = 0)
 | [], _, t, ht => by cases ht
 | a :: l, h, t, ht => by
  rw [Z03] at h
  split at h
  ·cases h
  rename_i h1
  split at h
  ·cases h
  rename_i h2
  rcases L2o.1 ht with rfl | ht
  ·exact ⟨by omega, fun hc => by
    rcases L2p (gapB t (bxOf b t)).length with h3 | h3
    ·exact h3
    exact absurd ⟨h3, hc⟩ h2⟩
  exact Z9f h t ht
theorem Y4z {b : Bk} (h : (Z0j b).2.2 = 0) : CheckOk b := by
 have hl := Y3a h
 have hd := Z9d h
 unfold Z0j at h
 rw [if_neg (by omega), if_neg (by rw [hd.1]; decide), if_neg (by rw [hd.2]; decide)] at h
 split at h
 ·cases h
 rename_i hf
 rw [L3m] at hf
 split at h
 ·cases h
 rename_i ho
 exact ⟨hl.1, hl.2, hd.1, hd.2, fun t ht => by simpa using hf t ht, by revert ho; cases (Z3d b).isSome <;> simp, Z9f h⟩
section
variable {b : Bk} (h : CheckOk b)
include h
theorem CheckOk.domAt {i : Nat} {d : Dm} (hd : b.doms[i]? = some d) : Z4d d = true := by
 obtain ⟨hi, _⟩ := L0n.1 hd
 have := L1t.1 h.doms i (L2k.2 hi)
 unfold Y11 at this
 rw [hd] at this
 simp only [L0t] at this
 exact this.1
theorem CheckOk.domNames : (b.doms.map (·.name)).Nodup := Y1a fun k hk => by
 have := L1t.1 h.doms (k + 1) (L2k.2 hk)
 unfold Y11 at this
 rw [L0f hk] at this
 simp only [L0t, L4u, decide_eq_true_iff] at this
 rcases this.2 with h1 | h1
 ·omega
 rw [show k + 1 - 1 = k by omega] at h1
 simpa [Y9a, jA (show k < b.doms.length by omega)] using h1
theorem CheckOk.tabNames : (b.tabs.map (·.name)).Nodup := Y1a fun k hk => by
 have := L1t.1 h.tabs (k + 1) (L2k.2 hk)
 unfold Y0m at this
 rw [L0f hk] at this
 simp only [L0t, L4u, decide_eq_true_iff] at this
 rcases this.2 with h1 | h1
 ·omega
 rw [show k + 1 - 1 = k by omega] at h1
 simpa [Y9b, jA (show k < b.tabs.length by omega)] using h1
theorem CheckOk.apart {t : Tb} (ht : t ∈ b.tabs) : findD b.doms t.name = none := by
 obtain ⟨i, hi, rfl⟩ := L1u ht
 have := L1t.1 h.tabs i (L2k.2 hi)
 unfold Y0m at this
 rw [L0f hi] at this
 simp only [L0t, Bool.not_eq_true', Option.isSome_eq_false_iff, Option.isNone_iff_eq_none] at this
 exact this.1.2
theorem CheckOk.good {t : Tb} (ht : t ∈ b.tabs) : Z0s t = true := Z3u h.tabs t ht
theorem CheckOk.findT {t : Tb} (ht : t ∈ b.tabs) : findT b.tabs t.name = some t := Z64 h.tabNames ht
theorem CheckOk.findD {d : Dm} (hd : d ∈ b.doms) : findD b.doms d.name = some d := Z64 h.domNames hd
end
section
variable {b : Bk} {cs : List Int} {o : List Txt} (h : CheckOk b) (hin : Y80 b.doms cs = true) (ho : Z3d b = some o)
include ho
include h
include hin
end
