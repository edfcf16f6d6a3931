import Derived.Test.YtlopccnehgolnacGreatDoorCheck
import Derived.Test.YtlopccnehgolnacGreatDoorSays
import Derived.Deep.DeepMust
import Derived.Test.YtlopccnehgolnacGreatDoorGL11
import Derived.Test.YtlopccnehgolnacGreatDoorGL8
import Derived.Test.YtlopccnehgolnacGreatDoorGL18
import Derived.Test.YtlopccnehgolnacGreatDoorGapMath
namespace Go.Proofs.YtlopccnehgolnacGreatDoor
open Go.RowKit Rb
open Bool renaming or_eq_true -> jA
open List renaming getElem?_eq_getElem -> jB, getElem_map -> jC
open Go.Op renaming bytesLess -> jD
open Rd renaming below -> jE
set_option maxRecDepth 100000
set_option maxHeartbeats 1600000
def rAn : Rd An where
 k := 3
 bytes := 32
 rel _ _ cs x := cs = [.string ⟨x.name.toArray⟩, .bool x.found, .int .i64 x.n] /\ x.name.length <= 140737488355328 /\ InI x.n
 len h := by obtain ⟨rfl, _⟩ := h; rfl
 keep h _ := h
 mono h _ := h
 one h u hu := by
  obtain ⟨rfl, _⟩ := h
  simp at hu
  rcases hu with rfl | rfl | rfl <;> rfl
theorem X2t : ElemOf Tryz.prog rAn 28 99 := .mk' Tryz.underlying28 (z := .agg #[.string ⟨#[]⟩, .bool false, .int .i64 0]) (k := 3) (b := 32) (by kernel_rfl) rfl rfl rfl (by decide) (by decide)
def putA (m : Txt -> Option An) (s : Txt) (a : An) : Txt -> Option An := fun t => if t = s then some a else m t
theorem MapA.put {w : World} {b n : Nat} {m : Txt -> Option An} {s : Txt} {a : An} (h : SMap Tryz.prog 9 w b n (putM (fun s => (m s).map ansV) s (ansV a))) (hm : ∀ s, InI (atM m s).n) (ha : InI a.n) : MapA w b n (putA m s a) := by
 refine ⟨h.congr fun t => ?_, fun t => ?_⟩
 ·unfold putM putA
  split <;> rfl
 ·have := hm t
  unfold atM putA at *
  split
  ·exact ha
  ·exact this
theorem MapA.made (w : World) : MapA (w.alloc (.map #[] 0)) w.heap.size 0 (fun _ => none) := ⟨SMap.made _ _ _, fun _ => by show InI 0; unfold InI; decide⟩
def Z2k (l : List Dm) (ns : List Int) : Nat -> (Txt -> Option An)
 | 0 => fun _ => none
 | k + 1 => match l[k]? with | some d => putA (Z2k l ns k) d.name ⟨[], true, (ns[k]?).getD 0⟩ | none => Z2k l ns k
def inOk (l : List Dm) (ns : List Int) (k : Nat) : Bool := match l[k]? with | some d => decide (d.lo <= (ns[k]?).getD 0) && decide ((ns[k]?).getD 0 <= d.hi) | none => true
def Y65 (l : List Dm) (ns : List Int) : Bool := (List.range l.length).all (inOk l ns)
theorem Y4i {l : List Dm} {ns : List Int} {k : Nat} (hk : k < l.length) (h : inOk l ns k = false) : Y65 l ns = false := Z25 hk h
def X2n (b : Bk) (m : Txt -> Option An) (s : Txt) : Txt -> Option An := putA m s (Y06 m (tbOf (Z2a b.tabs s)))
def Z3s (b : Bk) (ns : List Int) (o : List Txt) (k : Nat) : Txt -> Option An := (o.take k).foldl (X2n b) (Z2k b.doms ns b.doms.length)
def Y40 (b : Bk) (ns : List Int) (o : List Txt) : Txt -> Option An := o.foldl (X2n b) (Z2k b.doms ns b.doms.length)
def Z5a (m : Txt -> Option An) (t : Tb) : An := ⟨t.name, (atM m t.name).found, (atM m t.name).n⟩
def askB (b : Bk) (ns : List Int) : List An × Int :=
 if (Z0g b).2.2 ≠ 0 then ([], (Z0g b).2.2)
 else if ns.length ≠ b.doms.length then ([], 1)
 else if Y65 b.doms ns = false then ([], 2)
 else (b.tabs.map (Z5a (Y40 b ns ((Z2w b).getD []))), 0)
theorem Y1n {b : Bk} {ns : List Int} {o : List Txt} {k : Nat} {s : Txt} (h : o[k]? = some s) : Z3s b ns o (k + 1) = putA (Z3s b ns o k) s (Y06 (Z3s b ns o k) (tbOf (Z2a b.tabs s))) := by
 unfold Z3s
 rw [Z0c h, L1d]
 rfl
theorem Y9r {m : Txt -> Option An} {t : Tb} (h : ∀ ns, InI (Z1y t ns).1) : InI (Y06 m t).n := by
 unfold Y06
 split
 ·show InI 0; unfold InI; decide
 ·exact h _
theorem Y1u {b : Bk} (h : (Z0g b).2.2 = 0) : b.doms.length <= 4 /\ b.tabs.length <= 4 := by
 unfold Z0g at h
 split at h
 ·cases h
 ·omega
theorem Z76 {b : Bk} (h : (Z0g b).2.2 = 0) : Z9j b.doms = true /\ Z6o b = true := by
 unfold Z0g at h
 split at h
 ·cases h
 ·split at h
  ·cases h
  ·split at h
   ·cases h
   ·rename_i h1 h2
    exact ⟨by simpa using h1, by simpa using h2⟩
theorem Z7q {S : Nat -> Prop} {bs : List Value} {b : Bk} {nm : Txt} {l : List Int} {r : Int} (w : World) (hl : rBk.rel w S bs b) (h : Z0g b = (nm, l, r)) :
  Calls Tryz.prog 64 #[.agg bs.toArray] w fun e w' => ∃ A c S', e = .returned (.tuple #[.string ⟨nm.toArray⟩, .slice A l.length c, .int .i64 r]) /\ (rSl rInt).rel w' (New w S') [.slice A l.length c] l /\ Below w.heap.size w w' := by
 refine (Y52 w hl).mono ?_
 rintro e w' ⟨z, S', he, hz, hb⟩
 rw [h] at he hz
 obtain ⟨A, c, rfl, _⟩ := rSl.elems hz
 exact ⟨A, c, S', he, hz, hb⟩
theorem X1k {S : Nat -> Prop} {cs : List Value} {t : Tb} {mb mn : Nat} {m : Txt -> Option An} {a : An} (w : World) (hl : rTb.rel w S cs t) (hm : MapA w mb mn m) (h : Y06 m t = a) :
  Calls Tryz.prog 86 #[.agg cs.toArray, .map (some mb)] w fun e w' => e = .returned (.agg #[.string ⟨a.name.toArray⟩, .bool a.found, .int .i64 a.n]) /\ Below w.heap.size w w' := h ▸ Y9t w hl hm
theorem X2s {B : Nat} {a w : World} (h : Below B a w) : Below B a w.drew := ⟨h.os, h.tape, h.output, h.size, h.block⟩
theorem Y5a {b : Bk} (h : Z6o b = true) {t : Tb} (ht : t ∈ b.tabs) : Z0r t = true := Z4f h t ht
theorem Z91 {pol : Int} : ∀ (l : List Int) (n B : Int), 0 <= B -> -B <= n -> n <= B -> (∀ x ∈ l, -1000000 <= x /\ x <= 1000000) -> 1000000 <= B -> -(B + 1000000 * l.length) <= (Z0w pol n l).1 /\ (Z0w pol n l).1 <= B + 1000000 * l.length
 | [], n, B, h0, h1, h2, _, _ => by simp only [Z0w, L0u]; omega
 | o :: t, n, B, h0, h1, h2, h, hB => by
  have ho := h o (by simp)
  have ht : ∀ x ∈ t, -1000000 <= x /\ x <= 1000000 := fun x hx => h x (by simp [hx])
  have k := fun n' (a1 : -(B + 1000000) <= n') (a2 : n' <= B + 1000000) => Z91 (pol := pol) t n' (B + 1000000) (by omega) (by omega) (by omega) ht (by omega)
  rw [L0r]
  unfold Z0w
  split
  ·dsimp only; omega
  ·split
   ·split
    ·dsimp only; omega
    ·have := k n (by omega) (by omega); push_cast; omega
   ·split
    ·have := k (min n o) (by omega) (by omega); push_cast; omega
    ·split
     ·have := k (max n o) (by omega) (by omega); push_cast; omega
     ·split
      ·have := k (n + o) (by omega) (by omega); push_cast; omega
      ·have := k n (by omega) (by omega); push_cast; omega
theorem Y7t (ms : List Int) : InI (Z1y (tbOf none) ms).1 := by
 unfold Z1y
 rw [if_neg (fun h => by have := (Z05 h.1).1; simp [tbOf, tb0] at this)]
 show InI 0; unfold InI; decide
theorem Y9s {t : Tb} (hg : Z0r t = true) (ms : List Int) : InI (Z1y t ms).1 := by
 have h6 := Z05 hg
 have hml : (Z21 t.rules ms).length <= 6 := L0i (Z4b _ _ _) h6.2.2.2.2.2
 unfold Z1y
 split
 ·unfold sayL
  split
  ·show InI _; unfold InI; omega
  ·split
   ·show InI 0; unfold InI; decide
   ·rename_i o os he
    have hall : ∀ x ∈ o :: os, -1000000 <= x /\ x <= 1000000 := by
     rw [<- he]
     intro x hx
     rw [L3a] at hx
     obtain ⟨i, hi, rfl⟩ := hx
     obtain ⟨k, rfl, hk⟩ := Z8n hi
     unfold Z6j
     rw [L1y, L0g hk]
     exact Z8d hg (L2b hk)
    have hl : (o :: os).length <= 6 := by rw [<- he, L1g]; exact hml
    rw [L0r] at hl
    have := Z91 (pol := t.pol) os o 1000000 (by omega) (hall o (by simp)).1 (hall o (by simp)).2 (fun x hx => hall x (by simp [hx])) (by omega)
    show InI _; unfold InI; omega
 ·show InI 0; unfold InI; decide
theorem Own.flat_set {α : Type} {R : Rd α} {e : TypeId} {w : World} {base : Nat} {S0 : Nat -> Prop} {v : Value} {xs : List α} (h : Own R e w base S0 v xs) (hF : Flat R) {a : Addr} (ha : ∀ g, v.ownBlock = some g -> g ≠ a.block) (u : Value) : Own R e (w.setCell a u) base (fun _ => False) v xs := by
 obtain ⟨S, ⟨cells, h1, h2, h3, h4⟩, h5⟩ := h.flat hF
 have hg : w.grownBy (w.setCell a u) (some a.block) := ⟨rfl, rfl, rfl, by simp [World.setCell], fun i _ hi => L2o w a u i (fun e => hi (by rw [e]))⟩
 refine ⟨fun _ => False, ⟨cells, h1.kept hg ?_, fun _ _ h => h, h3, fun i x hx => hF _ _ _ _ _ _ (h4 i x hx)⟩, fun _ h => h.elim⟩
 cases hv : v.ownBlock with
 | none => exact .inl rfl
 | some g => exact .inr (fun e => ha g hv (by injection e))
def Y6q (b : Bk) (ns : List Int) (w : World) (e : Ending) (w' : World) : Prop := ∃ z S', e = .returned (.tuple #[z, .int .i64 (askB b ns).2]) /\ (rSl rAn).rel w' (New w S') [z] (askB b ns).1 /\ Below w.heap.size w w'
theorem X0y {S : Nat -> Prop} (w : World) : (rSl rAn).rel w S [.slice none 0 0] [] := ⟨none, 0, rfl, L0f _, by decide, by simp, fun i x hx => by simp at hx⟩
theorem X0d {S T : Nat -> Prop} {bs : List Value} {b : Bk} {u : Value} {ns : List Int} (w : World) (hl : rBk.rel w S bs b) (hn : (rSl rInt).rel w T [u] ns) :
  Calls Tryz.prog 47 #[.agg bs.toArray, u] w fun e w' => Y6q b ns w e w' := by
 have hl' := hl
 obtain ⟨v0, u0, rfl, hd, htb⟩ := hl
 obtain ⟨A, c, rfl, _, _, hbd, hD⟩ := rSl.elems hd
 obtain ⟨B, d, rfl, _, _, hbt, hF⟩ := rSl.elems htb
 obtain ⟨C, g, rfl, _, _, hbn, hN⟩ := rSl.elems hn
 have hld : b.doms.length <= 4398046511104 := by simp only [rDm] at hbd; omega
 have hlt5 : b.tabs.length <= 1759218604441 := by simp only [rTb] at hbt; omega
 have hln : ns.length <= 17592186044416 := by simp only [rInt] at hbn; omega
 obtain ⟨W0, e0, HB0, hs0, HBK⟩ : ∃ W0, w.alloc (.cells #[.slice A b.doms.length c, .slice B b.tabs.length d] 38) = W0 /\ Hid (Below w.heap.size w W0) /\ w.heap.size < W0.heap.size /\ Hid (rBk.rel W0 S [.slice A b.doms.length c, .slice B b.tabs.length d] b) := ⟨_, rfl, L0 bA, by simp, L0 (Rd.alloc hl' _)⟩; have c0 := ac0 e0; have c1 := ac1 e0
 have HD := L0 hD
 have HF := L0 hF
 have HN := L0 hN
 clear hl' hd htb hbd hbt hbn hn hD hF hN
 have HZ : Hid (∀ (e : Ending) (w' : World) (r : Int), askB b ns = ([], r) -> e = .returned (.tuple #[.slice none 0 0, .int .i64 r]) -> Below W0.heap.size W0 w' -> Y6q b ns w e w') := L0 (by
  rintro e w' r h rfl h2
  exact ⟨_, fun _ => True, by rw [h], by rw [h]; exact X0y _, HB0.out.trans (h2.mono HB0.out.size)⟩)
 obtain ⟨⟨nm, at_, er⟩, hck⟩ : ∃ x, Z0g b = x := ⟨_, rfl⟩
 have HCK := L0 hck
 have hmm := @run_makeMap Tryz.prog
 go_enter Tryz.func47, Tryz.ntmps47
 by_cases her : er = 0
 ·subst her
  have HC0 : Hid ((Z0g b).2.2 = 0) := L0 (by rw [hck])
  have HL := L0 (Y1u HC0.out)
  have HTO := L0 (Z76 HC0.out)
  have HA1 : Hid (askB b ns = if ns.length ≠ b.doms.length then ([], 1) else if Y65 b.doms ns = false then ([], 2) else (b.tabs.map (Z5a (Y40 b ns ((Z2w b).getD []))), 0)) := L0 (by unfold askB; rw [if_neg (by rw [HC0.out]; simp)])
  clear hck
  by_cases hne : ns.length = b.doms.length
  ·have HNE := L0 hne
   have hq1 : ((ns.length : Int) == (b.doms.length : Int)) = true := by simp [hne]
   have hq2 : (ns.length == b.doms.length) = true := by simp [hne]
   have HA2 := L0 (HA1.out.trans (if_neg (by rw [hne]; simp)))
   clear hne HA1
   go_wp2_with (go_at_call 64; (with_reducible refine (Z7q W0 HBK.out HCK.out).mono ?_); rintro e w1 ⟨Ak, ck, Sk, rfl, _, hb1⟩; have HB1 := L0 hb1; have d0 := (hb1.ce 0 hs0).trans c0; have d1 := (hb1.ce 1 hs0).trans c1; clear hb1; obtain ⟨WM, eM, HBM, HMA, m0, HMb⟩ : ∃ WM, w1.alloc (.map #[] 0) = WM /\ Hid (Below W0.heap.size W0 WM) /\ Hid (MapA WM w1.heap.size 0 (Z2k b.doms ns 0)) /\ WM.cell? ⟨w.heap.size, 0, none⟩ = some (.slice A b.doms.length c) /\ Hid (W0.heap.size <= w1.heap.size) := ⟨_, rfl, L0 (HB1.out.alloc HB1.out.size _), L0 (MapA.made _), (L0j _ _ _ (L0c hs0 HB1.out.size)).trans d0, L0 HB1.out.size⟩)
   clear d0 d1 m0 eM hq1 hq2 e0
   generalize hmb : w1.heap.size = mb at *
   clear hmb
   go_loopw [41] (fun i wr => ∃ (k n : Nat), k <= b.doms.length /\ i = .int .i64 k /\ Hid (MapA wr mb n (Z2k b.doms ns k)) /\ Hid (n <= k) /\ Hid (∀ j, j < k -> inOk b.doms ns j = true) /\ Hid (Below W0.heap.size W0 wr)) (fun i _ => b.doms.length - (intOf i).toNat)
   case atStart => exact ⟨0, 0, L0o _, rfl, HMA, L0 (L0f _), L0 (by omega), HBM⟩
   case round =>
    obtain ⟨k, n, hk, rfl, HM, Hn, HK, HB⟩ := hrel
    by_cases hlt : k < b.doms.length
    ·obtain ⟨bB, off, x, rfl, hbB, hx, ⟨hxl, hxi⟩, g0, g1, g2⟩ := HD.out.dm hlt
     obtain ⟨q, off', v, rfl, _, hq, hy, hyi, h3⟩ := HN.out.intAt (show k < ns.length by rw [HNE.out]; exact hlt)
     have hbw := HB0.out.trans (HB.out.mono HB0.out.size)
     rw [<- hbw.ce _ hbB] at g0 g1 g2
     rw [<- hbw.ce _ hq] at h3
     have hik : (k : Int) < (b.doms.length : Int) := by omega
     have hin : (k : Int) < (ns.length : Int) := by rw [HNE.out]; exact hik
     have HIK : Hid (inOk b.doms ns k = (decide (x.lo <= v) && decide (v <= x.hi))) := L0 (by unfold inOk; rw [hx, hy]; rfl)
     have HKN : Hid (Z2k b.doms ns (k + 1) = putA (Z2k b.doms ns k) x.name ⟨[], true, v⟩) := L0 (by rw [Z2k, hx, hy]; rfl)
     obtain ⟨W3, e3, HB3, h4, hqs, hws, HM3⟩ : ∃ W3, wr.alloc (.cells #[.string ⟨x.name.toArray⟩, .int .i64 x.lo, .int .i64 x.hi] 63) = W3 /\ Hid (Below W0.heap.size W0 W3) /\ W3.cell? ⟨q, off' + k, none⟩ = some (.int .i64 v) /\ q < W3.heap.size /\ wr.heap.size < W3.heap.size /\ Hid (MapA W3 mb n (Z2k b.doms ns k)) := ⟨_, rfl, L0 (HB.out.alloc HB.out.size _), (L0j _ _ _ (L0c hq hbw.size)).trans h3, L0c (L0c hq hbw.size) (by simp), by simp, L0 (HM.out.alloc _)⟩; have j0 := ac0 e3; have j1 := ac1 e3; have j2 := ac2 e3
     have HYI := L0 hyi
     clear hx hy hyi hbw hq
     by_cases h1 : v < x.lo
     ·have hd1 : decide (v < x.lo) = true := decide_eq_true h1
      have HC : Hid (askB b ns = ([], 2)) := L0 (by rw [HA2.out, if_pos (Y4i hlt (by rw [HIK.out, decide_eq_false (by omega)]; rfl))])
      clear h1
      go_wp2
      refine wp_region_quiet_below (by kernel_rfl) (by kernel_rfl) ?_
      repeat (go_big_quiet_step (fail))
      refine wpQuiet_nil ?_
      intro _ hw'
      obtain ⟨⟨dq, osq⟩, hw''⟩ := hw'
      subst hw''
      go_wp2
      go_ret2
      exact HZ.out _ _ _ HC.out rfl (HB3.out.trans ((below_regrown _ _ _).mono HB3.out.size))
     ·by_cases h2 : x.hi < v
      ·have hd1 : decide (v < x.lo) = false := decide_eq_false h1
       have hd2 : decide (x.hi < v) = true := decide_eq_true h2
       have HC : Hid (askB b ns = ([], 2)) := L0 (by rw [HA2.out, if_pos (Y4i hlt (by rw [HIK.out, decide_eq_false (show ¬ v <= x.hi by omega)]; simp))])
       clear h1 h2
       go_wp2
       refine wp_region_quiet_below (by kernel_rfl) (by kernel_rfl) ?_
       repeat (go_big_quiet_step (fail))
       refine wpQuiet_nil ?_
       intro _ hw'
       obtain ⟨⟨dq, osq⟩, hw''⟩ := hw'
       subst hw''
       go_wp2
       go_ret2
       exact HZ.out _ _ _ HC.out rfl (HB3.out.trans ((below_regrown _ _ _).mono HB3.out.size))
      ·have hd1 : decide (v < x.lo) = false := decide_eq_false h1
       have hd2 : decide (x.hi < v) = false := decide_eq_false h2
       have HS := L0 (Z47 HK.out (by rw [HIK.out, decide_eq_true (show x.lo <= v by omega), decide_eq_true (show v <= x.hi by omega)]; rfl))
       clear h1 h2
       go_wp2
       refine wp_region_quiet_below (by kernel_rfl) (by kernel_rfl) ?_
       repeat (go_big_quiet_step (fail))
       refine wpQuiet_nil ?_
       intro _ hw'
       obtain ⟨⟨dq, osq⟩, hw''⟩ := hw'
       subst hw''
       obtain ⟨W4, e4, HB4, a0, a4, HM4⟩ : ∃ W4, Go.Sort.grow (redrawn W3 dq) osq = W4 /\ Hid (Below W0.heap.size W0 W4) /\ W4.cell? ⟨wr.heap.size, 0, none⟩ = some (.string ⟨x.name.toArray⟩) /\ W4.cell? ⟨q, off' + k, none⟩ = some (.int .i64 v) /\ Hid (MapA W4 mb n (Z2k b.doms ns k)) :=
        ⟨_, rfl, L0 (HB3.out.trans ((below_regrown _ _ _).mono HB3.out.size)), ((below_regrown W3 dq osq).ce 0 hws).trans j0, ((below_regrown W3 dq osq).ce _ hqs).trans h4, L0 (HM3.out.below (below_regrown _ _ _))⟩
       obtain ⟨W5, e5, hM5, hb5, hg5⟩ := SMap.update (B := W0.heap.size) (t := 150) HM4.out.1.drew Tryz.underlying150 Tryz.underlying9 (by have := Hn.out; unfold maxLen; omega) hxl (.agg #[.string ⟨#[]⟩, .bool true, .int .i64 v]) HMb.out
       have HM5 : Hid (MapA W5 mb (n + 1) (Z2k b.doms ns (k + 1))) := L0 (by rw [HKN.out]; exact MapA.put hM5 HM4.out.2 HYI.out)
       have HB5 := L0 ((X2s HB4.out).trans hb5)
       clear hM5 hb5 hg5
       rw [e4]
       go_wp2
       go_region
       all_goals
        go_wp2
        go_roundw
        case rel => exact ⟨k + 1, n + 1, by omega, by go_num, HM5, L0 (by have := Hn.out; omega), HS, HB5⟩
        case measure => simp [intOf]; omega
    ·have HIO : Hid (Y65 b.doms ns = true) := L0 (Z3r hlt HK.out)
     have HA3 := L0 (HA2.out.trans (if_neg (by rw [HIO.out]; decide)))
     obtain rfl : k = b.doms.length := by omega
     clear HK HA2 hk
     obtain ⟨w2, hw2⟩ : ∃ x, x = wr := ⟨_, rfl⟩
     subst hw2
     have f0 := (HB.out.ce 0 hs0).trans c0
     have f1 := (HB.out.ce 1 hs0).trans c1
     have HBK2 := L0 (jE HBK.out HB.out)
     obtain ⟨oo, hoo⟩ : ∃ o, Z2w b = o := ⟨_, rfl⟩
     have HOO := L0 hoo
     obtain ⟨o, ho⟩ : ∃ x, oo.getD [] = x := ⟨_, rfl⟩
     have HO := L0 ho
     clear hoo ho
     go_wp2_with (go_at_call 85; (with_reducible refine (Y0e w2 HBK2.out HOO.out).mono ?_); rintro e wo ⟨zo, rfl, hzo, hbo⟩; obtain ⟨HB9, HM9, HR9⟩ : Hid (Below W0.heap.size W0 wo) /\ Hid (MapA wo mb n (Z2k b.doms ns b.doms.length)) /\ Hid ((rSl rStr).rel wo (Up (fun _ => False) w2.heap.size) [zo] o) := ⟨L0 (HB.out.trans (hbo.mono HB.out.size)), L0 (HM.out.below hbo), L0 (by rw [<- HO.out]; exact hzo)⟩; clear hzo hbo; have hro := HR9.out; obtain ⟨Ao, co, rfl, _, _, hbyo, _⟩ := rSl.elems hro; clear hro)
     clear f0 f1 hlt
     have hlo : o.length <= 8796093022208 := by simp only [rStr] at hbyo; omega
     clear hbyo
     have Hmb := L0 (show mb < w2.heap.size from HM.out.1.lt)
     generalize hN2 : w2.heap.size = N2 at *
     clear hN2
     go_loopw [78] (fun i wr => ∃ (k n : Nat), k <= o.length /\ i = .int .i64 k /\ Hid (MapA wr mb n (Z3s b ns o k)) /\ Hid (n <= k + 4) /\ Hid ((rSl rStr).rel wr (Up (fun _ => False) N2) [.slice Ao o.length co] o) /\ Hid (Below W0.heap.size W0 wr)) (fun i _ => o.length - (intOf i).toNat)
     case atStart => exact ⟨0, n, L0o _, rfl, HM9, L0 (by have := Hn.out; have := HL.out.1; omega), HR9, HB9⟩
     case round =>
      obtain ⟨k, n', hk, rfl, HM, Hn', HR, HB⟩ := hrel
      by_cases hlt : k < o.length
      ·obtain ⟨_, _, hA0, _, _, _, hE⟩ := rSl.elems HR.out
       obtain ⟨rfl, rfl⟩ : Ao = _ /\ co = _ := by injection hA0 with h1 h2 h3; exact ⟨h1, h3⟩
       obtain ⟨q, off, s, rfl, hSq, hq, hx, hxl, g0⟩ := hE.str hlt
       have hik : (k : Int) < (o.length : Int) := by omega
       have HST := L0 (Y1n (b := b) (ns := ns) hx)
       obtain ⟨tb, htb⟩ : ∃ x, tbOf (Z2a b.tabs s) = x := ⟨_, rfl⟩
       obtain ⟨ft, hft⟩ : ∃ x, (Z2a b.tabs s).isSome = x := ⟨_, rfl⟩
       have HT := L0 htb
       have HF2 := L0 hft
       obtain ⟨a, ha⟩ : ∃ a, Y06 (Z3s b ns o k) tb = a := ⟨_, rfl⟩
       have HSA := L0 ha
       have HAI : Hid (InI a.n) := L0 (by
        rw [<- ha]
        refine Y9r fun ms => ?_
        rw [<- htb]
        cases hf : Z2a b.tabs s with
        | none => exact Y7t _
        | some t => exact Y9s (Y5a HTO.out.2 (L2h hf)) _)
       have f0 := (HB.out.ce 0 hs0).trans c0
       have f1 := (HB.out.ce 1 hs0).trans c1
       have HBK2 := L0 (jE HBK.out HB.out)
       clear hx hE hA0 htb hft ha
       go_wp2_with (first | (go_at_call 50; (with_reducible refine (Z2p wr HBK2.out hxl HT.out HF2.out).mono ?_); rintro e w4 ⟨A5, c5, B5, d5, S5, rfl, hr5, hb4⟩; obtain ⟨W5, e5, HB5, HR5, HM5, HO5⟩ : ∃ W5, w4.alloc (.cells #[.string ⟨tb.name.toArray⟩, .int .i64 tb.pol, .bool tb.comp, .slice A5 tb.ins.length c5, .slice B5 tb.rules.length d5] 66) = W5 /\ Hid (Below W0.heap.size W0 W5) /\ Hid (rTb.rel W5 S5 [.string ⟨tb.name.toArray⟩, .int .i64 tb.pol, .bool tb.comp, .slice A5 tb.ins.length c5, .slice B5 tb.rules.length d5] tb) /\ Hid (MapA W5 mb n' (Z3s b ns o k)) /\ Hid ((rSl rStr).rel W5 (Up (fun _ => False) N2) [.slice (some ⟨q, off, none⟩) o.length co] o) := ⟨_, rfl, L0 ((HB.out.trans (hb4.mono HB.out.size)).alloc (L0i HB.out.size hb4.size) _), L0 (Rd.alloc hr5 _), L0 ((HM.out.below hb4).alloc _), L0 (Rd.alloc (jE HR.out hb4) _)⟩; have j50 := ac0 e5; have j51 := ac1 e5; have j52 := ac2 e5; have j53 := ac3 e5; have j54 := ac4 e5; clear hr5 hb4)| (go_at_call 86; (with_reducible refine (X1k W5 HR5.out HM5.out HSA.out).mono ?_); rintro e w6 ⟨rfl, hb6⟩; have HM6 := L0 (HM5.out.below hb6); have HB6 := L0 (HB5.out.trans (hb6.mono HB5.out.size)); have HO6 := L0 (jE HO5.out hb6); clear hb6)| (at_mapUpdate; refine Z69 (B := W0.heap.size) rfl (.tmp 88) (.tmp 89) (.tmp 92) 150 rfl Tryz.underlying150 Tryz.underlying9 rfl HM6.out.1 (by have := Hn'.out; unfold maxLen; omega) rfl hxl rfl HMb.out ?_; intro w7 hM7 hb7 hg7))
       have HM7 : Hid (MapA w7 mb (n' + 1) (Z3s b ns o (k + 1))) := L0 (by rw [HST.out, HT.out, HSA.out]; exact MapA.put hM7 HM6.out.2 HAI.out)
       have HO7 := L0 ((rSl rStr).keep HO6.out (.grown hg7 fun g hg h => by cases hg; rcases h with h | h; exact h; have := Hmb.out; omega))
       go_roundw
       case rel => exact ⟨k + 1, n' + 1, by omega, by go_num, HM7, L0 (by have := Hn'.out; omega), HO7, L0 (HB6.out.trans hb7)⟩
       case measure => simp [intOf]; omega
      ·have HAS : Hid (Z3s b ns o k = Y40 b ns o) := L0 (by unfold Z3s Y40; rw [L0k (by omega)])
       rw [HAS.out] at HM
       have HA4 : Hid (askB b ns = (b.tabs.map (Z5a (Y40 b ns o)), 0)) := L0 (by rw [HA3.out, HOO.out, HO.out])
       clear HA3 hk
       generalize Y40 b ns o = m at *
       obtain ⟨w3, hw3⟩ : ∃ x, x = wr := ⟨_, rfl⟩
       subst hw3
       have f1 := (HB.out.ce 1 hs0).trans c1
       go_wp2
       clear f1 hlt
       have HMs := HM
       have HBs := HB
       go_loopw [18, 97] (fun ov i wr => ∃ (k : Nat) (out : List An), k <= b.tabs.length /\ i = .int .i64 k /\ Own rAn 99 wr w3.heap.size (fun _ => False) ov out /\ Hid (out = (b.tabs.take k).map (Z5a m)) /\ Hid (Below w3.heap.size w3 wr)) (fun _ i _ => b.tabs.length - (intOf i).toNat)
       case atStart => exact ⟨0, [], L0o _, rfl, Own.nil _ _ _ _ _, L0 rfl, L0 (L0m _ _)⟩
       case round =>
        obtain ⟨k, out, hk, rfl, hown, HO2, HB⟩ := hrel
        have HBW := L0 (HBs.out.trans (HB.out.mono HBs.out.size))
        by_cases hlt : k < b.tabs.length
        ·obtain ⟨bB, off, x, A1, ca, A2, cb, rfl, hbB, hx, hr, g0, g1, g2, g3, g4⟩ := HF.out.tb hlt
         have hbw := HB0.out.trans (HBW.out.mono HB0.out.size)
         rw [<- hbw.ce _ hbB] at g0 g1 g2 g3 g4
         have hik : (k : Int) < (b.tabs.length : Int) := by omega
         have hxl : x.name.length <= 140737488355328 := by obtain ⟨_, _, _, h, _⟩ := hr; exact h
         obtain ⟨⟨nm', fd, nn⟩, ha⟩ : ∃ a, atM m x.name = a := ⟨_, rfl⟩
         have HV : Hid (((m x.name).map ansV).getD (ansV an0) = .agg #[.string ⟨nm'.toArray⟩, .bool fd, .int .i64 nn]) := L0 (by rw [MapA.getD, ha]; rfl)
         have HNN : Hid (InI nn) := L0 (by have := HMs.out.2 x.name; rw [ha] at this; exact this)
         have HOS : Hid (out ++ [⟨x.name, fd, nn⟩] = (b.tabs.take (k + 1)).map (Z5a m)) := L0 (by rw [Z0c hx, L1p, <- HO2.out]; simp [Z5a, ha])
         have HOL : Hid (out.length <= 4) := L0 (by rw [HO2.out, L1g, L1h]; have := HL.out.2; omega)
         have HBY : Hid ((out.length + 1) * rAn.bytes <= 140737488355328) := L0 (by have := HOL.out; show (_ + 1) * 32 <= _; omega)
         obtain ⟨W3, e3, HB3, HM3, HOW3, hw3s⟩ : ∃ W3, wr.alloc (.cells #[.string ⟨x.name.toArray⟩, .int .i64 x.pol, .bool x.comp, .slice A1 x.ins.length ca, .slice A2 x.rules.length cb] 66) = W3 /\ Hid (Below w3.heap.size w3 W3) /\ Hid (MapA W3 mb n' m) /\ Hid (Own rAn 99 W3 w3.heap.size (fun _ => False) u18 out) /\ wr.heap.size < W3.heap.size := ⟨_, rfl, L0 (HB.out.alloc HB.out.size _), L0 ((HMs.out.below HB.out).alloc _), L0 (hown.alloc _), by simp⟩; have j0 := ac0 e3
         obtain ⟨W4, e4, HB4, z0, hk0, hw4s, HOW4⟩ : ∃ W4, W3.alloc (.cells #[.string ⟨nm'.toArray⟩, .bool fd, .int .i64 nn] 99) = W4 /\ Hid (Below w3.heap.size w3 W4) /\ W4.frozen? ⟨W3.heap.size, 0, none⟩ = false /\ W4.cell? ⟨wr.heap.size, 0, none⟩ = some (.string ⟨x.name.toArray⟩) /\ Hid (W3.heap.size < W4.heap.size) /\ Hid (Own rAn 99 W4 w3.heap.size (fun _ => False) u18 out) := ⟨_, rfl, L0 (HB3.out.alloc HB3.out.size _), by simp, (L0j _ _ _ hw3s).trans j0, L0 (by simp), L0 (HOW3.out.alloc _)⟩; have k0 := ac0 e4; have k1 := ac1 e4; have k2 := ac2 e4
         obtain ⟨W5, e5, HB5, l0, l1, l2, HOW5⟩ : ∃ W5, W4.setCell ⟨W3.heap.size, 0, none⟩ (.string ⟨x.name.toArray⟩) = W5 /\ Hid (Below w3.heap.size w3 W5) /\ W5.cell? ⟨W3.heap.size, 0, none⟩ = some (.string ⟨x.name.toArray⟩) /\ W5.cell? ⟨W3.heap.size, 1, none⟩ = some (.bool fd) /\ W5.cell? ⟨W3.heap.size, 2, none⟩ = some (.int .i64 nn) /\ Hid (Own rAn 99 W5 w3.heap.size (fun _ => False) u18 out) :=
          ⟨_, rfl, L0 (HB4.out.setCell HB3.out.size _), L0d _ _ _ k0, (L0a _ _ _ _ (by simp)).trans k1, (L0a _ _ _ _ (by simp)).trans k2, L0 (HOW4.out.flat_set (fun _ _ _ _ _ _ h => h) (fun g hg => by have := HOW3.out.lt g hg; show g ≠ W3.heap.size; omega) _)⟩
         clear hx hr hbw hown ha
         go_wp2_with (first | (at_lookup; refine Z2l rfl (.tmp 101) (.tmp 103) 150 rfl Tryz.underlying150 Tryz.underlying9 (X1p _) rfl HM3.out.1 rfl hxl HV.out ?_) | (at_builtin; refine Z0a (R := rAn) (x := ⟨x.name, fd, nn⟩) X2t rfl (.tmp 108) (.tmp 110) rfl rfl HOW5.out [.string ⟨x.name.toArray⟩, .bool fd, .int .i64 nn] rfl rfl (fun _ => False) ⟨rfl, hxl, HNN.out⟩ (fun _ h => h.elim) HBY.out HB5.out.size ?_; intro v9 w9 hown9 hb9 _ _))
         go_roundw
         case rel => exact ⟨k + 1, out ++ [⟨x.name, fd, nn⟩], by omega, by go_num, hown9, HOS, L0 (HB5.out.trans hb9)⟩
         case measure => simp [intOf]; omega
        ·have HC : Hid (askB b ns = (out, 0)) := L0 (by rw [HA4.out, HO2.out, L0k (by omega)])
         obtain ⟨A9, l9, rfl⟩ := hown.value
         go_wp2
         go_ret2
         exact ⟨_, _, by rw [HC.out]; rfl, by rw [HC.out]; exact Y78 (hown.rel (by decide)) (L0i HB0.out.size HBs.out.size), HB0.out.trans (HBW.out.mono HB0.out.size)⟩
  ·have HA3 : Hid (askB b ns = ([], 1)) := L0 (by rw [HA1.out, if_pos hne])
   have hq1 : ((ns.length : Int) == (b.doms.length : Int)) = false := beq_eq_false_iff_ne.2 (by omega)
   have hq2 : (ns.length == b.doms.length) = false := beq_eq_false_iff_ne.2 hne
   clear hne
   go_wp2_with (go_at_call 64; (with_reducible refine (Z7q W0 HBK.out HCK.out).mono ?_); rintro e w1 ⟨Ak, ck, Sk, rfl, _, hb1⟩; have HB1 := L0 hb1; have d0 := (hb1.ce 0 hs0).trans c0; have d1 := (hb1.ce 1 hs0).trans c1; clear hb1)
   go_ret2
   exact HZ.out _ _ _ HA3.out rfl HB1.out
 ·have HA3 : Hid (askB b ns = ([], er)) := L0 (by unfold askB; rw [hck]; exact if_pos her)
  have hq1 : (er == 0) = false := by simpa using her
  clear hck her
  go_wp2_with (go_at_call 64; (with_reducible refine (Z7q W0 HBK.out HCK.out).mono ?_); rintro e w1 ⟨Ak, ck, Sk, rfl, _, hb1⟩; have HB1 := L0 hb1; have d0 := (hb1.ce 0 hs0).trans c0; have d1 := (hb1.ce 1 hs0).trans c1; clear hb1)
  go_ret2
  exact HZ.out _ _ _ HA3.out rfl HB1.out
structure Rep where
 code : Int
 n : Int
 text : Txt
 ans : List An
 at' : List Int
def rRep : Rd Rep where
 k := 5
 bytes := 80
 rel w S cs x := ∃ v u, cs = [.int .i64 x.code, .int .i64 x.n, .string ⟨x.text.toArray⟩, v, u] /\ InI x.code /\ InI x.n /\ x.text.length <= 140737488355328 /\ (rSl rAn).rel w S [v] x.ans /\ (rSl rInt).rel w S [u] x.at'
 len h := by obtain ⟨v, u, rfl, _⟩ := h; rfl
 keep h hk := by obtain ⟨v, u, e, h1, h2, h3, h4, h5⟩ := h; exact ⟨v, u, e, h1, h2, h3, (rSl rAn).keep h4 hk, (rSl rInt).keep h5 hk⟩
 mono h hk := by obtain ⟨v, u, e, h1, h2, h3, h4, h5⟩ := h; exact ⟨v, u, e, h1, h2, h3, (rSl rAn).mono h4 hk, (rSl rInt).mono h5 hk⟩
 one h x hx := by
  obtain ⟨v, u, rfl, _, _, _, h4, h5⟩ := h
  simp at hx
  rcases hx with rfl | rfl | rfl | rfl | rfl
  ·rfl
  ·rfl
  ·rfl
  ·exact (rSl rAn).one h4 _ (by simp)
  ·exact (rSl rInt).one h5 _ (by simp)
theorem X1r {S T : Nat -> Prop} {bs : List Value} {b : Bk} {u : Value} {ns : List Int} {l : List An} {r : Int} (w : World) (hl : rBk.rel w S bs b) (hn : (rSl rInt).rel w T [u] ns) (h : askB b ns = (l, r)) :
  Calls Tryz.prog 47 #[.agg bs.toArray, u] w fun e w' => ∃ A c S', e = .returned (.tuple #[.slice A l.length c, .int .i64 r]) /\ (rSl rAn).rel w' (New w S') [.slice A l.length c] l /\ Below w.heap.size w w' := by
 refine (X0d w hl hn).mono ?_
 rintro e w' ⟨z, S', he, hz, hb⟩
 rw [h] at he hz
 obtain ⟨A, c, rfl, _⟩ := rSl.elems hz
 exact ⟨A, c, S', he, hz, hb⟩
theorem Z4i : ∀ a : Txt, jD a a = false
 | [] => rfl
 | a :: l => by simp [jD, Z4i l]
theorem Z4w : ∀ {a b c : Txt}, jD a b = true -> jD b c = true -> jD a c = true
 | _, _, [], _, h => by simp [jD] at h
 | [], _, _ :: _, _, _ => rfl
 | a :: x, [], _ :: _, h, _ => by simp [jD] at h
 | a :: x, b :: y, c :: z, h1, h2 => by
  simp only [jD, jA, decide_eq_true_iff, L0z, beq_iff_eq] at h1 h2 ⊢
  rcases h1 with h1 | ⟨rfl, h1⟩
  ·rcases h2 with h2 | ⟨rfl, h2⟩
   ·exact .inl (UInt8.lt_trans h1 h2)
   ·exact .inl h1
  ·rcases h2 with h2 | ⟨rfl, h2⟩
   ·exact .inl h2
   ·exact .inr ⟨rfl, Z4w h1 h2⟩
theorem Z90 {α : Type} {f : α -> Txt} {l : List α} (h : ∀ k (hk : k + 1 < l.length), jD (f l[k]) (f l[k + 1]) = true) : (l.map f).Nodup := by
 have key : ∀ (j i : Nat) (hij : i < j) (hj : j < l.length), jD (f (l[i]'(by omega))) (f l[j]) = true := by
  intro j
  induction j with
  | zero => intro i hi; omega
  | succ j ih =>
   intro i hij hj
   rcases Nat.lt_succ_iff_lt_or_eq.1 hij with h1 | rfl
   ·exact Z4w (ih i h1 (by omega)) (h j hj)
   ·exact h i hj
 show List.Pairwise _ _
 rw [L3s]
 intro i j hi hj hij e
 rw [jC, jC] at e
 rw [L1g] at hj
 have := key j i hij hj
 rw [e, Z4i] at this
 cases this
structure CheckOk (b : Bk) : Prop where
 dl : b.doms.length <= 4
 tl : b.tabs.length <= 4
 doms : Z9j b.doms = true
 tabs : Z6o b = true
 box : ∀ t ∈ b.tabs, Z1d (Z4n b t) = true
 ord : (Z2w b).isSome = true
 clash : ∀ t ∈ b.tabs, (Z16 t (bxOf b t)).length = 0 /\ (t.comp = true -> (gapB t (bxOf b t)).length = 0)
theorem Z78 {b : Bk} : ∀ {l : List Tb}, (Z0x b l).2.2 = 0 -> ∀ t ∈ l, (Z16 t (bxOf b t)).length = 0 /\ (t.comp = true -> (gapB t (bxOf b t)).length = 0)
 | [], _, t, ht => by cases ht
 | a :: l, h, t, ht => by
  rw [Z0x] at h
  split at h
  ·cases h
  ·rename_i h1
   split at h
   ·cases h
   ·rename_i h2
    rcases L2v.1 ht with rfl | ht
    ·exact ⟨by omega, fun hc => by
      rcases L2d (gapB t (bxOf b t)).length with h3 | h3
      ·exact h3
      ·exact absurd ⟨h3, hc⟩ h2⟩
    ·exact Z78 h t ht
theorem X01 {b : Bk} (h : (Z0g b).2.2 = 0) : CheckOk b := by
 have hl := Y1u h
 have hd := Z76 h
 unfold Z0g at h
 rw [if_neg (by omega), if_neg (by rw [hd.1]; decide), if_neg (by rw [hd.2]; decide)] at h
 split at h
 ·cases h
 ·rename_i hf
  rw [L3r] at hf
  split at h
  ·cases h
  ·rename_i ho
   exact ⟨hl.1, hl.2, hd.1, hd.2, fun t ht => by simpa using hf t ht, by revert ho; cases (Z2w b).isSome <;> simp, Z78 h⟩
section
variable {b : Bk} (h : CheckOk b)
include h
theorem CheckOk.domNames : (b.doms.map (·.name)).Nodup := Z90 fun k hk => by
 have := L2c.1 h.doms (k + 1) (L3b.2 hk)
 unfold Y3c at this
 rw [L0g hk] at this
 simp only [L0z, jA, decide_eq_true_iff] at this
 rcases this.2 with h1 | h1
 ·omega
 ·rw [show k + 1 - 1 = k by omega] at h1
  simpa [Y9b, jB (show k < b.doms.length by omega)] using h1
theorem CheckOk.tabNames : (b.tabs.map (·.name)).Nodup := Z90 fun k hk => by
 have := L2c.1 h.tabs (k + 1) (L3b.2 hk)
 unfold Y2w at this
 rw [L0g hk] at this
 simp only [L0z, jA, decide_eq_true_iff] at this
 rcases this.2 with h1 | h1
 ·omega
 ·rw [show k + 1 - 1 = k by omega] at h1
  simpa [Y9c, jB (show k < b.tabs.length by omega)] using h1
end
section
variable {b : Bk} {cs : List Int} {o : List Txt} (h : CheckOk b) (hin : Y65 b.doms cs = true) (ho : Z2w b = some o)
include ho
include h
include hin
end
