import Derived.Test.YtlopccnehgolnacGreatDoorSymA
import Derived.Deep.DeepCutAuto
import Derived.WalkKit
import Derived.WalkArith
import Derived.Lib.Walk
import Derived.Test.YtlopccnehgolnacGreatDoorSymUb
namespace Go.Proofs.YtlopccnehgolnacGreatDoor
open Go.Shelf Go.RowKit Go.Lib Go.Sort
open Go.Lib renaming hid -> hI
open Nat renaming le_refl -> nR
open Go.IntKind renaming wrap_i64 -> jA
set_option maxRecDepth 1000000
set_option maxHeartbeats 12800000
variable {P : Program} {k : Nat} {f0 f1 f2 f3 f4 : FuncId} {α : Type} [Inhabited α]
theorem Y4j (h9 : SrtU P k f0 f1 f2 f3 f4) (enc : α -> List Value) (cf : α -> α -> Int) (g : Nat) (cb : Array Value) (hO : SWO (ltOf cf)) (blk off cap : Nat) (d0 : Array α) (w0 : World)
  (eg : ∀ args w, (callFunc g args).run P w = .ok (.enter g args) w) (hcmp : CmpLays P g cb enc k cf blk off d0.size w0) (R : RowK enc k w0 blk off d0)
  (a m b : Nat) (d : Array α) (w : World) (hs : d0.size = d.size) (S : SWK enc k w0 blk off d w) (ham : a < m) (hmb : m < b) (hb : b <= d.size) (hsz : d.size < 4611686018427387904)
  (_hA : SortedIn (ltOf cf) a m d) (hB : SortedIn (ltOf cf) m b d) (h1 : m = a + 1) :
  Calls P f2 #[.slice (some ⟨blk, off, none⟩) d.size cap, .int .i64 a, .int .i64 m, .int .i64 b, .func (.func g) #[] cb] w fun e w' => e = .returned (.tuple #[]) /\ ∃ d', SWK enc k w0 blk off d' w' /\ Merged (ltOf cf) a b d d' := by
 rcases h9 with ⟨L, rfl, rfl, rfl, rfl, rfl⟩ | ⟨L, rfl, rfl, rfl, rfl, rfl⟩
 all_goals
  have NT := L.n2
  have mixed := L.mixed; have aE := L.aE; have zE := L.zE; have tq0 := L.tq0; have aq0 := L.aq0; have zq0 := L.zq0; have vq0 := L.vq0; have uq0 := run_underlying L.tq0; have tq3 := L.tq3; have aq3 := L.aq3; have zq3 := L.zq3; have vq3 := L.vq3; have uq3 := run_underlying L.tq3; have tq4 := L.tq4; have aq4 := L.aq4; have zq4 := L.zq4; have vq4 := L.vq4; have uq4 := run_underlying L.tq4; have tqu := L.tqu; have aqu := L.aqu; have zqu := L.zqu; have vqu := L.vqu; have uqu := run_underlying L.tqu; have tqs := L.tqs; have aqs := L.aqs; have zqs := L.zqs; have vqs := L.vqs; have uqs := run_underlying L.tqs; have tqc := L.tqc; have aqc := L.aqc; have zqc := L.zqc; have vqc := L.vqc; have uqc := run_underlying L.tqc;
  have FG := L.f2
  have HC : Aside _ := hcmp
  clear hcmp
  have S0 : Aside (SWK enc k w0 blk off d w) := S
  have HB := hI hB
  clear S _hA hB
  subst h1
  have h1z : ((a + 1 : Nat) : Int) - (a : Int) = 1 := by omega
  have h1w : (a : Int) + 1 - (a : Int) = 1 := by omega
  go_enter FG, NT
  go_wp2
  go_loopg [10, 11] b (fun kx s10 s11 wr => ∃ (i j : Nat), s10 = .int .i64 i /\ s11 = .int .i64 j /\ a + 1 <= i /\ i <= j /\ j <= b /\ j - i <= kx /\ Aside (SWK enc k w0 blk off d wr) /\ Hid (FindL (ltOf cf) a (a + 1) b i j d))
  exact ⟨a + 1, b, by go_num, rfl, nR _, by omega, nR _, by omega, S0, FindL.start d (by omega)⟩
  clear S0
  obtain ⟨i, j, rfl, rfl, hai, hij, hjb, hkx, S1, HF⟩ := hrel
  by_cases hlt : i < j
  ·have hltz : (i : Int) < (j : Int) := by omega
   obtain ⟨h, hh⟩ : ∃ h : Nat, h = (i + j) / 2 := ⟨_, rfl⟩
   have hz : (((i : Nat) : Int) + ((j : Nat) : Int)) / 2 = (h : Int) := by omega
   have hlo : i <= h := by omega
   have hhi : h < j := by omega
   clear hh
   cases hL : ltOf cf d[h]! d[a]! with
   | true =>
    have eac : ((h : Int)).toNat = h := by omega
    have pac : (0 : Int) <= (h : Int) := by omega
    have bac : (h : Int) < (d.size : Int) := by omega
    have rac : IntKind.i64.wrap ((h : Int)) = (h : Int) := by rw [jA]; omega
    have ecc : ((a : Int)).toNat = a := by omega
    have pcc : (0 : Int) <= (a : Int) := by omega
    have bcc : (a : Int) < (d.size : Int) := by omega
    have rcc : IntKind.i64.wrap ((a : Int)) = (a : Int) := by rw [jA]; omega
    obtain ⟨xc, hxc⟩ : ∃ x, x = d[h]! := ⟨_, rfl⟩
    obtain ⟨yc, hyc⟩ : ∃ x, x = d[a]! := ⟨_, rfl⟩
    have lca := S1.out.ld R (by omega) P (h) (by omega)
    have lcb := S1.out.ld R (by omega) P (a) (by omega)
    rw [<- hxc] at lca
    rw [<- hyc] at lcb
    have hcc := S1.out.cmp HC.out (by omega) xc yc
    have hvc : cf xc yc < 0 := by rw [hxc, hyc]; exact of_decide_eq_true hL
    have hdc : decide (cf xc yc < 0) = true := decide_eq_true hvc
    clear hxc hyc
    go_wp2_with fail
    go_quiet_grown (first | (go_at_fn g; refine Calls.grown_of (hcc _ _)))
    have Sc : Aside (SWK enc k w0 blk off d (grow (wr.drewN nq) osq)) := S1.out.grown nq osq
    clear lca lcb hcc S1
    generalize grow (wr.drewN nq) osq = w2 at Sc ⊢
    clear nq osq
    go_wp2_with fail
    go_roundg (j - (h + 1))
    case measure => omega
    exact ⟨h + 1, j, by go_num, rfl, by omega, by omega, hjb, nR _, Sc, HF.out.yes hO HB.out hlo hhi hL⟩
   | false =>
    have eac : ((h : Int)).toNat = h := by omega
    have pac : (0 : Int) <= (h : Int) := by omega
    have bac : (h : Int) < (d.size : Int) := by omega
    have rac : IntKind.i64.wrap ((h : Int)) = (h : Int) := by rw [jA]; omega
    have ecc : ((a : Int)).toNat = a := by omega
    have pcc : (0 : Int) <= (a : Int) := by omega
    have bcc : (a : Int) < (d.size : Int) := by omega
    have rcc : IntKind.i64.wrap ((a : Int)) = (a : Int) := by rw [jA]; omega
    obtain ⟨xc, hxc⟩ : ∃ x, x = d[h]! := ⟨_, rfl⟩
    obtain ⟨yc, hyc⟩ : ∃ x, x = d[a]! := ⟨_, rfl⟩
    have lca := S1.out.ld R (by omega) P (h) (by omega)
    have lcb := S1.out.ld R (by omega) P (a) (by omega)
    rw [<- hxc] at lca
    rw [<- hyc] at lcb
    have hcc := S1.out.cmp HC.out (by omega) xc yc
    have hvc : ¬ (cf xc yc < 0) := by rw [hxc, hyc]; exact of_decide_eq_false hL
    have hdc : decide (cf xc yc < 0) = false := decide_eq_false hvc
    clear hxc hyc
    go_wp2_with fail
    go_quiet_grown (first | (go_at_fn g; refine Calls.grown_of (hcc _ _)))
    have Sc : Aside (SWK enc k w0 blk off d (grow (wr.drewN nq) osq)) := S1.out.grown nq osq
    clear lca lcb hcc S1
    generalize grow (wr.drewN nq) osq = w2 at Sc ⊢
    clear nq osq
    go_wp2_with fail
    go_roundg (h - i)
    case measure => omega
    exact ⟨i, h, rfl, rfl, hai, hlo, by omega, nR _, Sc, HF.out.no hO HB.out hlo hhi hL⟩
  have hltz : ¬ ((i : Int) < (j : Int)) := by omega
  obtain rfl : i = j := by omega
  go_wp2
  go_loopg [13] i (fun kx s13 wr2 => ∃ (q : Nat) (dk : Array α), s13 = .int .i64 q /\ a <= q /\ q <= i - 1 /\ i - 1 - q <= kx /\ dk.size = d.size /\ Aside (SWK enc k w0 blk off dk wr2) /\ Hid (MvR a q b d dk))
  exact ⟨a, d, rfl, nR _, by omega, by omega, rfl, S1, MvR.start a b d⟩
  clear S1
  obtain ⟨q, dk, rfl, haq, hqi, hkx2, hds, S2, HM⟩ := hrel
  by_cases hlt2 : q < i - 1
  ·have hlt2z : (q : Int) < (i : Int) - 1 := by omega
   go_wp2_with fail
   have eau : ((q : Int)).toNat = q := by omega
   have pau : (0 : Int) <= (q : Int) := by omega
   have bau : (q : Int) < (d.size : Int) := by omega
   have rau : IntKind.i64.wrap ((q : Int)) = (q : Int) := by rw [jA]; omega
   have ecu : ((q : Int) + 1).toNat = q + 1 := by omega
   have pcu : (0 : Int) <= (q : Int) + 1 := by omega
   have bcu : (q : Int) + 1 < (d.size : Int) := by omega
   have rcu : IntKind.i64.wrap ((q : Int) + 1) = (q : Int) + 1 := by rw [jA]; omega
   have Su : Aside (SWK enc k w0 blk off (swp dk (q) (q + 1)) ((wr.drew.setCells blk (off + (q) * k) (enc dk[q + 1]!)).setCells blk (off + (q + 1) * k) (enc dk[q]!))) := S2.out.swapped R (q) (q + 1) (by omega) (by omega)
   have lua := S2.out.ld1 R (by omega) P (q) (by omega)
   have lub := S2.out.ld1 R (by omega) P (q + 1) (by omega)
   have sua := S2.out.st1 R (by omega) P (q) (by omega) dk[q + 1]!
   have sub := S2.out.st2 R (by omega) P (q) (q + 1) (by omega) (by omega) dk[q + 1]! dk[q]!
   have nua : (enc dk[q]!).length = k := R.hk _
   have nub : (enc dk[q + 1]!).length = k := R.hk _
   generalize enc dk[q]! = cIu at Su lua sub nua
   generalize enc dk[q + 1]! = cJu at Su lub sua sub nub
   clear S2
   go_wp2_with fail
   go_big_region_o
   clear lua lub sua sub
   generalize (wr.drew.setCells blk (off + (q) * k) cJu).setCells blk (off + (q + 1) * k) cIu = w3 at Su ⊢
   go_wp2
   go_roundg (i - 1 - (q + 1))
   case measure => omega
   exact ⟨q + 1, swp dk q (q + 1), by go_num, by omega, by omega, nR _, by rw [Sort.size_swp]; exact hds, Su, HM.out.step haq (by omega) hb⟩
  have hlt2z : ¬ ((q : Int) < (i : Int) - 1) := by omega
  have HQI : Hid (q = i - 1) := hI (by omega)
  go_wp2
  refine bodyPost_ret (results_none rfl _ _ _) rfl ?_
  exact ⟨rfl, dk, S2.out, HF.out.done hO HB.out (HQI.out ▸ HM.out) hmb⟩
theorem Y4k (h9 : SrtU P k f0 f1 f2 f3 f4) (enc : α -> List Value) (cf : α -> α -> Int) (g : Nat) (cb : Array Value) (hO : SWO (ltOf cf)) (blk off cap : Nat) (d0 : Array α) (w0 : World)
  (eg : ∀ args w, (callFunc g args).run P w = .ok (.enter g args) w) (hcmp : CmpLays P g cb enc k cf blk off d0.size w0) (R : RowK enc k w0 blk off d0)
  (a m b : Nat) (d : Array α) (w : World) (hs : d0.size = d.size) (S : SWK enc k w0 blk off d w) (ham : a < m) (hmb : m < b) (hb : b <= d.size) (hsz : d.size < 4611686018427387904)
  (hA : SortedIn (ltOf cf) a m d) (_hB : SortedIn (ltOf cf) m b d) (h1z : ¬ ((m : Int) - (a : Int) = 1)) (h2 : b = m + 1) :
  Calls P f2 #[.slice (some ⟨blk, off, none⟩) d.size cap, .int .i64 a, .int .i64 m, .int .i64 b, .func (.func g) #[] cb] w fun e w' => e = .returned (.tuple #[]) /\ ∃ d', SWK enc k w0 blk off d' w' /\ Merged (ltOf cf) a b d d' := by
 rcases h9 with ⟨L, rfl, rfl, rfl, rfl, rfl⟩ | ⟨L, rfl, rfl, rfl, rfl, rfl⟩
 all_goals
  have NT := L.n2
  have mixed := L.mixed; have aE := L.aE; have zE := L.zE; have tq0 := L.tq0; have aq0 := L.aq0; have zq0 := L.zq0; have vq0 := L.vq0; have uq0 := run_underlying L.tq0; have tq3 := L.tq3; have aq3 := L.aq3; have zq3 := L.zq3; have vq3 := L.vq3; have uq3 := run_underlying L.tq3; have tq4 := L.tq4; have aq4 := L.aq4; have zq4 := L.zq4; have vq4 := L.vq4; have uq4 := run_underlying L.tq4; have tqu := L.tqu; have aqu := L.aqu; have zqu := L.zqu; have vqu := L.vqu; have uqu := run_underlying L.tqu; have tqs := L.tqs; have aqs := L.aqs; have zqs := L.zqs; have vqs := L.vqs; have uqs := run_underlying L.tqs; have tqc := L.tqc; have aqc := L.aqc; have zqc := L.zqc; have vqc := L.vqc; have uqc := run_underlying L.tqc;
  have FG := L.f2
  have HC : Aside _ := hcmp
  clear hcmp
  have S0 : Aside (SWK enc k w0 blk off d w) := S
  have HA := hI hA
  clear S hA _hB
  have h1b : ((m : Int) - (a : Int) == 1) = false := by simpa using h1z
  subst h2
  have h2w : (m : Int) + 1 - (m : Int) = 1 := by omega
  go_enter FG, NT
  go_wp2
  go_loopg [14, 15] (m + 1) (fun kx s14 s15 wr => ∃ (i j : Nat), s14 = .int .i64 i /\ s15 = .int .i64 j /\ a <= i /\ i <= j /\ j <= m /\ j - i <= kx /\ Aside (SWK enc k w0 blk off d wr) /\ Hid (FindR (ltOf cf) a m i j d))
  exact ⟨a, m, rfl, rfl, nR _, by omega, nR _, by omega, S0, FindR.start d (by omega)⟩
  clear S0
  obtain ⟨i, j, rfl, rfl, hai, hij, hjb, hkx, S1, HF⟩ := hrel
  by_cases hlt : i < j
  ·have hltz : (i : Int) < (j : Int) := by omega
   obtain ⟨h, hh⟩ : ∃ h : Nat, h = (i + j) / 2 := ⟨_, rfl⟩
   have hz : (((i : Nat) : Int) + ((j : Nat) : Int)) / 2 = (h : Int) := by omega
   have hlo : i <= h := by omega
   have hhi : h < j := by omega
   clear hh
   cases hL : ltOf cf d[m]! d[h]! with
   | true =>
    have eac : ((m : Int)).toNat = m := by omega
    have pac : (0 : Int) <= (m : Int) := by omega
    have bac : (m : Int) < (d.size : Int) := by omega
    have rac : IntKind.i64.wrap ((m : Int)) = (m : Int) := by rw [jA]; omega
    have ecc : ((h : Int)).toNat = h := by omega
    have pcc : (0 : Int) <= (h : Int) := by omega
    have bcc : (h : Int) < (d.size : Int) := by omega
    have rcc : IntKind.i64.wrap ((h : Int)) = (h : Int) := by rw [jA]; omega
    obtain ⟨xc, hxc⟩ : ∃ x, x = d[m]! := ⟨_, rfl⟩
    obtain ⟨yc, hyc⟩ : ∃ x, x = d[h]! := ⟨_, rfl⟩
    have lca := S1.out.ld R (by omega) P (m) (by omega)
    have lcb := S1.out.ld R (by omega) P (h) (by omega)
    rw [<- hxc] at lca
    rw [<- hyc] at lcb
    have hcc := S1.out.cmp HC.out (by omega) xc yc
    have hvc : cf xc yc < 0 := by rw [hxc, hyc]; exact of_decide_eq_true hL
    have hdc : decide (cf xc yc < 0) = true := decide_eq_true hvc
    clear hxc hyc
    go_wp2_with fail
    go_quiet_grown (first | (go_at_fn g; refine Calls.grown_of (hcc _ _)))
    have Sc : Aside (SWK enc k w0 blk off d (grow (wr.drewN nq) osq)) := S1.out.grown nq osq
    clear lca lcb hcc S1
    generalize grow (wr.drewN nq) osq = w2 at Sc ⊢
    clear nq osq
    go_wp2_with fail
    go_roundg (h - i)
    case measure => omega
    exact ⟨i, h, rfl, rfl, hai, hlo, by omega, nR _, Sc, HF.out.no hO HA.out hlo hhi hL⟩
   | false =>
    have eac : ((m : Int)).toNat = m := by omega
    have pac : (0 : Int) <= (m : Int) := by omega
    have bac : (m : Int) < (d.size : Int) := by omega
    have rac : IntKind.i64.wrap ((m : Int)) = (m : Int) := by rw [jA]; omega
    have ecc : ((h : Int)).toNat = h := by omega
    have pcc : (0 : Int) <= (h : Int) := by omega
    have bcc : (h : Int) < (d.size : Int) := by omega
    have rcc : IntKind.i64.wrap ((h : Int)) = (h : Int) := by rw [jA]; omega
    obtain ⟨xc, hxc⟩ : ∃ x, x = d[m]! := ⟨_, rfl⟩
    obtain ⟨yc, hyc⟩ : ∃ x, x = d[h]! := ⟨_, rfl⟩
    have lca := S1.out.ld R (by omega) P (m) (by omega)
    have lcb := S1.out.ld R (by omega) P (h) (by omega)
    rw [<- hxc] at lca
    rw [<- hyc] at lcb
    have hcc := S1.out.cmp HC.out (by omega) xc yc
    have hvc : ¬ (cf xc yc < 0) := by rw [hxc, hyc]; exact of_decide_eq_false hL
    have hdc : decide (cf xc yc < 0) = false := decide_eq_false hvc
    clear hxc hyc
    go_wp2_with fail
    go_quiet_grown (first | (go_at_fn g; refine Calls.grown_of (hcc _ _)))
    have Sc : Aside (SWK enc k w0 blk off d (grow (wr.drewN nq) osq)) := S1.out.grown nq osq
    clear lca lcb hcc S1
    generalize grow (wr.drewN nq) osq = w2 at Sc ⊢
    clear nq osq
    go_wp2_with fail
    go_roundg (j - (h + 1))
    case measure => omega
    exact ⟨h + 1, j, by go_num, rfl, by omega, by omega, hjb, nR _, Sc, HF.out.yes hO HA.out hlo hhi hL⟩
  have hltz : ¬ ((i : Int) < (j : Int)) := by omega
  obtain rfl : i = j := by omega
  go_wp2
  go_loopg [17] (m + 1) (fun kx s17 wr2 => ∃ (q : Nat) (dk : Array α), s17 = .int .i64 q /\ i <= q /\ q <= m /\ q - i <= kx /\ dk.size = d.size /\ Aside (SWK enc k w0 blk off dk wr2) /\ Hid (MwR a q m d dk))
  exact ⟨m, d, rfl, by omega, nR _, by omega, rfl, S1, MwR.start a m d⟩
  clear S1
  obtain ⟨q, dk, rfl, haq, hqi, hkx2, hds, S2, HM⟩ := hrel
  by_cases hlt2 : i < q
  ·have hlt2z : (i : Int) < (q : Int) := by omega
   go_wp2_with fail
   have eau : ((q : Int)).toNat = q := by omega
   have pau : (0 : Int) <= (q : Int) := by omega
   have bau : (q : Int) < (d.size : Int) := by omega
   have rau : IntKind.i64.wrap ((q : Int)) = (q : Int) := by rw [jA]; omega
   have ecu : ((q : Int) - 1).toNat = q - 1 := by omega
   have pcu : (0 : Int) <= (q : Int) - 1 := by omega
   have bcu : (q : Int) - 1 < (d.size : Int) := by omega
   have rcu : IntKind.i64.wrap ((q : Int) - 1) = (q : Int) - 1 := by rw [jA]; omega
   have Su : Aside (SWK enc k w0 blk off (swp dk (q) (q - 1)) ((wr.drew.setCells blk (off + (q) * k) (enc dk[q - 1]!)).setCells blk (off + (q - 1) * k) (enc dk[q]!))) := S2.out.swapped R (q) (q - 1) (by omega) (by omega)
   have lua := S2.out.ld1 R (by omega) P (q) (by omega)
   have lub := S2.out.ld1 R (by omega) P (q - 1) (by omega)
   have sua := S2.out.st1 R (by omega) P (q) (by omega) dk[q - 1]!
   have sub := S2.out.st2 R (by omega) P (q) (q - 1) (by omega) (by omega) dk[q - 1]! dk[q]!
   have nua : (enc dk[q]!).length = k := R.hk _
   have nub : (enc dk[q - 1]!).length = k := R.hk _
   generalize enc dk[q]! = cIu at Su lua sub nua
   generalize enc dk[q - 1]! = cJu at Su lub sua sub nub
   clear S2
   go_wp2_with fail
   go_big_region_o
   clear lua lub sua sub
   generalize (wr.drew.setCells blk (off + (q) * k) cJu).setCells blk (off + (q - 1) * k) cIu = w3 at Su ⊢
   go_wp2
   go_roundg (q - 1 - i)
   case measure => omega
   exact ⟨q - 1, swp dk q (q - 1), by congr 1; omega, by omega, by omega, nR _, by rw [Sort.size_swp]; exact hds, Su, HM.out.step (by omega) hqi (by omega)⟩
  have hlt2z : ¬ ((i : Int) < (q : Int)) := by omega
  have HQI : Hid (q = i) := hI (by omega)
  go_wp2
  refine bodyPost_ret (results_none rfl _ _ _) rfl ?_
  exact ⟨rfl, dk, S2.out, HF.out.done hO HA.out (HQI.out ▸ HM.out)⟩
end Go.Proofs.YtlopccnehgolnacGreatDoor
namespace Go.Proofs.YtlopccnehgolnacGreatDoor
open Go.Shelf Go.RowKit Go.Lib Go.Sort
variable {P : Program} {k : Nat} {f0 f1 f2 f3 f4 : FuncId} {α : Type} [Inhabited α]
theorem Y7r (h9 : SrtU P k f0 f1 f2 f3 f4) (enc : α -> List Value) (cf : α -> α -> Int) (g : Nat) (cb : Array Value) (hO : SWO (ltOf cf)) (blk off cap : Nat) (d0 : Array α) (w0 : World)
  (eg : ∀ args w, (callFunc g args).run P w = .ok (.enter g args) w) (hcmp : CmpLays P g cb enc k cf blk off d0.size w0) (R : RowK enc k w0 blk off d0) :
  ∀ (N : Nat), ∀ (a m b : Nat) (d : Array α) (w : World), b - a < N -> d0.size = d.size -> SWK enc k w0 blk off d w -> a < m -> m < b -> b <= d.size -> d.size < 4611686018427387904 -> SortedIn (ltOf cf) a m d -> SortedIn (ltOf cf) m b d ->
  Calls P f2 #[.slice (some ⟨blk, off, none⟩) d.size cap, .int .i64 a, .int .i64 m, .int .i64 b, .func (.func g) #[] cb] w fun e w' => e = .returned (.tuple #[]) /\ ∃ d', SWK enc k w0 blk off d' w' /\ Merged (ltOf cf) a b d d' := by
 intro N
 induction N with
 | zero => intro _ _ _ _ _ h; exact absurd h (Nat.not_lt_zero _)
 | succ N ih =>
  intro a m b d w hN hs S ham hmb hb hsz hA hB
  by_cases h1 : m = a + 1
  ·exact Y4j h9 enc cf g cb hO blk off cap d0 w0 eg hcmp R a m b d w hs S ham hmb hb hsz hA hB h1
  have h1z : ¬ ((m : Int) - (a : Int) = 1) := by omega
  by_cases h2 : b = m + 1
  ·exact Y4k h9 enc cf g cb hO blk off cap d0 w0 eg hcmp R a m b d w hs S ham hmb hb hsz hA hB h1z h2
  have h2z : ¬ ((b : Int) - (m : Int) = 1) := by omega
  exact Y4l h9 enc cf g cb hO blk off cap d0 w0 eg hcmp R N (Lib.hid ih) a m b d w hs S ham hmb hb hsz hA hB hN h1 h1z h2 h2z _ rfl
end Go.Proofs.YtlopccnehgolnacGreatDoor
namespace Go.Proofs.YtlopccnehgolnacGreatDoor
open Go.Shelf Go.RowKit Go.Lib Go.Sort
open Go.Lib renaming hid -> hI
open Nat renaming le_refl -> nR, zero_le -> jA
set_option maxRecDepth 1000000
set_option maxHeartbeats 12800000
variable {P : Program} {k : Nat} {f0 f1 f2 f3 f4 : FuncId} {α : Type} [Inhabited α]
def Y92 : Ren := ⟨fun | 20 => 134 | n => n, fun | 22 => 35 | 24 => 63 | 25 => 149 | 3 => 3 | 4 => 4 | 0 => 0 | n => n, fun n => n⟩
theorem Y68 (L : SrtDm P k) : SlLaysF0.n20 P Y92 where
 mixed := L.mixed
 f20 := ⟨Tryz.f134.name, by decide, L.f3.trans (congrArg some (by kernel_rfl))⟩
 t0 := L.tq0
 a0 := L.aq0
 z0 := L.zq0
 v0 := L.vq0
 t3 := L.tq3
 a3 := L.aq3
 z3 := L.zq3
 v3 := L.vq3
 t4 := L.tq4
 a4 := L.aq4
 z4 := L.zq4
 v4 := L.vq4
 t22 := L.tqs
 a22 := L.aqs
 z22 := L.zqs
 v22 := L.vqs
 t25 := L.tqc
 a25 := L.aqc
 z25 := L.zqc
 v25 := L.vqc
def Y93 : Ren := ⟨fun | 20 => 131 | n => n, fun | 22 => 36 | 24 => 66 | 25 => 147 | 3 => 3 | 4 => 4 | 0 => 0 | n => n, fun n => n⟩
theorem Y69 (L : SrtTb P k) : SlLaysF0.n20 P Y93 where
 mixed := L.mixed
 f20 := ⟨Tryz.f131.name, by decide, L.f3.trans (congrArg some (by kernel_rfl))⟩
 t0 := L.tq0
 a0 := L.aq0
 z0 := L.zq0
 v0 := L.vq0
 t3 := L.tq3
 a3 := L.aq3
 z3 := L.zq3
 v3 := L.vq3
 t4 := L.tq4
 a4 := L.aq4
 z4 := L.zq4
 v4 := L.vq4
 t22 := L.tqs
 a22 := L.aqs
 z22 := L.zqs
 v22 := L.vqs
 t25 := L.tqc
 a25 := L.aqc
 z25 := L.zqc
 v25 := L.vqc
theorem X1b (h9 : SrtU P k f0 f1 f2 f3 f4) (enc : α -> List Value) (cf : α -> α -> Int) (g : Nat) (cb : Array Value) (hO : SWO (ltOf cf)) (blk off cap : Nat) (d0 : Array α) (w0 : World)
  (eg : ∀ args w, (callFunc g args).run P w = .ok (.enter g args) w) (hcmp : CmpLays P g cb enc k cf blk off d0.size w0) (R : RowK enc k w0 blk off d0)
  (a b : Nat) (d : Array α) (w : World) (hs : d0.size = d.size) (S : SWK enc k w0 blk off d w) (hab : a <= b) (hb : b <= d.size) (hsz : d.size < 4611686018427387904) :
  Calls P f3 #[.slice (some ⟨blk, off, none⟩) d.size cap, .int .i64 a, .int .i64 b, .func (.func g) #[] cb] w fun e w' => e = .returned (.tuple #[]) /\ ∃ d', SWK enc k w0 blk off d' w' /\ Merged (ltOf cf) a b d d' := by
 have hm := insertionSort_holds hO d a b hab hb
 have hC : CmpLays P g cb enc k cf blk off d.size w := fun m os dk hdk x y => by
  obtain ⟨n0, os0, rfl⟩ := S
  rw [sortWorldK_on enc k w0 blk off n0 m d dk os0 os R.hblk hdk]
  exact hcmp _ _ dk (by omega) x y
 rcases h9 with ⟨L, rfl, rfl, rfl, rfl, rfl⟩ | ⟨L, rfl, rfl, rfl, rfl, rfl⟩
 all_goals
  first | refine (AnyQ.insertionSortCmpFunc (Y68 L) k L.aE L.zE enc R.hk R.h1 cf g cb blk off cap a b d w eg hC (S.holds R.hblk R.hH hs.symm) (S.lt R.hblk) hab hb hsz).mono ?_ | refine (AnyQ.insertionSortCmpFunc (Y69 L) k L.aE L.zE enc R.hk R.h1 cf g cb blk off cap a b d w eg hC (S.holds R.hblk R.hH hs.symm) (S.lt R.hblk) hab hb hsz).mono ?_
  rintro e w' ⟨rfl, n, os, rfl⟩
  exact ⟨rfl, _, S.on R.hblk n _ os hm.1.1, hm⟩
theorem Y6j (h9 : SrtU P k f0 f1 f2 f3 f4) (enc : α -> List Value) (cf : α -> α -> Int) (g : Nat) (cb : Array Value) (hO : SWO (ltOf cf)) (blk off cap : Nat) (d0 : Array α) (w0 : World)
  (eg : ∀ args w, (callFunc g args).run P w = .ok (.enter g args) w) (hcmp : CmpLays P g cb enc k cf blk off d0.size w0) (R : RowK enc k w0 blk off d0)
  (d : Array α) (w : World) (hs : d0.size = d.size) (S : SWK enc k w0 blk off d w) (hsz : d.size < 1152921504606846976) :
  Calls P f4 #[.slice (some ⟨blk, off, none⟩) d.size cap, .int .i64 d.size, .func (.func g) #[] cb] w fun e w' => e = .returned (.tuple #[]) /\ ∃ d', SWK enc k w0 blk off d' w' /\ Merged (ltOf cf) 0 d.size d d' := by
 have INS : Hid (∀ (a b : Nat) (dk : Array α) (w : World), dk.size = d.size -> SWK enc k w0 blk off dk w -> a <= b -> b <= d.size ->
   Calls P f3 #[.slice (some ⟨blk, off, none⟩) d.size cap, .int .i64 a, .int .i64 b, .func (.func g) #[] cb] w fun e w' => e = .returned (.tuple #[]) /\ ∃ d', SWK enc k w0 blk off d' w' /\ Merged (ltOf cf) a b dk d') := hI fun a b dk w h S h1 h2 => by
  have := X1b h9 enc cf g cb hO blk off cap d0 w0 eg hcmp R a b dk w (by omega) S h1 (by omega) (by omega)
  rw [h] at this; exact this
 have MRG : Hid (∀ (a m b : Nat) (dk : Array α) (w : World), dk.size = d.size -> SWK enc k w0 blk off dk w -> a < m -> m < b -> b <= d.size -> SortedIn (ltOf cf) a m dk -> SortedIn (ltOf cf) m b dk ->
   Calls P f2 #[.slice (some ⟨blk, off, none⟩) d.size cap, .int .i64 a, .int .i64 m, .int .i64 b, .func (.func g) #[] cb] w fun e w' => e = .returned (.tuple #[]) /\ ∃ d', SWK enc k w0 blk off d' w' /\ Merged (ltOf cf) a b dk d') := hI fun a m b dk w h S h1 h2 h3 hA hB => by
  have := Y7r h9 enc cf g cb hO blk off cap d0 w0 eg hcmp R (b - a + 1) a m b dk w (by omega) (by omega) S h1 h2 (by omega) (by omega) hA hB
  rw [h] at this; exact this
 have H9 := hI h9
 rcases h9 with ⟨L, rfl, rfl, rfl, rfl, rfl⟩ | ⟨L, rfl, rfl, rfl, rfl, rfl⟩
 all_goals
  have NT := L.n4
  have mixed := L.mixed; have aE := L.aE; have zE := L.zE; have tq0 := L.tq0; have aq0 := L.aq0; have zq0 := L.zq0; have vq0 := L.vq0; have uq0 := run_underlying L.tq0; have tq3 := L.tq3; have aq3 := L.aq3; have zq3 := L.zq3; have vq3 := L.vq3; have uq3 := run_underlying L.tq3; have tq4 := L.tq4; have aq4 := L.aq4; have zq4 := L.zq4; have vq4 := L.vq4; have uq4 := run_underlying L.tq4; have tqu := L.tqu; have aqu := L.aqu; have zqu := L.zqu; have vqu := L.vqu; have uqu := run_underlying L.tqu; have tqs := L.tqs; have aqs := L.aqs; have zqs := L.zqs; have vqs := L.vqs; have uqs := run_underlying L.tqs; have tqc := L.tqc; have aqc := L.aqc; have zqc := L.zqc; have vqc := L.vqc; have uqc := run_underlying L.tqc;
  have FG := L.f4
  have e3 := H9.out.e3
  have e2 := H9.out.e2
  have S0 : Aside (SWK enc k w0 blk off d w) := S
  clear S hcmp
  go_enter FG, NT
  go_wp2
  go_loopg [7, 8] d.size (fun kx s7 s8 wr => ∃ (t a : Nat) (dk : Array α), s7 = .int .i64 a /\ s8 = .int .i64 ((a : Int) + 20) /\ a <= d.size /\ d.size - a <= kx /\ Hid (a = t * 20) /\ Hid (dk.size = d.size) /\ Aside (SWK enc k w0 blk off dk wr) /\ Hid (PermIn 0 d.size d dk) /\ Hid (Blocks (ltOf cf) 20 0 a dk))
  exact ⟨0, 0, d, by go_num, by go_num, by omega, by omega, hI (by omega), hI rfl, S0, hI (permIn_refl _ _ _), hI fun i j _ h1 h2 => by omega⟩
  clear S0
  obtain ⟨t, a, dk, rfl, rfl, han, hkx, HAT, HDS, S1, HP, HB⟩ := hrel
  by_cases hlt : a + 20 <= d.size
  ·have hltz : (a : Int) + 20 <= (d.size : Int) := by omega
   have hc := INS.out a (a + 20) dk wr HDS.out S1.out (by omega) hlt
   rw [show ((a + 20 : Nat) : Int) = (a : Int) + 20 by omega] at hc
   go_wp2_with ((first | go_at_fn 134 | go_at_fn 131); refine hc.mono ?_; rintro e w1 ⟨rfl, d1, S2', K2'⟩; have S2 := hI S2'; have K2 := hI K2'; clear S2' K2')
   have HN : Hid (PermIn 0 d.size d d1) := hI (permIn_trans _ _ _ _ _ HP.out (permIn_mono _ _ a (a + 20) 0 d.size (jA _) hlt (by rw [HDS.out]; omega) K2.out.1))
   have HM : Hid (Blocks (ltOf cf) 20 0 (a + 20) d1) := hI (by
    have e := HAT.out
    subst e
    exact Blocks.more (by omega) HB.out K2.out)
   go_roundg (d.size - (a + 20))
   case measure => omega
   exact ⟨t + 1, a + 20, d1, by go_num, by congr 1 <;> omega, hlt, nR _, hI (by have := HAT.out; omega), hI (by rw [K2.out.1.1]; exact HDS.out), S2.out, HN, HM⟩
  have hltz : ¬ ((a : Int) + 20 <= (d.size : Int)) := by omega
  have hc := INS.out a d.size dk wr HDS.out S1.out han (nR _)
  go_wp2_with ((first | go_at_fn 134 | go_at_fn 131); refine hc.mono ?_; rintro e w1 ⟨rfl, d1, S2', K2'⟩; have S2 := hI S2'; have K2 := hI K2'; clear S2' K2')
  have HN : Hid (PermIn 0 d.size d d1) := hI (permIn_trans _ _ _ _ _ HP.out (permIn_mono _ _ a d.size 0 d.size (jA _) (nR _) (by rw [HDS.out]; omega) K2.out.1))
  have HM : Hid (Blocks (ltOf cf) 20 0 d.size d1) := hI (by
   have e := HAT.out
   subst e
   exact Blocks.more (by omega) HB.out K2.out)
  have HD1 : Hid (d1.size = d.size) := hI (by rw [K2.out.1.1]; exact HDS.out)
  clear S1 HP HB HAT HDS K2 hc
  go_loopg [6] d.size (fun kx s6 wr => ∃ (bs : Nat) (dk : Array α), s6 = .int .i64 bs /\ 20 <= bs /\ bs < 4611686018427387904 /\ d.size - bs <= kx /\ Hid (dk.size = d.size) /\ Aside (SWK enc k w0 blk off dk wr) /\ Hid (PermIn 0 d.size d dk) /\ Hid (Blocks (ltOf cf) bs 0 d.size dk))
  exact ⟨20, d1, by go_num, nR _, by omega, by omega, HD1, S2.out, HN, HM⟩
  clear S2 HN HM HD1
  obtain ⟨bs, dk, rfl, hbs, hbsz, hkx2, HDS, S1, HP, HB⟩ := hrel
  by_cases hlt2 : bs < d.size
  ·have hlt2z : (bs : Int) < (d.size : Int) := by omega
   go_wp2
   go_loopg [7, 8] d.size (fun kx s7 s8 wr => ∃ (t a : Nat) (dj : Array α), s7 = .int .i64 a /\ s8 = .int .i64 ((a : Int) + 2 * (bs : Int)) /\ a <= d.size /\ d.size - a <= kx /\ Hid (a = t * (2 * bs)) /\ Hid (dj.size = d.size) /\ Aside (SWK enc k w0 blk off dj wr) /\ Hid (PermIn 0 d.size d dj) /\ Hid (Blocks (ltOf cf) (2 * bs) 0 a dj) /\ Hid (Blocks (ltOf cf) bs a d.size dj))
   exact ⟨0, 0, dk, by go_num, by congr 1 <;> omega, by omega, by omega, hI (by omega), HDS, S1, HP, hI fun i j _ h1 h2 => by omega, HB⟩
   clear S1 HP HB HDS
   obtain ⟨t, a, dj, rfl, rfl, han2, hkx3, HAT, HDS, S1, HP, HB, HC⟩ := hrel
   by_cases hlt3 : a + 2 * bs <= d.size
   ·have hlt3z : (a : Int) + 2 * (bs : Int) <= (d.size : Int) := by omega
    have hpr : SortedIn (ltOf cf) a (a + bs) dj /\ SortedIn (ltOf cf) (a + bs) (a + 2 * bs) dj := by
     have e := HAT.out
     have hC := HC.out
     rw [e] at hC hlt3 ⊢
     exact Blocks.pair (by omega) hC (by omega) (nR _) hlt3
    have hc := MRG.out a (a + bs) (a + 2 * bs) dj wr HDS.out S1.out (by omega) (by omega) hlt3 hpr.1 hpr.2
    rw [show ((a + bs : Nat) : Int) = (a : Int) + (bs : Int) by omega, show ((a + 2 * bs : Nat) : Int) = (a : Int) + 2 * (bs : Int) by omega] at hc
    clear hpr
    go_wp2_with ((first | go_at_fn 135 | go_at_fn 132); refine hc.mono ?_; rintro e w1 ⟨rfl, d1, S2', K2'⟩; have S2 := hI S2'; have K2 := hI K2'; clear S2' K2')
    have HN : Hid (PermIn 0 d.size d d1) := hI (permIn_trans _ _ _ _ _ HP.out (permIn_mono _ _ a (a + 2 * bs) 0 d.size (jA _) hlt3 (by rw [HDS.out]; omega) K2.out.1))
    have HM : Hid (Blocks (ltOf cf) (2 * bs) 0 (a + 2 * bs) d1) := hI (by
     have e := HAT.out
     have hB := HB.out
     have hK := K2.out
     rw [e] at hB hK ⊢
     exact Blocks.more (by omega) hB hK)
    have HR : Hid (Blocks (ltOf cf) bs (a + 2 * bs) d.size d1) := hI (HC.out.rest (by omega) fun i hi => K2.out.1.2.1 i (.inr hi))
    go_roundg (d.size - (a + 2 * bs))
    case measure => omega
    exact ⟨t + 1, a + 2 * bs, d1, by congr 1 <;> omega, by congr 1 <;> omega, hlt3, nR _, hI (by have := HAT.out; rw [Nat.add_mul, Nat.one_mul]; omega), hI (by rw [K2.out.1.1]; exact HDS.out), S2.out, HN, HM, HR⟩
   have hlt3z : ¬ ((a : Int) + 2 * (bs : Int) <= (d.size : Int)) := by omega
   by_cases hm : a + bs < d.size
   ·have hmz : (a : Int) + (bs : Int) < (d.size : Int) := by omega
    have hpr : SortedIn (ltOf cf) a (a + bs) dj /\ SortedIn (ltOf cf) (a + bs) d.size dj := by
     have e := HAT.out
     have hC := HC.out
     rw [e] at hC hlt3 hm ⊢
     exact Blocks.pair (by omega) hC (by omega) (by omega) (nR _)
    have hc := MRG.out a (a + bs) d.size dj wr HDS.out S1.out (by omega) hm (nR _) hpr.1 hpr.2
    rw [show ((a + bs : Nat) : Int) = (a : Int) + (bs : Int) by omega] at hc
    clear hpr
    go_wp2_with ((first | go_at_fn 135 | go_at_fn 132); refine hc.mono ?_; rintro e w1 ⟨rfl, d1, S2', K2'⟩; have S2 := hI S2'; have K2 := hI K2'; clear S2' K2')
    have HN : Hid (PermIn 0 d.size d d1) := hI (permIn_trans _ _ _ _ _ HP.out (permIn_mono _ _ a d.size 0 d.size (jA _) (nR _) (by rw [HDS.out]; omega) K2.out.1))
    have HM : Hid (Blocks (ltOf cf) (2 * bs) 0 d.size d1) := hI (by
     have e := HAT.out
     have hB := HB.out
     have hK := K2.out
     rw [e] at hB hK
     exact Blocks.more (by omega) hB hK)
    go_roundg (d.size - 2 * bs)
    case measure => omega
    exact ⟨2 * bs, d1, by congr 1 <;> omega, by omega, by omega, nR _, hI (by rw [K2.out.1.1]; exact HDS.out), S2.out, HN, HM⟩
   have hmz : ¬ ((a : Int) + (bs : Int) < (d.size : Int)) := by omega
   have HM : Hid (Blocks (ltOf cf) (2 * bs) 0 d.size dj) := hI (by
    have e := HAT.out
    have hB := HB.out
    have hC := HC.out
    rw [e] at hB hC hm
    exact Blocks.last (by omega) hB hC (by omega))
   go_wp2
   go_roundg (d.size - 2 * bs)
   case measure => omega
   exact ⟨2 * bs, dj, by congr 1 <;> omega, by omega, by omega, nR _, HDS, S1.out, HP, HM⟩
  have hlt2z : ¬ ((bs : Int) < (d.size : Int)) := by omega
  go_wp2
  go_end0
  exact ⟨rfl, dk, S1.out, HP.out, HB.out.whole (by omega)⟩
end Go.Proofs.YtlopccnehgolnacGreatDoor
