import Derived.Test.YtlopccnehgolnacGreatDoorSymA
import Derived.Deep.DeepCutAuto
import Derived.WalkKit
import Derived.WalkArith
import Derived.Lib.Walk
namespace Go.Proofs.YtlopccnehgolnacGreatDoor
open Go.Shelf Go.RowKit Go.Lib Go.Sort
open Go.Lib renaming hid -> hI
open Nat renaming le_refl -> nR
open Go.IntKind renaming wrap_i64 -> jA
set_option maxRecDepth 1000000
set_option maxHeartbeats 12800000
variable {P : Program} {k : Nat} {f0 f1 f2 f3 f4 : FuncId} {α : Type} [Inhabited α]
theorem Y4l (h9 : SrtU P k f0 f1 f2 f3 f4) (enc : α -> List Value) (cf : α -> α -> Int) (g : Nat) (cb : Array Value) (hO : SWO (ltOf cf)) (blk off cap : Nat) (d0 : Array α) (w0 : World)
  (eg : ∀ args w, (callFunc g args).run P w = .ok (.enter g args) w) (hcmp : CmpLays P g cb enc k cf blk off d0.size w0) (R : RowK enc k w0 blk off d0)
  (N : Nat) (IH : Hid (∀ (a m b : Nat) (d : Array α) (w : World), b - a < N -> d0.size = d.size -> SWK enc k w0 blk off d w -> a < m -> m < b -> b <= d.size -> d.size < 4611686018427387904 -> SortedIn (ltOf cf) a m d -> SortedIn (ltOf cf) m b d ->
  Calls P f2 #[.slice (some ⟨blk, off, none⟩) d.size cap, .int .i64 a, .int .i64 m, .int .i64 b, .func (.func g) #[] cb] w fun e w' => e = .returned (.tuple #[]) /\ ∃ d', SWK enc k w0 blk off d' w' /\ Merged (ltOf cf) a b d d'))
  (a m b : Nat) (d : Array α) (w : World) (hs : d0.size = d.size) (S : SWK enc k w0 blk off d w) (ham : a < m) (hmb : m < b) (hb : b <= d.size) (hsz : d.size < 4611686018427387904)
  (hA : SortedIn (ltOf cf) a m d) (hB : SortedIn (ltOf cf) m b d) (hN : b - a < N + 1) (h1 : ¬ m = a + 1) (h1z : ¬ ((m : Int) - (a : Int) = 1)) (h2 : ¬ b = m + 1) (h2z : ¬ ((b : Int) - (m : Int) = 1)) (mid : Nat) (hmid : mid = (a + b) / 2) :
  Calls P f2 #[.slice (some ⟨blk, off, none⟩) d.size cap, .int .i64 a, .int .i64 m, .int .i64 b, .func (.func g) #[] cb] w fun e w' => e = .returned (.tuple #[]) /\ ∃ d', SWK enc k w0 blk off d' w' /\ Merged (ltOf cf) a b d d' := by
 have H9 := hI h9
 rcases h9 with ⟨L, rfl, rfl, rfl, rfl, rfl⟩ | ⟨L, rfl, rfl, rfl, rfl, rfl⟩
 all_goals
  have NT := L.n2
  have mixed := L.mixed; have aE := L.aE; have zE := L.zE; have tq0 := L.tq0; have aq0 := L.aq0; have zq0 := L.zq0; have vq0 := L.vq0; have uq0 := run_underlying L.tq0; have tq3 := L.tq3; have aq3 := L.aq3; have zq3 := L.zq3; have vq3 := L.vq3; have uq3 := run_underlying L.tq3; have tq4 := L.tq4; have aq4 := L.aq4; have zq4 := L.zq4; have vq4 := L.vq4; have uq4 := run_underlying L.tq4; have tqu := L.tqu; have aqu := L.aqu; have zqu := L.zqu; have vqu := L.vqu; have uqu := run_underlying L.tqu; have tqs := L.tqs; have aqs := L.aqs; have zqs := L.zqs; have vqs := L.vqs; have uqs := run_underlying L.tqs; have tqc := L.tqc; have aqc := L.aqc; have zqc := L.zqc; have vqc := L.vqc; have uqc := run_underlying L.tqc;
  have FG := L.f2
  have HC : Aside _ := hcmp
  clear hcmp
  have S0 : Aside (SWK enc k w0 blk off d w) := S
  have HA := hI hA
  have HB := hI hB
  clear S hA hB
  have e1 := H9.out.e1
  have e2 := H9.out.e2
  have h1b : ((m : Int) - (a : Int) == 1) = false := by simpa using h1z
  have h2b : ((b : Int) - (m : Int) == 1) = false := by simpa using h2z
  have hmz : ((a : Int) + (b : Int)) / 2 = (mid : Int) := by omega
  have hmb1 : a < mid := by omega
  have hmb2 : mid < b := by omega
  have HMID := hI hmid
  clear hmid
  go_enter FG, NT
  go_upto_if 140 with fail
  go_cut [20, 21] (fun c20 c21 wc => ∃ s0 r0 : Nat, c20 = .int .i64 s0 /\ c21 = .int .i64 r0 /\ s0 <= r0 /\ r0 < mid + m /\ mid + m <= s0 + b /\ r0 <= b /\ Hid (Mid a m b mid (mid + m) s0 r0) /\ Aside (SWK enc k w0 blk off d wc))
  case first =>
   as_aux_lemma =>
    have hmd := HMID.out
    by_cases hmm : mid < m
    ·have hmmz : (mid : Int) < (m : Int) := by omega
     have hq : b <= mid + m := by omega
     clear hmd
     go_wp2_with fail
     go_meet
     exact ⟨mid + m - b, mid, by congr 1; omega, rfl, by omega, by omega, by omega, by omega, hI ⟨ham, hmb, h1, h2, HMID.out, rfl, by rw [if_pos hmm]; exact ⟨rfl, rfl⟩⟩, S0⟩
    have hmmz : ¬ (mid : Int) < (m : Int) := by omega
    have hq : mid + m <= a + b := by omega
    clear hmd
    go_wp2_with fail
    go_meet
    exact ⟨a, m, rfl, rfl, by omega, by omega, by omega, by omega, hI ⟨ham, hmb, h1, h2, HMID.out, rfl, by rw [if_neg hmm]; exact ⟨rfl, rfl⟩⟩, S0⟩
  as_aux_lemma =>
   clear S0
   obtain ⟨s0, r0, rfl, rfl, hsr, hu1, hu2, hu3, M, S0⟩ := hcut
   go_wp2
   go_loopg [20, 21] b (fun kx s20 s21 wr => ∃ (s r : Nat), s20 = .int .i64 s /\ s21 = .int .i64 r /\ s0 <= s /\ s <= r /\ r <= r0 /\ r - s <= kx /\ Aside (SWK enc k w0 blk off d wr) /\ Hid (Cut (ltOf cf) (mid + m) s0 r0 s r d))
   exact ⟨s0, r0, rfl, rfl, nR _, hsr, nR _, by omega, S0, Cut.start d hsr⟩
   clear S0
   obtain ⟨s, r, rfl, rfl, hss, hsr', hrr, hkx, S1, HF⟩ := hrel
   by_cases hlt : s < r
   ·have hltz : (s : Int) < (r : Int) := by omega
    obtain ⟨h, hh⟩ : ∃ h : Nat, h = (s + r) / 2 := ⟨_, rfl⟩
    have hz : (((s : Nat) : Int) + ((r : Nat) : Int)) / 2 = (h : Int) := by omega
    have hlo : s <= h := by omega
    have hhi : h < r := by omega
    clear hh
    have hmd := HMID.out
    have hb1 : h < mid + m := by omega
    have hb2 : mid + m - 1 - h < d.size := by omega
    have hb3 : h < d.size := by omega
    obtain ⟨pn, hpn⟩ : ∃ pn : Nat, pn = mid + m - 1 - h := ⟨_, rfl⟩
    have hpz : (mid : Int) + (m : Int) - 1 - (h : Int) = (pn : Int) := by omega
    have HPN := hI hpn
    have hb4 : pn < d.size := by omega
    clear hmd hpn hb2
    cases hL : ltOf cf d[pn]! d[h]! with
    | true =>
     as_aux_lemma =>
      have eac : ((pn : Int)).toNat = pn := by omega
      have pac : (0 : Int) <= (pn : Int) := by omega
      have bac : (pn : Int) < (d.size : Int) := by omega
      have rac : IntKind.i64.wrap ((pn : Int)) = (pn : Int) := by rw [jA]; omega
      have ecc : ((h : Int)).toNat = h := by omega
      have pcc : (0 : Int) <= (h : Int) := by omega
      have bcc : (h : Int) < (d.size : Int) := by omega
      have rcc : IntKind.i64.wrap ((h : Int)) = (h : Int) := by rw [jA]; omega
      obtain ⟨xc, hxc⟩ : ∃ x, x = d[pn]! := ⟨_, rfl⟩
      obtain ⟨yc, hyc⟩ : ∃ x, x = d[h]! := ⟨_, rfl⟩
      have lca := S1.out.ld R (by omega) P (pn) (by omega)
      have lcb := S1.out.ld R (by omega) P (h) (by omega)
      rw [<- hxc] at lca
      rw [<- hyc] at lcb
      have hcc := S1.out.cmp HC.out (by omega) xc yc
      have hvc : cf xc yc < 0 := by rw [hxc, hyc]; exact of_decide_eq_true hL
      have hdc : decide (cf xc yc < 0) = true := decide_eq_true hvc
      clear hxc hyc
      go_wp2_with fail
      go_quiet_grown (first | (go_at_fn g; refine Calls.grown_of (hcc _ _)))
      have Sc : Aside (SWK enc k w0 blk off d (grow (wr.drewN nq) osq)) := S1.out.grown nq osq
      clear lca lcb hcc S1
      generalize grow (wr.drewN nq) osq = w2 at Sc ⊢
      clear nq osq
      go_wp2_with fail
      go_roundg (h - s)
      case measure => omega
      exact ⟨s, h, rfl, rfl, hss, hlo, by omega, nR _, Sc, HF.out.no hO M.out HA.out HB.out hlo hhi (by rw [<- HPN.out]; exact hL)⟩
    | false =>
     as_aux_lemma =>
      have eac : ((pn : Int)).toNat = pn := by omega
      have pac : (0 : Int) <= (pn : Int) := by omega
      have bac : (pn : Int) < (d.size : Int) := by omega
      have rac : IntKind.i64.wrap ((pn : Int)) = (pn : Int) := by rw [jA]; omega
      have ecc : ((h : Int)).toNat = h := by omega
      have pcc : (0 : Int) <= (h : Int) := by omega
      have bcc : (h : Int) < (d.size : Int) := by omega
      have rcc : IntKind.i64.wrap ((h : Int)) = (h : Int) := by rw [jA]; omega
      obtain ⟨xc, hxc⟩ : ∃ x, x = d[pn]! := ⟨_, rfl⟩
      obtain ⟨yc, hyc⟩ : ∃ x, x = d[h]! := ⟨_, rfl⟩
      have lca := S1.out.ld R (by omega) P (pn) (by omega)
      have lcb := S1.out.ld R (by omega) P (h) (by omega)
      rw [<- hxc] at lca
      rw [<- hyc] at lcb
      have hcc := S1.out.cmp HC.out (by omega) xc yc
      have hvc : ¬ (cf xc yc < 0) := by rw [hxc, hyc]; exact of_decide_eq_false hL
      have hdc : decide (cf xc yc < 0) = false := decide_eq_false hvc
      clear hxc hyc
      go_wp2_with fail
      go_quiet_grown (first | (go_at_fn g; refine Calls.grown_of (hcc _ _)))
      have Sc : Aside (SWK enc k w0 blk off d (grow (wr.drewN nq) osq)) := S1.out.grown nq osq
      clear lca lcb hcc S1
      generalize grow (wr.drewN nq) osq = w2 at Sc ⊢
      clear nq osq
      go_wp2_with fail
      go_roundg (r - (h + 1))
      case measure => omega
      exact ⟨h + 1, r, by go_num, rfl, by omega, by omega, hrr, nR _, Sc, HF.out.yes hO M.out HA.out HB.out hlo hhi (by rw [<- HPN.out]; exact hL)⟩
   have hltz : ¬ ((s : Int) < (r : Int)) := by omega
   obtain rfl : s = r := by omega
   have hbd := M.out.bounds hss hrr
   obtain ⟨b1, b2, b3, b4, b5, b6, b7, b8, b9, b10, b11⟩ := hbd
   obtain ⟨en, hen⟩ : ∃ en : Nat, en = mid + m - s := ⟨_, rfl⟩
   have henz : (mid : Int) + (m : Int) - (s : Int) = (en : Int) := by omega
   rw [<- hen] at b4 b5 b6 b9
   have HEN := hI hen
   clear hen b9
   go_upto_region 39 with fail
   go_cut [185] (fun c wc => ∃ q : Bool, c = .bool q /\ (q = true ↔ s < m /\ m < en) /\ Aside (SWK enc k w0 blk off d wc))
   case first =>
    as_aux_lemma =>
     by_cases c1 : s < m
     ·have c1z : (s : Int) < (m : Int) := by omega
      by_cases c2 : m < en
      ·have c2z : (m : Int) < (en : Int) := by omega
       go_wp2_with fail
       go_meet
       exact ⟨true, rfl, ⟨fun _ => ⟨c1, c2⟩, fun _ => rfl⟩, S1⟩
      have c2z : ¬ ((m : Int) < (en : Int)) := by omega
      go_wp2_with fail
      go_meet
      exact ⟨false, rfl, ⟨fun h => by (cases h), fun h => absurd h.2 c2⟩, S1⟩
     have c1z : ¬ ((s : Int) < (m : Int)) := by omega
     go_wp2_with fail
     go_meet
     exact ⟨false, rfl, ⟨fun h => by (cases h), fun h => absurd h.1 c1⟩, S1⟩
   as_aux_lemma =>
    clear S1
    obtain ⟨q, rfl, hq, S1⟩ := hcut
    go_upto_if 185 with fail
    go_cut [] (fun wc => ∃ d1 : Array α, Aside (SWK enc k w0 blk off d1 wc) /\ Hid (Rot s m en d d1))
    case first =>
     as_aux_lemma =>
      cases q
      ·have hn : ¬ (s < m /\ m < en) := fun h => by (cases hq.2 h)
       go_wp2_with fail
       go_meet
       exact ⟨d, S1.out, Rot.none _ _ _ _ (by omega)⟩
      have hy := hq.1 rfl
      clear hq
      have hc := X1p H9.out enc g cb blk off cap s m en d0 d w0 wc R hs S1.out hy.1 hy.2 (by omega) hsz
      go_wp2_with ((first | go_at_fn 155 | go_at_fn 154); refine hc.mono ?_; rintro e w1 ⟨rfl, d1, S2', K2'⟩; have S2 := hI S2'; have K2 := hI K2'; clear S2' K2')
      go_meet
      exact ⟨d1, S2.out, K2.out⟩
    as_aux_lemma =>
     clear S1 hq
     obtain ⟨d1, S2, HR⟩ := hcut
     have HQ := hI (M.out.rotated hO HF.out HA.out HB.out (HEN.out ▸ HR.out))
     have hds : d1.size = d.size := HR.out.2.1
     go_upto_region 41 with fail
     go_cut [199] (fun c wc => ∃ q : Bool, c = .bool q /\ (q = true ↔ a < s /\ s < mid) /\ Aside (SWK enc k w0 blk off d1 wc))
     case first =>
      as_aux_lemma =>
       by_cases c1 : a < s
       ·have c1z : (a : Int) < (s : Int) := by omega
        by_cases c2 : s < mid
        ·have c2z : (s : Int) < (mid : Int) := by omega
         go_wp2_with fail
         go_meet
         exact ⟨true, rfl, ⟨fun _ => ⟨c1, c2⟩, fun _ => rfl⟩, S2⟩
        have c2z : ¬ ((s : Int) < (mid : Int)) := by omega
        go_wp2_with fail
        go_meet
        exact ⟨false, rfl, ⟨fun h => by (cases h), fun h => absurd h.2 c2⟩, S2⟩
       have c1z : ¬ ((a : Int) < (s : Int)) := by omega
       go_wp2_with fail
       go_meet
       exact ⟨false, rfl, ⟨fun h => by (cases h), fun h => absurd h.1 c1⟩, S2⟩
     as_aux_lemma =>
      clear S2
      obtain ⟨q, rfl, hq, S2⟩ := hcut
      go_upto_if 199 with fail
      go_cut [] (fun wc => ∃ d2 : Array α, Aside (SWK enc k w0 blk off d2 wc) /\ Hid (Merged (ltOf cf) a mid d1 d2))
      case first =>
       as_aux_lemma =>
        cases q
        ·have hn : ¬ (a < s /\ s < mid) := fun h => by (cases hq.2 h)
         have HME : Hid (Merged (ltOf cf) a mid d1 d1) := by
          rcases Nat.lt_or_ge a s with h | h
          ·exact hI (Merged.sorted (SortedIn.part (show SortedIn (ltOf cf) a s d1 from HQ.out.1) (nR _) (by omega)))
          exact hI (Merged.sorted (SortedIn.part (show SortedIn (ltOf cf) s mid d1 from HQ.out.2.1) (by omega) (nR _)))
         go_wp2_with fail
         go_meet
         exact ⟨d1, S2.out, HME.out⟩
        have hy := hq.1 rfl
        clear hq
        have hc := IH.out a s mid d1 wc (by omega) (by omega) S2.out hy.1 hy.2 (by omega) (by omega) HQ.out.1 HQ.out.2.1
        rw [hds] at hc
        go_wp2_with ((first | go_at_fn 135 | go_at_fn 132); refine hc.mono ?_; rintro e w1 ⟨rfl, d2, S3', K3'⟩; have S3 := hI S3'; have K3 := hI K3'; clear S3' K3')
        go_meet
        exact ⟨d2, S3.out, K3.out⟩
      as_aux_lemma =>
       clear S2 hq
       obtain ⟨d2, S3, HM2⟩ := hcut
       have hds2 : d2.size = d.size := by rw [HM2.out.1.1]; exact hds
       have same : ∀ i, mid <= i -> i < b -> d2[i]! = d1[i]! := fun i h _ => HM2.out.1.2.1 i (.inr h)
       have SAME := hI same
       clear same
       have FIN : Hid (∀ d3 : Array α, Merged (ltOf cf) mid b d2 d3 -> Merged (ltOf cf) a b d d3) := hI fun d3 h => Merged.halves (by omega) HR.out.2 HQ.out.2.2.2.2 HM2.out h
       have QA := hI (SortedIn.same HQ.out.2.2.1 fun i h1 h2 => SAME.out i h1 (by have := HEN.out; omega))
       have QB := hI (SortedIn.same HQ.out.2.2.2.1 fun i h1 h2 => SAME.out i (by have := HEN.out; omega) h2)
       go_upto_region 43 with fail
       go_cut [213] (fun c wc => ∃ q : Bool, c = .bool q /\ (q = true ↔ mid < en /\ en < b) /\ Aside (SWK enc k w0 blk off d2 wc))
       case first =>
        as_aux_lemma =>
         by_cases c1 : mid < en
         ·have c1z : (mid : Int) < (en : Int) := by omega
          by_cases c2 : en < b
          ·have c2z : (en : Int) < (b : Int) := by omega
           go_wp2_with fail
           go_meet
           exact ⟨true, rfl, ⟨fun _ => ⟨c1, c2⟩, fun _ => rfl⟩, S3⟩
          have c2z : ¬ ((en : Int) < (b : Int)) := by omega
          go_wp2_with fail
          go_meet
          exact ⟨false, rfl, ⟨fun h => by (cases h), fun h => absurd h.2 c2⟩, S3⟩
         have c1z : ¬ ((mid : Int) < (en : Int)) := by omega
         go_wp2_with fail
         go_meet
         exact ⟨false, rfl, ⟨fun h => by (cases h), fun h => absurd h.1 c1⟩, S3⟩
       as_aux_lemma =>
        clear S3
        obtain ⟨q, rfl, hq, S3⟩ := hcut
        cases q
        ·have hn : ¬ (mid < en /\ en < b) := fun h => by (cases hq.2 h)
         have HME : Hid (Merged (ltOf cf) mid b d2 d2) := by
          have he := HEN.out
          rcases Nat.lt_or_ge mid en with h | h
          ·exact hI (Merged.sorted (SortedIn.part (show SortedIn (ltOf cf) mid (mid + m - s) d2 from QA.out) (nR _) (by omega)))
          exact hI (Merged.sorted (SortedIn.part (show SortedIn (ltOf cf) (mid + m - s) b d2 from QB.out) (by omega) (nR _)))
         go_wp2_with fail
         go_end0
         exact ⟨rfl, d2, S3.out, FIN.out _ HME.out⟩
        have hy := hq.1 rfl
        clear hq
        have hc := IH.out mid en b d2 wc (by omega) (by omega) S3.out hy.1 hy.2 (by omega) (by omega) (by rw [HEN.out]; exact QA.out) (by rw [HEN.out]; exact QB.out)
        rw [hds2] at hc
        go_wp2_with ((first | go_at_fn 135 | go_at_fn 132); refine hc.mono ?_; rintro e w1 ⟨rfl, d3, S4', K4'⟩; have S4 := hI S4'; have K4 := hI K4'; clear S4' K4')
        go_end0
        exact ⟨rfl, d3, S4.out, FIN.out _ K4.out⟩
end Go.Proofs.YtlopccnehgolnacGreatDoor
