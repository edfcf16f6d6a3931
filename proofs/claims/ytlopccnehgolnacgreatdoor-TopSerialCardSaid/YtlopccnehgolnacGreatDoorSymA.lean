import Derived.Test.YtlopccnehgolnacGreatDoorSymMath
import Derived.Test.YtlopccnehgolnacGreatDoorProg
import Derived.Shelf.SlSortCmp.KitK
import Derived.Deep.LoopGhost
import Derived.Deep.DeepMust
import Derived.Lib.Hide
namespace Go.Proofs.YtlopccnehgolnacGreatDoor
open Go.Shelf Go.RowKit Go.Lib Go.Sort
open Go.Lib renaming hid -> hI
open Nat renaming le_refl -> nR
open Go.IntKind renaming u64 -> jA, wrap_i64 -> jB
set_option maxRecDepth 1000000
set_option maxHeartbeats 4000000
variable {P : Program} {k : Nat} {f0 f1 f2 f3 f4 : FuncId} {α : Type} [Inhabited α]
structure SrtDm (P : Program) (k : Nat) : Prop where
 mixed : P.follows .mixedOrders = true
 aE : ∀ w, (isAgg 63).run P w = .ok true w
 zE : ∀ w, (Go.sizeOf 63).run P w = .ok k w
 tq0 : P.underlying 0 = some (TypeDesc.tuple #[])
 aq0 : ∀ w, (isAgg 0).run P w = .ok false w
 zq0 : ∀ w, (Go.sizeOf 0).run P w = .ok 1 w
 vq0 : ∀ w, (zeroValue 0).run P w = .ok (Value.tuple #[]) w
 tq3 : P.underlying 3 = some (TypeDesc.int IntKind.i64)
 aq3 : ∀ w, (isAgg 3).run P w = .ok false w
 zq3 : ∀ w, (Go.sizeOf 3).run P w = .ok 1 w
 vq3 : ∀ w, (zeroValue 3).run P w = .ok (Value.int IntKind.i64 0) w
 tq4 : P.underlying 4 = some (TypeDesc.bool)
 aq4 : ∀ w, (isAgg 4).run P w = .ok false w
 zq4 : ∀ w, (Go.sizeOf 4).run P w = .ok 1 w
 vq4 : ∀ w, (zeroValue 4).run P w = .ok (Value.bool false) w
 tqu : P.underlying 158 = some (TypeDesc.int jA)
 aqu : ∀ w, (isAgg 158).run P w = .ok false w
 zqu : ∀ w, (Go.sizeOf 158).run P w = .ok 1 w
 vqu : ∀ w, (zeroValue 158).run P w = .ok (Value.int jA 0) w
 tqs : P.underlying 35 = some (TypeDesc.slice 63)
 aqs : ∀ w, (isAgg 35).run P w = .ok false w
 zqs : ∀ w, (Go.sizeOf 35).run P w = .ok 1 w
 vqs : ∀ w, (zeroValue 35).run P w = .ok (Value.slice none 0 0) w
 tqc : P.underlying 149 = some (TypeDesc.func #[63, 63] #[3] false)
 aqc : ∀ w, (isAgg 149).run P w = .ok false w
 zqc : ∀ w, (Go.sizeOf 149).run P w = .ok 1 w
 vqc : ∀ w, (zeroValue 149).run P w = .ok (Value.nilFunc) w
 f0 : P.funcs[170]? = some Tryz.f170
 f1 : P.funcs[155]? = some Tryz.f155
 f2 : P.funcs[135]? = some Tryz.f135
 f3 : P.funcs[134]? = some Tryz.f134
 f4 : P.funcs[111]? = some Tryz.f111
 n0 : type_of% Tryz.ntmps170
 n1 : type_of% Tryz.ntmps155
 n2 : type_of% Tryz.ntmps135
 n3 : type_of% Tryz.ntmps134
 n4 : type_of% Tryz.ntmps111
theorem X43 : SrtDm Tryz.prog 3 where
 mixed := by kernel_rfl
 aE := Tryz.isAgg63
 zE := Tryz.sizeOf63
 tq0 := Tryz.underlying0
 aq0 := Tryz.isAgg0
 zq0 := Tryz.sizeOf0
 vq0 := Tryz.zeroValue0
 tq3 := Tryz.underlying3
 aq3 := Tryz.isAgg3
 zq3 := Tryz.sizeOf3
 vq3 := Tryz.zeroValue3
 tq4 := Tryz.underlying4
 aq4 := Tryz.isAgg4
 zq4 := Tryz.sizeOf4
 vq4 := Tryz.zeroValue4
 tqu := Tryz.underlying158
 aqu := Tryz.isAgg158
 zqu := Tryz.sizeOf158
 vqu := Tryz.zeroValue158
 tqs := Tryz.underlying35
 aqs := Tryz.isAgg35
 zqs := Tryz.sizeOf35
 vqs := Tryz.zeroValue35
 tqc := Tryz.underlying149
 aqc := Tryz.isAgg149
 zqc := Tryz.sizeOf149
 vqc := Tryz.zeroValue149
 f0 := Tryz.func170
 f1 := Tryz.func155
 f2 := Tryz.func135
 f3 := Tryz.func134
 f4 := Tryz.func111
 n0 := Tryz.ntmps170
 n1 := Tryz.ntmps155
 n2 := Tryz.ntmps135
 n3 := Tryz.ntmps134
 n4 := Tryz.ntmps111
structure SrtTb (P : Program) (k : Nat) : Prop where
 mixed : P.follows .mixedOrders = true
 aE : ∀ w, (isAgg 66).run P w = .ok true w
 zE : ∀ w, (Go.sizeOf 66).run P w = .ok k w
 tq0 : P.underlying 0 = some (TypeDesc.tuple #[])
 aq0 : ∀ w, (isAgg 0).run P w = .ok false w
 zq0 : ∀ w, (Go.sizeOf 0).run P w = .ok 1 w
 vq0 : ∀ w, (zeroValue 0).run P w = .ok (Value.tuple #[]) w
 tq3 : P.underlying 3 = some (TypeDesc.int IntKind.i64)
 aq3 : ∀ w, (isAgg 3).run P w = .ok false w
 zq3 : ∀ w, (Go.sizeOf 3).run P w = .ok 1 w
 vq3 : ∀ w, (zeroValue 3).run P w = .ok (Value.int IntKind.i64 0) w
 tq4 : P.underlying 4 = some (TypeDesc.bool)
 aq4 : ∀ w, (isAgg 4).run P w = .ok false w
 zq4 : ∀ w, (Go.sizeOf 4).run P w = .ok 1 w
 vq4 : ∀ w, (zeroValue 4).run P w = .ok (Value.bool false) w
 tqu : P.underlying 158 = some (TypeDesc.int jA)
 aqu : ∀ w, (isAgg 158).run P w = .ok false w
 zqu : ∀ w, (Go.sizeOf 158).run P w = .ok 1 w
 vqu : ∀ w, (zeroValue 158).run P w = .ok (Value.int jA 0) w
 tqs : P.underlying 36 = some (TypeDesc.slice 66)
 aqs : ∀ w, (isAgg 36).run P w = .ok false w
 zqs : ∀ w, (Go.sizeOf 36).run P w = .ok 1 w
 vqs : ∀ w, (zeroValue 36).run P w = .ok (Value.slice none 0 0) w
 tqc : P.underlying 147 = some (TypeDesc.func #[66, 66] #[3] false)
 aqc : ∀ w, (isAgg 147).run P w = .ok false w
 zqc : ∀ w, (Go.sizeOf 147).run P w = .ok 1 w
 vqc : ∀ w, (zeroValue 147).run P w = .ok (Value.nilFunc) w
 f0 : P.funcs[169]? = some Tryz.f169
 f1 : P.funcs[154]? = some Tryz.f154
 f2 : P.funcs[132]? = some Tryz.f132
 f3 : P.funcs[131]? = some Tryz.f131
 f4 : P.funcs[109]? = some Tryz.f109
 n0 : type_of% Tryz.ntmps169
 n1 : type_of% Tryz.ntmps154
 n2 : type_of% Tryz.ntmps132
 n3 : type_of% Tryz.ntmps131
 n4 : type_of% Tryz.ntmps109
theorem X44 : SrtTb Tryz.prog 5 where
 mixed := by kernel_rfl
 aE := Tryz.isAgg66
 zE := Tryz.sizeOf66
 tq0 := Tryz.underlying0
 aq0 := Tryz.isAgg0
 zq0 := Tryz.sizeOf0
 vq0 := Tryz.zeroValue0
 tq3 := Tryz.underlying3
 aq3 := Tryz.isAgg3
 zq3 := Tryz.sizeOf3
 vq3 := Tryz.zeroValue3
 tq4 := Tryz.underlying4
 aq4 := Tryz.isAgg4
 zq4 := Tryz.sizeOf4
 vq4 := Tryz.zeroValue4
 tqu := Tryz.underlying158
 aqu := Tryz.isAgg158
 zqu := Tryz.sizeOf158
 vqu := Tryz.zeroValue158
 tqs := Tryz.underlying36
 aqs := Tryz.isAgg36
 zqs := Tryz.sizeOf36
 vqs := Tryz.zeroValue36
 tqc := Tryz.underlying147
 aqc := Tryz.isAgg147
 zqc := Tryz.sizeOf147
 vqc := Tryz.zeroValue147
 f0 := Tryz.func169
 f1 := Tryz.func154
 f2 := Tryz.func132
 f3 := Tryz.func131
 f4 := Tryz.func109
 n0 := Tryz.ntmps169
 n1 := Tryz.ntmps154
 n2 := Tryz.ntmps132
 n3 := Tryz.ntmps131
 n4 := Tryz.ntmps109
def SrtU (P : Program) (k : Nat) (f0 f1 f2 f3 f4 : FuncId) : Prop :=
 SrtDm P k /\ f0 = 170 /\ f1 = 155 /\ f2 = 135 /\ f3 = 134 /\ f4 = 111 \/ SrtTb P k /\ f0 = 169 /\ f1 = 154 /\ f2 = 132 /\ f3 = 131 /\ f4 = 109
theorem X4s : SrtU Tryz.prog 3 170 155 135 134 111 := .inl ⟨X43, rfl, rfl, rfl, rfl, rfl⟩
theorem X4t : SrtU Tryz.prog 5 169 154 132 131 109 := .inr ⟨X44, rfl, rfl, rfl, rfl, rfl⟩
theorem SrtU.e0 (h : SrtU P k f0 f1 f2 f3 f4) : ∀ args w, (callFunc f0 args).run P w = .ok (.enter f0 args) w := by
 rcases h with ⟨L, rfl, rfl, rfl, rfl, rfl⟩ | ⟨L, rfl, rfl, rfl, rfl, rfl⟩
 all_goals exact enters_of L.f0 (by kernel_rfl) rfl
theorem SrtU.e1 (h : SrtU P k f0 f1 f2 f3 f4) : ∀ args w, (callFunc f1 args).run P w = .ok (.enter f1 args) w := by
 rcases h with ⟨L, rfl, rfl, rfl, rfl, rfl⟩ | ⟨L, rfl, rfl, rfl, rfl, rfl⟩
 all_goals exact enters_of L.f1 (by kernel_rfl) rfl
theorem SrtU.e2 (h : SrtU P k f0 f1 f2 f3 f4) : ∀ args w, (callFunc f2 args).run P w = .ok (.enter f2 args) w := by
 rcases h with ⟨L, rfl, rfl, rfl, rfl, rfl⟩ | ⟨L, rfl, rfl, rfl, rfl, rfl⟩
 all_goals exact enters_of L.f2 (by kernel_rfl) rfl
theorem SrtU.e3 (h : SrtU P k f0 f1 f2 f3 f4) : ∀ args w, (callFunc f3 args).run P w = .ok (.enter f3 args) w := by
 rcases h with ⟨L, rfl, rfl, rfl, rfl, rfl⟩ | ⟨L, rfl, rfl, rfl, rfl, rfl⟩
 all_goals exact enters_of L.f3 (by kernel_rfl) rfl
theorem Z6u (h9 : SrtU P k f0 f1 f2 f3 f4) (enc : α -> List Value) (g : Nat) (cb : Array Value) (blk off cap a b n : Nat) (d0 d : Array α) (w0 w : World)
  (R : RowK enc k w0 blk off d0) (hs : d0.size = d.size) (S : SWK enc k w0 blk off d w) (hab : a + n <= b) (hb : b + n <= d.size) (hsz : d.size < 4611686018427387904) :
  Calls P f0 #[.slice (some ⟨blk, off, none⟩) d.size cap, .int .i64 a, .int .i64 b, .int .i64 n, .func (.func g) #[] cb] w fun e w' => e = .returned (.tuple #[]) /\ ∃ d', SWK enc k w0 blk off d' w' /\ SwpR a b n d d' := by
 rcases h9 with ⟨L, rfl, rfl, rfl, rfl, rfl⟩ | ⟨L, rfl, rfl, rfl, rfl, rfl⟩
 all_goals
  have NT := L.n0
  have mixed := L.mixed; have aE := L.aE; have zE := L.zE; have tq0 := L.tq0; have aq0 := L.aq0; have zq0 := L.zq0; have vq0 := L.vq0; have uq0 := run_underlying L.tq0; have tq3 := L.tq3; have aq3 := L.aq3; have zq3 := L.zq3; have vq3 := L.vq3; have uq3 := run_underlying L.tq3; have tq4 := L.tq4; have aq4 := L.aq4; have zq4 := L.zq4; have vq4 := L.vq4; have uq4 := run_underlying L.tq4; have tqu := L.tqu; have aqu := L.aqu; have zqu := L.zqu; have vqu := L.vqu; have uqu := run_underlying L.tqu; have tqs := L.tqs; have aqs := L.aqs; have zqs := L.zqs; have vqs := L.vqs; have uqs := run_underlying L.tqs; have tqc := L.tqc; have aqc := L.aqc; have zqc := L.zqc; have vqc := L.vqc; have uqc := run_underlying L.tqc;
  have FG := L.f0
  have S0 : Aside (SWK enc k w0 blk off d w) := S
  clear S
  go_enter FG, NT
  go_wp2
  go_loopg [10] n (fun kx s10 wr => ∃ (i : Nat) (dk : Array α), s10 = .int .i64 i /\ i <= n /\ n - i <= kx /\ dk.size = d.size /\ Aside (SWK enc k w0 blk off dk wr) /\ Hid (SwpR a b i d dk))
  exact ⟨0, d, by go_num, by omega, by omega, rfl, S0, SwpR.zero a b d⟩
  clear S0
  obtain ⟨i, dk, rfl, hin, hkx, hds, S1, HI⟩ := hrel
  by_cases hlt : i < n
  ·have hltz : (i : Int) < (n : Int) := by omega
   go_wp2_with fail
   have eau : ((a : Int) + (i : Int)).toNat = a + i := by omega
   have pau : (0 : Int) <= (a : Int) + (i : Int) := by omega
   have bau : (a : Int) + (i : Int) < (d.size : Int) := by omega
   have rau : IntKind.i64.wrap ((a : Int) + (i : Int)) = (a : Int) + (i : Int) := by rw [jB]; omega
   have ecu : ((b : Int) + (i : Int)).toNat = b + i := by omega
   have pcu : (0 : Int) <= (b : Int) + (i : Int) := by omega
   have bcu : (b : Int) + (i : Int) < (d.size : Int) := by omega
   have rcu : IntKind.i64.wrap ((b : Int) + (i : Int)) = (b : Int) + (i : Int) := by rw [jB]; omega
   have Su : Aside (SWK enc k w0 blk off (swp dk (a + i) (b + i)) ((wr.drew.setCells blk (off + (a + i) * k) (enc dk[b + i]!)).setCells blk (off + (b + i) * k) (enc dk[a + i]!))) := S1.out.swapped R (a + i) (b + i) (by omega) (by omega)
   have lua := S1.out.ld1 R (by omega) P (a + i) (by omega)
   have lub := S1.out.ld1 R (by omega) P (b + i) (by omega)
   have sua := S1.out.st1 R (by omega) P (a + i) (by omega) dk[b + i]!
   have sub := S1.out.st2 R (by omega) P (a + i) (b + i) (by omega) (by omega) dk[b + i]! dk[a + i]!
   have nua : (enc dk[a + i]!).length = k := R.hk _
   have nub : (enc dk[b + i]!).length = k := R.hk _
   generalize enc dk[a + i]! = cIu at Su lua sub nua
   generalize enc dk[b + i]! = cJu at Su lub sua sub nub
   clear S1
   go_wp2_with fail
   go_big_region_o
   clear lua lub sua sub
   generalize (wr.drew.setCells blk (off + (a + i) * k) cJu).setCells blk (off + (b + i) * k) cIu = w2 at Su ⊢
   go_wp2
   go_roundg (n - (i + 1))
   case measure => omega
   exact ⟨i + 1, swp dk (a + i) (b + i), by go_num, by omega, nR _, by rw [Sort.size_swp]; exact hds, Su, HI.out.step hlt hab hb⟩
  have hltz : ¬ ((i : Int) < (n : Int)) := by omega
  obtain rfl : i = n := by omega
  go_wp2
  go_end0
  exact ⟨rfl, dk, S1.out, HI.out⟩
theorem X1p (h9 : SrtU P k f0 f1 f2 f3 f4) (enc : α -> List Value) (g : Nat) (cb : Array Value) (blk off cap a m b : Nat) (d0 d : Array α) (w0 w : World)
  (R : RowK enc k w0 blk off d0) (hs : d0.size = d.size) (S : SWK enc k w0 blk off d w) (ham : a < m) (hmb : m < b) (hb : b <= d.size) (hsz : d.size < 4611686018427387904) :
  Calls P f1 #[.slice (some ⟨blk, off, none⟩) d.size cap, .int .i64 a, .int .i64 m, .int .i64 b, .func (.func g) #[] cb] w fun e w' => e = .returned (.tuple #[]) /\ ∃ d', SWK enc k w0 blk off d' w' /\ Rot a m b d d' := by
 have H9 := hI h9
 rcases h9 with ⟨L, rfl, rfl, rfl, rfl, rfl⟩ | ⟨L, rfl, rfl, rfl, rfl, rfl⟩
 all_goals
  have NT := L.n1
  have mixed := L.mixed; have aE := L.aE; have zE := L.zE; have tq0 := L.tq0; have aq0 := L.aq0; have zq0 := L.zq0; have vq0 := L.vq0; have uq0 := run_underlying L.tq0; have tq3 := L.tq3; have aq3 := L.aq3; have zq3 := L.zq3; have vq3 := L.vq3; have uq3 := run_underlying L.tq3; have tq4 := L.tq4; have aq4 := L.aq4; have zq4 := L.zq4; have vq4 := L.vq4; have uq4 := run_underlying L.tq4; have tqu := L.tqu; have aqu := L.aqu; have zqu := L.zqu; have vqu := L.vqu; have uqu := run_underlying L.tqu; have tqs := L.tqs; have aqs := L.aqs; have zqs := L.zqs; have vqs := L.vqs; have uqs := run_underlying L.tqs; have tqc := L.tqc; have aqc := L.aqc; have zqc := L.zqc; have vqc := L.vqc; have uqc := run_underlying L.tqc;
  have FG := L.f1
  have e0 := H9.out.e0
  have S0 : Aside (SWK enc k w0 blk off d w) := S
  clear S
  go_enter FG, NT
  go_wp2
  go_loopg [10, 11] (b - a) (fun kx s10 s11 wr => ∃ (i j : Nat) (dk : Array α), s10 = .int .i64 i /\ s11 = .int .i64 j /\ 0 < i /\ 0 < j /\ i <= m - a /\ j <= b - m /\ i + j <= kx /\ dk.size = d.size /\ Aside (SWK enc k w0 blk off dk wr) /\ Hid (RotTo a m b i j d dk))
  exact ⟨m - a, b - m, d, by congr 1; omega, by congr 1; omega, by omega, by omega, nR _, nR _, by omega, rfl, S0, RotTo.start d (by omega) (by omega)⟩
  clear S0
  obtain ⟨i, j, dk, rfl, rfl, hi0, hj0, him, hjb, hkx, hds, S1, HI⟩ := hrel
  by_cases hij : i = j
  ·subst hij
   have hc := Z6u H9.out enc g cb blk off cap (m - i) m i d0 dk w0 wr R (by omega) S1.out (by omega) (by omega) (by omega)
   rw [show ((m - i : Nat) : Int) = (m : Int) - (i : Int) by omega, hds] at hc
   go_wp2_with ((first | go_at_fn 170 | go_at_fn 169); refine hc.mono ?_; rintro e w1 ⟨rfl, d1, S2', K2'⟩; have S2 := hI S2'; have K2 := hI K2'; clear S2' K2')
   go_end0
   exact ⟨rfl, d1, S2.out, HI.out.last him hjb (by omega) (by omega) hb K2.out⟩
  have hijz : ¬ ((i : Int) = (j : Int)) := by omega
  by_cases hgt : j < i
  ·have hgtz : (j : Int) < (i : Int) := by omega
   have hc := Z6u H9.out enc g cb blk off cap (m - i) m j d0 dk w0 wr R (by omega) S1.out (by omega) (by omega) (by omega)
   rw [show ((m - i : Nat) : Int) = (m : Int) - (i : Int) by omega, hds] at hc
   go_wp2_with ((first | go_at_fn 170 | go_at_fn 169); refine hc.mono ?_; rintro e w1 ⟨rfl, d1, S2', K2'⟩; have S2 := hI S2'; have K2 := hI K2'; clear S2' K2')
   go_roundg (i - j + j)
   case measure => omega
   exact ⟨i - j, j, d1, by congr 1; omega, rfl, by omega, hj0, by omega, hjb, nR _, by rw [K2.out.1]; exact hds, S2.out, HI.out.left hgt him hjb (by omega) (by omega) hb K2.out⟩
  have hgtz : ¬ ((j : Int) < (i : Int)) := by omega
  have hc := Z6u H9.out enc g cb blk off cap (m - i) (m + j - i) i d0 dk w0 wr R (by omega) S1.out (by omega) (by omega) (by omega)
  rw [show ((m - i : Nat) : Int) = (m : Int) - (i : Int) by omega, show ((m + j - i : Nat) : Int) = (m : Int) + (j : Int) - (i : Int) by omega, hds] at hc
  go_wp2_with ((first | go_at_fn 170 | go_at_fn 169); refine hc.mono ?_; rintro e w1 ⟨rfl, d1, S2', K2'⟩; have S2 := hI S2'; have K2 := hI K2'; clear S2' K2')
  go_roundg (i + (j - i))
  case measure => omega
  exact ⟨i, j - i, d1, rfl, by congr 1; omega, hi0, by omega, him, by omega, nR _, by rw [K2.out.1]; exact hds, S2.out, HI.out.right (by omega) him hjb (by omega) (by omega) hb K2.out⟩
end Go.Proofs.YtlopccnehgolnacGreatDoor
