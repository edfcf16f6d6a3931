import Derived.Test.YtlopccnehgolnabGreatDoorSymMath
import Derived.Test.YtlopccnehgolnabGreatDoorProg
import Derived.Shelf.SlSortCmp.KitK
import Derived.Deep.LoopGhost
import Derived.Deep.DeepMust
import Derived.Lib.Hide
namespace Go.Proofs.YtlopccnehgolnabGreatDoor
open Go.Shelf Go.RowKit Go.Lib Go.Sort
open Go.Lib renaming hid -> hI
open Nat renaming le_refl -> nR
open Go.IntKind renaming u64 -> jA, wrap_i64 -> jB
set_option maxRecDepth 1000000
set_option maxHeartbeats 4000000
variable {P : Program} {k : Nat} {f0 f1 f2 f3 f4 : FuncId} {α : Type} [Inhabited α]
structure SrtDm (P : Program) (k : Nat) : Prop where
 mixed : P.follows .mixedOrders = true
 aE : ∀ w, (isAgg 44).run P w = .ok true w
 zE : ∀ w, (Go.sizeOf 44).run P w = .ok k w
 tq0 : P.underlying 0 = some (TypeDesc.tuple #[])
 aq0 : ∀ w, (isAgg 0).run P w = .ok false w
 zq0 : ∀ w, (Go.sizeOf 0).run P w = .ok 1 w
 vq0 : ∀ w, (zeroValue 0).run P w = .ok (Value.tuple #[]) w
 tq3 : P.underlying 3 = some (TypeDesc.int IntKind.i64)
 aq3 : ∀ w, (isAgg 3).run P w = .ok false w
 zq3 : ∀ w, (Go.sizeOf 3).run P w = .ok 1 w
 vq3 : ∀ w, (zeroValue 3).run P w = .ok (Value.int IntKind.i64 0) w
 tq4 : P.underlying 4 = some (TypeDesc.bool)
 aq4 : ∀ w, (isAgg 4).run P w = .ok false w
 zq4 : ∀ w, (Go.sizeOf 4).run P w = .ok 1 w
 vq4 : ∀ w, (zeroValue 4).run P w = .ok (Value.bool false) w
 tqu : P.underlying 212 = some (TypeDesc.int jA)
 aqu : ∀ w, (isAgg 212).run P w = .ok false w
 zqu : ∀ w, (Go.sizeOf 212).run P w = .ok 1 w
 vqu : ∀ w, (zeroValue 212).run P w = .ok (Value.int jA 0) w
 tqs : P.underlying 30 = some (TypeDesc.slice 44)
 aqs : ∀ w, (isAgg 30).run P w = .ok false w
 zqs : ∀ w, (Go.sizeOf 30).run P w = .ok 1 w
 vqs : ∀ w, (zeroValue 30).run P w = .ok (Value.slice none 0 0) w
 tqc : P.underlying 160 = some (TypeDesc.func #[44, 44] #[3] false)
 aqc : ∀ w, (isAgg 160).run P w = .ok false w
 zqc : ∀ w, (Go.sizeOf 160).run P w = .ok 1 w
 vqc : ∀ w, (zeroValue 160).run P w = .ok (Value.nilFunc) w
 f0 : P.funcs[222]? = some Tryz.f222
 f1 : P.funcs[198]? = some Tryz.f198
 f2 : P.funcs[175]? = some Tryz.f175
 f3 : P.funcs[174]? = some Tryz.f174
 f4 : P.funcs[146]? = some Tryz.f146
 n0 : type_of% Tryz.ntmps222
 n1 : type_of% Tryz.ntmps198
 n2 : type_of% Tryz.ntmps175
 n3 : type_of% Tryz.ntmps174
 n4 : type_of% Tryz.ntmps146
theorem X3b : SrtDm Tryz.prog 3 where
 mixed := by kernel_rfl
 aE := Tryz.isAgg44
 zE := Tryz.sizeOf44
 tq0 := Tryz.underlying0
 aq0 := Tryz.isAgg0
 zq0 := Tryz.sizeOf0
 vq0 := Tryz.zeroValue0
 tq3 := Tryz.underlying3
 aq3 := Tryz.isAgg3
 zq3 := Tryz.sizeOf3
 vq3 := Tryz.zeroValue3
 tq4 := Tryz.underlying4
 aq4 := Tryz.isAgg4
 zq4 := Tryz.sizeOf4
 vq4 := Tryz.zeroValue4
 tqu := Tryz.underlying212
 aqu := Tryz.isAgg212
 zqu := Tryz.sizeOf212
 vqu := Tryz.zeroValue212
 tqs := Tryz.underlying30
 aqs := Tryz.isAgg30
 zqs := Tryz.sizeOf30
 vqs := Tryz.zeroValue30
 tqc := Tryz.underlying160
 aqc := Tryz.isAgg160
 zqc := Tryz.sizeOf160
 vqc := Tryz.zeroValue160
 f0 := Tryz.func222
 f1 := Tryz.func198
 f2 := Tryz.func175
 f3 := Tryz.func174
 f4 := Tryz.func146
 n0 := Tryz.ntmps222
 n1 := Tryz.ntmps198
 n2 := Tryz.ntmps175
 n3 := Tryz.ntmps174
 n4 := Tryz.ntmps146
structure SrtTb (P : Program) (k : Nat) : Prop where
 mixed : P.follows .mixedOrders = true
 aE : ∀ w, (isAgg 42).run P w = .ok true w
 zE : ∀ w, (Go.sizeOf 42).run P w = .ok k w
 tq0 : P.underlying 0 = some (TypeDesc.tuple #[])
 aq0 : ∀ w, (isAgg 0).run P w = .ok false w
 zq0 : ∀ w, (Go.sizeOf 0).run P w = .ok 1 w
 vq0 : ∀ w, (zeroValue 0).run P w = .ok (Value.tuple #[]) w
 tq3 : P.underlying 3 = some (TypeDesc.int IntKind.i64)
 aq3 : ∀ w, (isAgg 3).run P w = .ok false w
 zq3 : ∀ w, (Go.sizeOf 3).run P w = .ok 1 w
 vq3 : ∀ w, (zeroValue 3).run P w = .ok (Value.int IntKind.i64 0) w
 tq4 : P.underlying 4 = some (TypeDesc.bool)
 aq4 : ∀ w, (isAgg 4).run P w = .ok false w
 zq4 : ∀ w, (Go.sizeOf 4).run P w = .ok 1 w
 vq4 : ∀ w, (zeroValue 4).run P w = .ok (Value.bool false) w
 tqu : P.underlying 212 = some (TypeDesc.int jA)
 aqu : ∀ w, (isAgg 212).run P w = .ok false w
 zqu : ∀ w, (Go.sizeOf 212).run P w = .ok 1 w
 vqu : ∀ w, (zeroValue 212).run P w = .ok (Value.int jA 0) w
 tqs : P.underlying 31 = some (TypeDesc.slice 42)
 aqs : ∀ w, (isAgg 31).run P w = .ok false w
 zqs : ∀ w, (Go.sizeOf 31).run P w = .ok 1 w
 vqs : ∀ w, (zeroValue 31).run P w = .ok (Value.slice none 0 0) w
 tqc : P.underlying 158 = some (TypeDesc.func #[42, 42] #[3] false)
 aqc : ∀ w, (isAgg 158).run P w = .ok false w
 zqc : ∀ w, (Go.sizeOf 158).run P w = .ok 1 w
 vqc : ∀ w, (zeroValue 158).run P w = .ok (Value.nilFunc) w
 f0 : P.funcs[221]? = some Tryz.f221
 f1 : P.funcs[197]? = some Tryz.f197
 f2 : P.funcs[172]? = some Tryz.f172
 f3 : P.funcs[171]? = some Tryz.f171
 f4 : P.funcs[144]? = some Tryz.f144
 n0 : type_of% Tryz.ntmps221
 n1 : type_of% Tryz.ntmps197
 n2 : type_of% Tryz.ntmps172
 n3 : type_of% Tryz.ntmps171
 n4 : type_of% Tryz.ntmps144
theorem X3c : SrtTb Tryz.prog 5 where
 mixed := by kernel_rfl
 aE := Tryz.isAgg42
 zE := Tryz.sizeOf42
 tq0 := Tryz.underlying0
 aq0 := Tryz.isAgg0
 zq0 := Tryz.sizeOf0
 vq0 := Tryz.zeroValue0
 tq3 := Tryz.underlying3
 aq3 := Tryz.isAgg3
 zq3 := Tryz.sizeOf3
 vq3 := Tryz.zeroValue3
 tq4 := Tryz.underlying4
 aq4 := Tryz.isAgg4
 zq4 := Tryz.sizeOf4
 vq4 := Tryz.zeroValue4
 tqu := Tryz.underlying212
 aqu := Tryz.isAgg212
 zqu := Tryz.sizeOf212
 vqu := Tryz.zeroValue212
 tqs := Tryz.underlying31
 aqs := Tryz.isAgg31
 zqs := Tryz.sizeOf31
 vqs := Tryz.zeroValue31
 tqc := Tryz.underlying158
 aqc := Tryz.isAgg158
 zqc := Tryz.sizeOf158
 vqc := Tryz.zeroValue158
 f0 := Tryz.func221
 f1 := Tryz.func197
 f2 := Tryz.func172
 f3 := Tryz.func171
 f4 := Tryz.func144
 n0 := Tryz.ntmps221
 n1 := Tryz.ntmps197
 n2 := Tryz.ntmps172
 n3 := Tryz.ntmps171
 n4 := Tryz.ntmps144
def SrtU (P : Program) (k : Nat) (f0 f1 f2 f3 f4 : FuncId) : Prop :=
 SrtDm P k /\ f0 = 222 /\ f1 = 198 /\ f2 = 175 /\ f3 = 174 /\ f4 = 146 \/ SrtTb P k /\ f0 = 221 /\ f1 = 197 /\ f2 = 172 /\ f3 = 171 /\ f4 = 144
theorem X2y : SrtU Tryz.prog 3 222 198 175 174 146 := .inl ⟨X3b, rfl, rfl, rfl, rfl, rfl⟩
theorem X2z : SrtU Tryz.prog 5 221 197 172 171 144 := .inr ⟨X3c, rfl, rfl, rfl, rfl, rfl⟩
theorem SrtU.e0 (h : SrtU P k f0 f1 f2 f3 f4) : ∀ args w, (callFunc f0 args).run P w = .ok (.enter f0 args) w := by
 rcases h with ⟨L, rfl, rfl, rfl, rfl, rfl⟩ | ⟨L, rfl, rfl, rfl, rfl, rfl⟩
 all_goals exact enters_of L.f0 (by kernel_rfl) rfl
theorem SrtU.e1 (h : SrtU P k f0 f1 f2 f3 f4) : ∀ args w, (callFunc f1 args).run P w = .ok (.enter f1 args) w := by
 rcases h with ⟨L, rfl, rfl, rfl, rfl, rfl⟩ | ⟨L, rfl, rfl, rfl, rfl, rfl⟩
 all_goals exact enters_of L.f1 (by kernel_rfl) rfl
theorem SrtU.e2 (h : SrtU P k f0 f1 f2 f3 f4) : ∀ args w, (callFunc f2 args).run P w = .ok (.enter f2 args) w := by
 rcases h with ⟨L, rfl, rfl, rfl, rfl, rfl⟩ | ⟨L, rfl, rfl, rfl, rfl, rfl⟩
 all_goals exact enters_of L.f2 (by kernel_rfl) rfl
theorem SrtU.e3 (h : SrtU P k f0 f1 f2 f3 f4) : ∀ args w, (callFunc f3 args).run P w = .ok (.enter f3 args) w := by
 rcases h with ⟨L, rfl, rfl, rfl, rfl, rfl⟩ | ⟨L, rfl, rfl, rfl, rfl, rfl⟩
 all_goals exact enters_of L.f3 (by kernel_rfl) rfl
theorem Z58 (h9 : SrtU P k f0 f1 f2 f3 f4) (enc : α -> List Value) (g : Nat) (cb : Array Value) (blk off cap a b n : Nat) (d0 d : Array α) (w0 w : World)
  (R : RowK enc k w0 blk off d0) (hs : d0.size = d.size) (S : SWK enc k w0 blk off d w) (hab : a + n <= b) (hb : b + n <= d.size) (hsz : d.size < 4611686018427387904) :
  Calls P f0 #[.slice (some ⟨blk, off, none⟩) d.size cap, .int .i64 a, .int .i64 b, .int .i64 n, .func (.func g) #[] cb] w fun e w' => e = .returned (.tuple #[]) /\ ∃ d', SWK enc k w0 blk off d' w' /\ SwpR a b n d d' := by
 rcases h9 with ⟨L, rfl, rfl, rfl, rfl, rfl⟩ | ⟨L, rfl, rfl, rfl, rfl, rfl⟩
 all_goals
  have NT := L.n0
  have mixed := L.mixed; have aE := L.aE; have zE := L.zE; have tq0 := L.tq0; have aq0 := L.aq0; have zq0 := L.zq0; have vq0 := L.vq0; have uq0 := run_underlying L.tq0; have tq3 := L.tq3; have aq3 := L.aq3; have zq3 := L.zq3; have vq3 := L.vq3; have uq3 := run_underlying L.tq3; have tq4 := L.tq4; have aq4 := L.aq4; have zq4 := L.zq4; have vq4 := L.vq4; have uq4 := run_underlying L.tq4; have tqu := L.tqu; have aqu := L.aqu; have zqu := L.zqu; have vqu := L.vqu; have uqu := run_underlying L.tqu; have tqs := L.tqs; have aqs := L.aqs; have zqs := L.zqs; have vqs := L.vqs; have uqs := run_underlying L.tqs; have tqc := L.tqc; have aqc := L.aqc; have zqc := L.zqc; have vqc := L.vqc; have uqc := run_underlying L.tqc;
  have FG := L.f0
  have S0 : Aside (SWK enc k w0 blk off d w) := S
  clear S
  go_enter FG, NT
  go_wp2
  go_loopg [10] n (fun kx s10 wr => ∃ (i : Nat) (dk : Array α), s10 = .int .i64 i /\ i <= n /\ n - i <= kx /\ dk.size = d.size /\ Aside (SWK enc k w0 blk off dk wr) /\ Hid (SwpR a b i d dk))
  exact ⟨0, d, by go_num, by omega, by omega, rfl, S0, SwpR.zero a b d⟩
  clear S0
  obtain ⟨i, dk, rfl, hin, hkx, hds, S1, HI⟩ := hrel
  by_cases hlt : i < n
  ·have hltz : (i : Int) < (n : Int) := by omega
   go_wp2_with fail
   have eau : ((a : Int) + (i : Int)).toNat = a + i := by omega
   have pau : (0 : Int) <= (a : Int) + (i : Int) := by omega
   have bau : (a : Int) + (i : Int) < (d.size : Int) := by omega
   have rau : IntKind.i64.wrap ((a : Int) + (i : Int)) = (a : Int) + (i : Int) := by rw [jB]; omega
   have ecu : ((b : Int) + (i : Int)).toNat = b + i := by omega
   have pcu : (0 : Int) <= (b : Int) + (i : Int) := by omega
   have bcu : (b : Int) + (i : Int) < (d.size : Int) := by omega
   have rcu : IntKind.i64.wrap ((b : Int) + (i : Int)) = (b : Int) + (i : Int) := by rw [jB]; omega
   have Su : Aside (SWK enc k w0 blk off (swp dk (a + i) (b + i)) ((wr.drew.setCells blk (off + (a + i) * k) (enc dk[b + i]!)).setCells blk (off + (b + i) * k) (enc dk[a + i]!))) := S1.out.swapped R (a + i) (b + i) (by omega) (by omega)
   have lua := S1.out.ld1 R (by omega) P (a + i) (by omega)
   have lub := S1.out.ld1 R (by omega) P (b + i) (by omega)
   have sua := S1.out.st1 R (by omega) P (a + i) (by omega) dk[b + i]!
   have sub := S1.out.st2 R (by omega) P (a + i) (b + i) (by omega) (by omega) dk[b + i]! dk[a + i]!
   have nua : (enc dk[a + i]!).length = k := R.hk _
   have nub : (enc dk[b + i]!).length = k := R.hk _
   generalize enc dk[a + i]! = cIu at Su lua sub nua
   generalize enc dk[b + i]! = cJu at Su lub sua sub nub
   clear S1
   go_wp2_with fail
   go_big_region_o
   clear lua lub sua sub
   generalize (wr.drew.setCells blk (off + (a + i) * k) cJu).setCells blk (off + (b + i) * k) cIu = w2 at Su ⊢
   go_wp2
   go_roundg (n - (i + 1))
   case measure => omega
   exact ⟨i + 1, swp dk (a + i) (b + i), by go_num, by omega, nR _, by rw [Sort.size_swp]; exact hds, Su, HI.out.step hlt hab hb⟩
  have hltz : ¬ ((i : Int) < (n : Int)) := by omega
  obtain rfl : i = n := by omega
  go_wp2
  go_end0
  exact ⟨rfl, dk, S1.out, HI.out⟩
theorem Y9y (h9 : SrtU P k f0 f1 f2 f3 f4) (enc : α -> List Value) (g : Nat) (cb : Array Value) (blk off cap a m b : Nat) (d0 d : Array α) (w0 w : World)
  (R : RowK enc k w0 blk off d0) (hs : d0.size = d.size) (S : SWK enc k w0 blk off d w) (ham : a < m) (hmb : m < b) (hb : b <= d.size) (hsz : d.size < 4611686018427387904) :
  Calls P f1 #[.slice (some ⟨blk, off, none⟩) d.size cap, .int .i64 a, .int .i64 m, .int .i64 b, .func (.func g) #[] cb] w fun e w' => e = .returned (.tuple #[]) /\ ∃ d', SWK enc k w0 blk off d' w' /\ Rot a m b d d' := by
 have H9 := hI h9
 rcases h9 with ⟨L, rfl, rfl, rfl, rfl, rfl⟩ | ⟨L, rfl, rfl, rfl, rfl, rfl⟩
 all_goals
  have NT := L.n1
  have mixed := L.mixed; have aE := L.aE; have zE := L.zE; have tq0 := L.tq0; have aq0 := L.aq0; have zq0 := L.zq0; have vq0 := L.vq0; have uq0 := run_underlying L.tq0; have tq3 := L.tq3; have aq3 := L.aq3; have zq3 := L.zq3; have vq3 := L.vq3; have uq3 := run_underlying L.tq3; have tq4 := L.tq4; have aq4 := L.aq4; have zq4 := L.zq4; have vq4 := L.vq4; have uq4 := run_underlying L.tq4; have tqu := L.tqu; have aqu := L.aqu; have zqu := L.zqu; have vqu := L.vqu; have uqu := run_underlying L.tqu; have tqs := L.tqs; have aqs := L.aqs; have zqs := L.zqs; have vqs := L.vqs; have uqs := run_underlying L.tqs; have tqc := L.tqc; have aqc := L.aqc; have zqc := L.zqc; have vqc := L.vqc; have uqc := run_underlying L.tqc;
  have FG := L.f1
  have e0 := H9.out.e0
  have S0 : Aside (SWK enc k w0 blk off d w) := S
  clear S
  go_enter FG, NT
  go_wp2
  go_loopg [10, 11] (b - a) (fun kx s10 s11 wr => ∃ (i j : Nat) (dk : Array α), s10 = .int .i64 i /\ s11 = .int .i64 j /\ 0 < i /\ 0 < j /\ i <= m - a /\ j <= b - m /\ i + j <= kx /\ dk.size = d.size /\ Aside (SWK enc k w0 blk off dk wr) /\ Hid (RotTo a m b i j d dk))
  exact ⟨m - a, b - m, d, by congr 1; omega, by congr 1; omega, by omega, by omega, nR _, nR _, by omega, rfl, S0, RotTo.start d (by omega) (by omega)⟩
  clear S0
  obtain ⟨i, j, dk, rfl, rfl, hi0, hj0, him, hjb, hkx, hds, S1, HI⟩ := hrel
  by_cases hij : i = j
  ·subst hij
   have hc := Z58 H9.out enc g cb blk off cap (m - i) m i d0 dk w0 wr R (by omega) S1.out (by omega) (by omega) (by omega)
   rw [show ((m - i : Nat) : Int) = (m : Int) - (i : Int) by omega, hds] at hc
   go_wp2_with ((first | go_at_fn 222 | go_at_fn 221); refine hc.mono ?_; rintro e w1 ⟨rfl, d1, S2', K2'⟩; have S2 := hI S2'; have K2 := hI K2'; clear S2' K2')
   go_end0
   exact ⟨rfl, d1, S2.out, HI.out.last him hjb (by omega) (by omega) hb K2.out⟩
  have hijz : ¬ ((i : Int) = (j : Int)) := by omega
  by_cases hgt : j < i
  ·have hgtz : (j : Int) < (i : Int) := by omega
   have hc := Z58 H9.out enc g cb blk off cap (m - i) m j d0 dk w0 wr R (by omega) S1.out (by omega) (by omega) (by omega)
   rw [show ((m - i : Nat) : Int) = (m : Int) - (i : Int) by omega, hds] at hc
   go_wp2_with ((first | go_at_fn 222 | go_at_fn 221); refine hc.mono ?_; rintro e w1 ⟨rfl, d1, S2', K2'⟩; have S2 := hI S2'; have K2 := hI K2'; clear S2' K2')
   go_roundg (i - j + j)
   case measure => omega
   exact ⟨i - j, j, d1, by congr 1; omega, rfl, by omega, hj0, by omega, hjb, nR _, by rw [K2.out.1]; exact hds, S2.out, HI.out.left hgt him hjb (by omega) (by omega) hb K2.out⟩
  have hgtz : ¬ ((j : Int) < (i : Int)) := by omega
  have hc := Z58 H9.out enc g cb blk off cap (m - i) (m + j - i) i d0 dk w0 wr R (by omega) S1.out (by omega) (by omega) (by omega)
  rw [show ((m - i : Nat) : Int) = (m : Int) - (i : Int) by omega, show ((m + j - i : Nat) : Int) = (m : Int) + (j : Int) - (i : Int) by omega, hds] at hc
  go_wp2_with ((first | go_at_fn 222 | go_at_fn 221); refine hc.mono ?_; rintro e w1 ⟨rfl, d1, S2', K2'⟩; have S2 := hI S2'; have K2 := hI K2'; clear S2' K2')
  go_roundg (i + (j - i))
  case measure => omega
  exact ⟨i, j - i, d1, rfl, by congr 1; omega, hi0, by omega, him, by omega, nR _, by rw [K2.out.1]; exact hds, S2.out, HI.out.right (by omega) him hjb (by omega) (by omega) hb K2.out⟩
end Go.Proofs.YtlopccnehgolnabGreatDoor
