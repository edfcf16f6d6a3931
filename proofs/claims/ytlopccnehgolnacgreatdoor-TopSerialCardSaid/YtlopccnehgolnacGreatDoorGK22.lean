import Derived.Test.YtlopccnehgolnacGreatDoorSort
import Derived.Test.YtlopccnehgolnacGreatDoorGK0
import Derived.Deep.RegionLaw
import Derived.BigRegion
import Derived.BigQuiet
namespace Go.Proofs.YtlopccnehgolnacGreatDoor
open Go.RowKit Rb
set_option maxRecDepth 100000
set_option maxHeartbeats 6400000
theorem Z6n : Flat rRg := fun _ _ _ _ _ _ h => h
theorem Z5p {α : Type} {l : List α} {k : Nat} {x : α} (h : l[k]? = some x) : l.drop k = x :: l.drop (k + 1) := by
 obtain ⟨hk, rfl⟩ := L0n.1 h
 exact List.drop_eq_getElem_cons hk
theorem Z8s {S T : Nat -> Prop} {v u : Value} {a b : List Rg} (w : World) (hl : rRgs.rel w S [v] a) (hm : rRgs.rel w T [u] b) (ga : Z2w a) (gb : Z2w b) :
  Calls Tryz.prog 144 #[v, u] w fun e w' => ∃ x, e = .returned x /\ Own rRg 74 w' w.heap.size (fun _ => False) x (Z09 a b) /\ Bw w w' := by
 obtain ⟨A, c, rfl, _, _, hn, hE⟩ := rRgs.elems hl
 obtain ⟨A', c', rfl, _, _, hn', hE'⟩ := rRgs.elems hm
 clear hl hm
 have hla := Z2a ga
 have hlb := Z2a gb
 have GA := L0 ga
 have GB := L0 gb
 clear ga gb
 go_enter Tryz.func144, Tryz.ntmps144
 go_wp2
 go_loopw [5, 6, 7] (fun o i j wr => ∃ (x y : Nat) (out : List Rg), x <= a.length /\ y <= b.length /\ i = .int .i64 x /\ j = .int .i64 y /\ Own rRg 74 wr w.heap.size (fun _ => False) o out /\ out.length <= x + y /\ Hid (InvB a b (a.drop x) (b.drop y) out) /\ Bw w wr) (fun _ i j _ => (a.length - (intOf i).toNat) + (b.length - (intOf j).toNat))
 exact ⟨0, 0, [], L0o _, L0o _, rfl, rfl, Own.nil _ _ _ _ _, by simp, L0 (fun n => by simp [hasL]), L0m _ _⟩
 obtain ⟨x, y, out, hx, hy, rfl, rfl, hown, hol, HI, hbl⟩ := hrel
 by_cases hlt : x < a.length
 ·by_cases hlt' : y < b.length
  ·obtain ⟨p, off, lo, up, rfl, _, hb, hxx, _, _, h1, h2⟩ := hE.rg hlt
   obtain ⟨p', off', lo', up', rfl, _, hb', hxx', _, _, h1', h2'⟩ := hE'.rg hlt'
   rw [<- hbl.ce _ hb] at h1 h2
   rw [<- hbl.ce _ hb'] at h1' h2'
   have HI2 : Hid (InvB a b ((lo, up) :: a.drop (x + 1)) ((lo', up') :: b.drop (y + 1)) out) := by rw [<- Z5p hxx, <- Z5p hxx']; exact HI
   have HA : Hid (∃ q, GoodFrom q ((lo, up) :: a.drop (x + 1))) := L0 (by rw [<- Z5p hxx]; exact GoodFrom.drop x GA.out)
   have HB : Hid (∃ q, GoodFrom q ((lo', up') :: b.drop (y + 1))) := L0 (by rw [<- Z5p hxx']; exact GoodFrom.drop y GB.out)
   have hd := Z5p hxx
   have hd' := Z5p hxx'
   have HD := L0 hd
   have HD' := L0 hd'
   clear hxx hxx' hE hE' hd hd' HI
   have hi1 : (x : Int) < a.length := by omega
   have hi2 : (y : Int) < b.length := by omega
   have hp : p < wr.heap.size := L0c hb hbl.size
   have hp' : p' < wr.heap.size := L0c hb' hbl.size
   obtain ⟨x1, e1⟩ : ∃ z, max lo lo' = z := ⟨_, rfl⟩
   obtain ⟨y1, e2⟩ : ∃ z, min up up' = z := ⟨_, rfl⟩
   have hin : InI x1 /\ InI y1 := by unfold InI at *; omega
   have HM : Hid (x1 = max lo lo' /\ y1 = min up up') := L0 ⟨e1.symm, e2.symm⟩
   have hw1 : IntKind.i64.wrap ((x : Int) + 1) = ((x + 1 : Nat) : Int) := by rw [IntWalk.i64_in _ (by omega)]; omega
   have hw2 : IntKind.i64.wrap ((y : Int) + 1) = ((y + 1 : Nat) : Int) := by rw [IntWalk.i64_in _ (by omega)]; omega
   have HMa : up < up' -> Hid (InvB a b (a.drop (x + 1)) (b.drop y) (putR out (x1, y1))) := fun h => by
    obtain ⟨q, g⟩ := HB.o
    have := HI2.o.stepA g (m := (x1, y1)) HM.o h
    rw [HD'.o]; exact L0 this
   have HMb : ¬ up < up' -> Hid (InvB a b (a.drop x) (b.drop (y + 1)) (putR out (x1, y1))) := fun h => by
    obtain ⟨q, g⟩ := HA.o
    have := HI2.o.stepB g (m := (x1, y1)) HM.o h
    rw [HD.o]; exact L0 this
   have HMA := L0 HMa
   have HMB := L0 HMb
   clear HMa HMb HI2 HA HB HD HD' HM
   go_wp2
   go_region
   clear e1 e2
   obtain ⟨wD, eD, hown1, hbd, c1, c2, h3, h3'⟩ : ∃ wD, (wr.alloc (.cells #[.int .i64 x1, .int .i64 y1] 74)).drew = wD /\ Own rRg 74 wD w.heap.size (fun _ => False) u5 out /\ Bw w wD /\ wD.cell? (zn wr.heap.size 0) = some (.int .i64 x1) /\ wD.cell? (zn wr.heap.size 1) = some (.int .i64 y1) /\ wD.cell? (zn p (off + x * 2 + 1)) = some (.int .i64 up) /\ wD.cell? (zn p' (off' + y * 2 + 1)) = some (.int .i64 up') :=
    ⟨_, rfl, (hown.alloc _).drew, Z0h (hbl.alloc hbl.size _) 1, L0b _ _ _ _, L0b _ _ _ _, (L0j _ _ _ hp).trans h2, (L0j _ _ _ hp').trans h2'⟩
   rw [eD]
   clear eD h1 h2 h1' h2' hown hbl
   by_cases hud : up < up'
   ·by_cases hc : x1 <= y1
    ·have HP : Hid (putR out (x1, y1) = out ++ [(x1, y1)]) := L0 (if_pos hc)
     go_wp2_with (at_builtin; refine Z0a (R := rRg) (x := (x1, y1)) Z6f rfl (.tmp 47) (.tmp 49) rfl rfl hown1 [.int .i64 x1, .int .i64 y1] rfl rfl (fun _ => False) ⟨rfl, hin⟩ (fun _ h => h.elim) ?_ hbd.size ?_; (((try simp only [rRg]) <;> omega)); intro v1 w1 hown2 hb1 _ _; have k1 : w1.cell? (zn p (off + x * 2 + 1)) = some (.int .i64 up) := (hb1.ce _ hb).trans h3; have k2 : w1.cell? (zn p' (off' + y * 2 + 1)) = some (.int .i64 up') := (hb1.ce _ hb').trans h3'; clear h3 h3' hown1)
     go_quiet (fail)
     go_wp2
     go_roundw
     exact ⟨x + 1, y, out ++ [(x1, y1)], by omega, by omega, by go_num, by go_num, hown2.drewN _, by simp; omega, by rw [<- HP.o]; exact (HMA.o hud), Z0h (hbd.trans hb1) _⟩
     simp [intOf]; omega
    have HP : Hid (putR out (x1, y1) = out) := L0 (if_neg hc)
    go_wp2
    go_quiet (fail)
    go_wp2
    go_roundw
    exact ⟨x + 1, y, out, by omega, by omega, by go_num, by go_num, hown1.drewN _, by omega, by rw [<- HP.o]; exact (HMA.o hud), Z0h hbd _⟩
    simp [intOf]; omega
   by_cases hc : x1 <= y1
   ·have HP : Hid (putR out (x1, y1) = out ++ [(x1, y1)]) := L0 (if_pos hc)
    go_wp2_with (at_builtin; refine Z0a (R := rRg) (x := (x1, y1)) Z6f rfl (.tmp 47) (.tmp 49) rfl rfl hown1 [.int .i64 x1, .int .i64 y1] rfl rfl (fun _ => False) ⟨rfl, hin⟩ (fun _ h => h.elim) ?_ hbd.size ?_; (((try simp only [rRg]) <;> omega)); intro v1 w1 hown2 hb1 _ _; have k1 : w1.cell? (zn p (off + x * 2 + 1)) = some (.int .i64 up) := (hb1.ce _ hb).trans h3; have k2 : w1.cell? (zn p' (off' + y * 2 + 1)) = some (.int .i64 up') := (hb1.ce _ hb').trans h3'; clear h3 h3' hown1)
    go_quiet (fail)
    go_wp2
    go_roundw
    exact ⟨x, y + 1, out ++ [(x1, y1)], by omega, by omega, by go_num, by go_num, hown2.drewN _, by simp; omega, by rw [<- HP.o]; exact (HMB.o hud), Z0h (hbd.trans hb1) _⟩
    simp [intOf]; omega
   have HP : Hid (putR out (x1, y1) = out) := L0 (if_neg hc)
   go_wp2
   go_quiet (fail)
   go_wp2
   go_roundw
   exact ⟨x, y + 1, out, by omega, by omega, by go_num, by go_num, hown1.drewN _, by omega, by rw [<- HP.o]; exact (HMB.o hud), Z0h hbd _⟩
   simp [intOf]; omega
  have HQ : Hid (Z3x out = Z09 a b) := L0 (by have := HI.o; rw [L0u (show b.length <= y by omega)] at this; exact this.endB)
  clear HI hE hE'
  obtain ⟨A1, c1, rfl⟩ := hown.value
  have HC := L0 (Z8u wr (show rRgs.rel _ _ _ _ from hown.rel (by decide)))
  rw [HQ.o] at HC
  clear hown
  go_wp2_with (go_at_call 143; ((with_reducible refine HC.o.mono ?_); rintro e w1 ⟨z, rfl, hoz, hb1⟩))
  go_ret
  exact ⟨z, rfl, (hoz.flat Z6n).lower hbl.size, hbl.trans (hb1.mono hbl.size)⟩
 have HQ : Hid (Z3x out = Z09 a b) := L0 (by have := HI.o; rw [L0u (show a.length <= x by omega)] at this; exact this.endA)
 clear HI hE hE'
 obtain ⟨A1, c1, rfl⟩ := hown.value
 have HC := L0 (Z8u wr (show rRgs.rel _ _ _ _ from hown.rel (by decide)))
 rw [HQ.o] at HC
 clear hown
 go_wp2_with (go_at_call 143; ((with_reducible refine HC.o.mono ?_); rintro e w1 ⟨z, rfl, hoz, hb1⟩))
 go_ret
 exact ⟨z, rfl, (hoz.flat Z6n).lower hbl.size, hbl.trans (hb1.mono hbl.size)⟩
structure LessOut (a b : List Rg) (x n : Nat) (out : List Rg) : Prop where
 len : out.length <= n + b.length + 1
 inv : InvO b (a.take (x + 1)) out
theorem LessOut.of {a b out out3 bs : List Rg} {x : Nat} {lo0 up lo : Int} (ht : a.take (x + 1) = a.take x ++ [(lo0, up)]) (hi : InvO b (a.take x) out) (hl : InvL out b (lo0, up) bs out3 lo) (hs : bs = [] \/ up < lo) (hn : out3.length <= out.length + b.length) :
  LessOut a b x out.length (putR out3 (lo, up)) :=
 ⟨by have := X1n out3 (lo, up); omega, by rw [ht]; exact hi.step (hl.fin hs)⟩
theorem Y5v {S T : Nat -> Prop} {v u : Value} {a b : List Rg} (w : World) (hl : rRgs.rel w S [v] a) (hm : rRgs.rel w T [u] b) (ga : Z2w a) (gb : Z2w b) :
  Calls Tryz.prog 142 #[v, u] w fun e w' => ∃ x, e = .returned x /\ Own rRg 74 w' w.heap.size (fun _ => False) x (Z5g a b) /\ Bw w w' := by
 obtain ⟨A, c, rfl, _, _, hn, hE⟩ := rRgs.elems hl
 obtain ⟨A', c', rfl, _, _, hn', hE'⟩ := rRgs.elems hm
 clear hl hm
 have hla := Z2a ga
 have hlb := Z2a gb
 have GA := L0 ga
 have GB := L0 gb
 clear ga gb
 go_enter Tryz.func142, Tryz.ntmps142
 go_wp2
 go_loopw [5, 12] (fun o i wr => ∃ (x : Nat) (out : List Rg), x <= a.length /\ i = .int .i64 x /\ Own rRg 74 wr w.heap.size (fun _ => False) o out /\ out.length <= x * (b.length + 1) /\ Hid (InvO b (a.take x) out) /\ Bw w wr) (fun _ i _ => a.length - (intOf i).toNat)
 exact ⟨0, [], L0o _, rfl, Own.nil _ _ _ _ _, by simp, L0 (InvO.start b), L0m _ _⟩
 obtain ⟨x, out, hx, rfl, hown, hol, HI, hbl⟩ := hrel
 have hxK : x * (b.length + 1) <= 2000002 * 2000003 := Nat.mul_le_mul (by omega) (by omega)
 have hsK : (x + 1) * (b.length + 1) = x * (b.length + 1) + (b.length + 1) := L2y _ _
 generalize hxe : x * (b.length + 1) = xK at *
 by_cases hlt : x < a.length
 ·obtain ⟨p, off, lo0, up, rfl, _, hb, hxx, _, _, h1, h2⟩ := hE.rg hlt
  rw [<- hbl.ce _ hb] at h1 h2
  have hrb : -1000000 <= lo0 /\ up <= 1000000 /\ lo0 <= up := by
   have := GoodFrom.his GA.out _ (L0z hxx)
   dsimp only at this
   unfold MX at this
   omega
  have HLEN : Hid (∀ o : List Rg, o.length <= out.length + b.length + 1 -> o.length <= (x + 1) * (b.length + 1)) := L0 (fun o h => by rw [hsK]; omega)
  have HT : Hid (a.take (x + 1) = a.take x ++ [(lo0, up)]) := L0 (Z0c hxx)
  clear hxx hE hsK hxe
  have hi1 : (x : Int) < a.length := by omega
  have hw0 : IntKind.i64.wrap ((x : Int) + 1) = ((x + 1 : Nat) : Int) := by rw [IntWalk.i64_in _ (by omega)]; omega
  obtain ⟨wq, eq, hown1, hb1, f0, hqs, hq0, hqb⟩ : ∃ wq, wr.alloc (.cells #[.int .i64 lo0, .int .i64 up] 74) = wq /\ Own rRg 74 wq w.heap.size (fun _ => False) u5 out /\ Bw w wq /\ wq.frozen? (zn wr.heap.size 0) = false /\ wr.heap.size < wq.heap.size /\ u5.ownBlock ≠ some wr.heap.size /\ w.heap.size <= wr.heap.size := ⟨_, rfl, hown.alloc _, hbl.alloc hbl.size _, by simp, by simp, fun h => by have := hown.lt _ h; omega, hbl.size⟩; have c0 := ac0 eq; have c1 := ac1 eq
  clear hown hbl
  go_wp2
  clear eq h1 h2
  try unfold Bw at *
  generalize wr.heap.size = q at *
  go_loopw [5, 18] (fun o i wr => ∃ (y : Nat) (lo : Int) (out2 : List Rg), y <= b.length /\ i = .int .i64 y /\ Own rRg 74 wr w.heap.size (fun _ => False) o out2 /\ out2.length <= out.length + y /\ Hid (InvL out b (lo0, up) (b.drop y) out2 lo) /\
    wr.cell? (zn q 0) = some (.int .i64 lo) /\ wr.cell? (zn q 1) = some (.int .i64 up) /\ wr.frozen? (zn q 0) = false /\ q < wr.heap.size /\ o.ownBlock ≠ some q /\ (-1000000 <= lo /\ lo <= 1000001) /\ Bw w wr) (fun _ i _ => b.length - (intOf i).toNat)
  exact ⟨0, lo0, out, L0o _, rfl, hown1, by omega, L0 (HI.o.begin (lo0, up)), c0, c1, f0, hqs, hq0, by omega, hb1⟩
  obtain ⟨y, lo, out2, hy, rfl, hown2, hol2, HL, d0, d1, f1, hqs1, hq1, hlo, hbl3⟩ := hrel
  by_cases hlt' : y < b.length
  ·obtain ⟨p', off', slo, sup, rfl, _, hb', hyy, _, _, g1, g2⟩ := hE'.rg hlt'
   rw [<- hbl3.ce _ hb'] at g1 g2
   have hsb : -1000000 <= slo /\ sup <= 1000000 /\ slo <= sup := by
    have := GoodFrom.his GB.out _ (L0z hyy)
    dsimp only at this
    unfold MX at this
    omega
   have HG : Hid (∃ q, GoodFrom q ((slo, sup) :: b.drop (y + 1))) := L0 (by rw [<- Z5p hyy]; exact GoodFrom.drop y GB.out)
   have HL2 : Hid (InvL out b (lo0, up) ((slo, sup) :: b.drop (y + 1)) out2 lo) := by rw [<- Z5p hyy]; exact HL
   clear hyy hE' HL
   have hi2 : (y : Int) < b.length := by omega
   have hw1 : IntKind.i64.wrap ((y : Int) + 1) = ((y + 1 : Nat) : Int) := by rw [IntWalk.i64_in _ (by omega)]; omega
   have hw2 : IntKind.i64.wrap (slo - 1) = slo - 1 := IntWalk.i64_in _ (by omega)
   have hw3 : IntKind.i64.wrap (sup + 1) = sup + 1 := IntWalk.i64_in _ (by omega)
   obtain ⟨wS, eS, hownS, hbS, e0, e1, fS, s0, s1, hqS, hqS', hszS⟩ : ∃ wS, wr.alloc (.cells #[.int .i64 slo, .int .i64 sup] 74) = wS /\ Own rRg 74 wS w.heap.size (fun _ => False) u5 out2 /\ Bw w wS /\ wS.cell? (zn q 0) = some (.int .i64 lo) /\ wS.cell? (zn q 1) = some (.int .i64 up) /\ wS.frozen? (zn q 0) = false /\
     wS.cell? (zn wr.heap.size 0) = some (.int .i64 slo) /\ wS.cell? (zn wr.heap.size 1) = some (.int .i64 sup) /\ q < wS.heap.size /\ u5.ownBlock ≠ some wr.heap.size /\ wS.heap.size = wr.heap.size + 1 :=
    ⟨_, rfl, hown2.alloc _, hbl3.alloc hbl3.size _, (L0j _ _ _ hqs1).trans d0, (L0j _ _ _ hqs1).trans d1, (L1a (w := wr) (L3z wr _ _ hqs1)).trans f1, L0b _ _ _ _, L0b _ _ _ _, by simp; omega, fun h => by have := hown2.lt _ h; omega, by simp⟩
   clear hown2 hbl3 d0 d1 f1
   by_cases hs1 : sup < lo
   ·have HLn := L0 (HL2.o.skip (.inl hs1))
    go_wp2
    go_roundw
    exact ⟨y + 1, lo, out2, by omega, by go_num, hownS, by (try simp only [L0i, L0r, L0v]) <;> omega, HLn, e0, e1, fS, hqS, hq1, hlo, hbS⟩
    simp [intOf]; omega
   by_cases hs2 : up < slo
   ·have HLn := L0 (HL2.o.skip (.inr hs2))
    go_wp2
    go_roundw
    exact ⟨y + 1, lo, out2, by omega, by go_num, hownS, by (try simp only [L0i, L0r, L0v]) <;> omega, HLn, e0, e1, fS, hqS, hq1, hlo, hbS⟩
    simp [intOf]; omega
   have HLc : Hid (InvL out b (lo0, up) (b.drop (y + 1)) (putR out2 (lo, slo - 1)) (sup + 1)) := (by obtain ⟨g, hg⟩ := HG.o; exact L0 (HL2.o.cut hg (by omega) (by show slo <= up; omega)))
   have hin : InI lo /\ InI (slo - 1) := by unfold InI; omega
   clear HL2 HG
   by_cases hs3 : lo < slo
   ·by_cases hs4 : up < sup + 1
    ·have HP : putR out2 (lo, slo - 1) = out2 ++ [(lo, slo - 1)] := if_pos (show lo <= slo - 1 by omega)
     have HLn := L0 (HLc.o)
     rw [HP] at HLn
     have hq4 : putR (out2 ++ [(lo, slo - 1)]) (sup + 1, up) = out2 ++ [(lo, slo - 1)] := if_neg (show ¬ (sup + 1) <= up by omega)
     have HO := L0 (LessOut.of HT.o HI.o HLn.o (.inr (by omega)) (by (try simp only [L0i, L0r, L0v]) <;> omega))
     rw [hq4] at HO
     clear hq4
     clear HP
     go_wp2_with (at_builtin; refine Z0a (R := rRg) (x := (lo, slo - 1)) Z6f rfl (.tmp 39) (.tmp 46) rfl rfl hownS [.int .i64 lo, .int .i64 (slo - 1)] rfl hszS (fun _ => False) ⟨rfl, hin⟩ (fun _ h => h.elim) ?_ hbS.size ?_; (((try simp only [rRg]) <;> omega)); intro v1 w1 hownA hbA hgA hvA; have k0 := ((Z1p hgA hqS hq1 0).1).trans e0; have k1 := ((Z1p hgA hqS hq1 1).1).trans e1; have kf := ((Z1p hgA hqS hq1 0).2).trans fS; have ks := ((Z1p hgA (by omega) hqS' 1).1).trans s1; have hqv : v1.ownBlock ≠ some q := (by rcases hvA with h | h; (rw [h]; exact hq1); (rw [h]; intro h'; injection h' with h'; omega)); have hqs9 : q < w1.heap.size := L0c hqS hgA.size; obtain ⟨wT, eT, hownT, hbT, t0, t1, fT, hqT⟩ : ∃ wT, w1.setCell (zn q 0) (.int .i64 (sup + 1)) = wT /\ Own rRg 74 wT w.heap.size (fun _ => False) v1 (out2 ++ [(lo, slo - 1)]) /\ Bw w wT /\ wT.cell? (zn q 0) = some (.int .i64 (sup + 1)) /\ wT.cell? (zn q 1) = some (.int .i64 up) /\ wT.frozen? (zn q 0) = false /\ q < wT.heap.size := ⟨_, rfl, hownA.kept_flat Z6n (Z0u _ _ _) (.inr hqv), (hbS.trans hbA).setCell hqb _, L0e _ _ _ k0, (cso).trans k1, (L0k _ _ _ _).trans kf, L0c hqs9 (Z0u _ _ _).size⟩; clear hownA hbA hgA hvA)
     go_roundw
     exact ⟨x + 1, out2 ++ [(lo, slo - 1)], by omega, by go_num, hownT, HLEN.o _ (HO).out.len, L0 (HO).out.inv, hbT⟩
     simp [intOf]; omega
    have HP : putR out2 (lo, slo - 1) = out2 ++ [(lo, slo - 1)] := if_pos (show lo <= slo - 1 by omega)
    have HLn := L0 (HLc.o)
    rw [HP] at HLn
    clear HP
    go_wp2_with (at_builtin; refine Z0a (R := rRg) (x := (lo, slo - 1)) Z6f rfl (.tmp 39) (.tmp 46) rfl rfl hownS [.int .i64 lo, .int .i64 (slo - 1)] rfl hszS (fun _ => False) ⟨rfl, hin⟩ (fun _ h => h.elim) ?_ hbS.size ?_; (((try simp only [rRg]) <;> omega)); intro v1 w1 hownA hbA hgA hvA; have k0 := ((Z1p hgA hqS hq1 0).1).trans e0; have k1 := ((Z1p hgA hqS hq1 1).1).trans e1; have kf := ((Z1p hgA hqS hq1 0).2).trans fS; have ks := ((Z1p hgA (by omega) hqS' 1).1).trans s1; have hqv : v1.ownBlock ≠ some q := (by rcases hvA with h | h; (rw [h]; exact hq1); (rw [h]; intro h'; injection h' with h'; omega)); have hqs9 : q < w1.heap.size := L0c hqS hgA.size; obtain ⟨wT, eT, hownT, hbT, t0, t1, fT, hqT⟩ : ∃ wT, w1.setCell (zn q 0) (.int .i64 (sup + 1)) = wT /\ Own rRg 74 wT w.heap.size (fun _ => False) v1 (out2 ++ [(lo, slo - 1)]) /\ Bw w wT /\ wT.cell? (zn q 0) = some (.int .i64 (sup + 1)) /\ wT.cell? (zn q 1) = some (.int .i64 up) /\ wT.frozen? (zn q 0) = false /\ q < wT.heap.size := ⟨_, rfl, hownA.kept_flat Z6n (Z0u _ _ _) (.inr hqv), (hbS.trans hbA).setCell hqb _, L0e _ _ _ k0, (cso).trans k1, (L0k _ _ _ _).trans kf, L0c hqs9 (Z0u _ _ _).size⟩; clear hownA hbA hgA hvA)
    go_roundw
    exact ⟨y + 1, sup + 1, out2 ++ [(lo, slo - 1)], by omega, by go_num, hownT, by (try simp only [L0i, L0r, L0v]) <;> omega, HLn, t0, t1, fT, hqT, hqv, by omega, hbT⟩
    simp [intOf]; omega
   by_cases hs4 : up < sup + 1
   ·have HP : putR out2 (lo, slo - 1) = out2 := if_neg (show ¬ lo <= slo - 1 by omega)
    have HLn := L0 (HLc.o)
    rw [HP] at HLn
    have hq4 : putR (out2) (sup + 1, up) = out2 := if_neg (show ¬ (sup + 1) <= up by omega)
    have HO := L0 (LessOut.of HT.o HI.o HLn.o (.inr (by omega)) (by (try simp only [L0i, L0r, L0v]) <;> omega))
    rw [hq4] at HO
    clear hq4
    clear HP
    obtain ⟨wT, eT, hownT, hbT, t0, t1, fT, hqT⟩ : ∃ wT, wS.setCell (zn q 0) (.int .i64 (sup + 1)) = wT /\ Own rRg 74 wT w.heap.size (fun _ => False) u5 (out2) /\ Bw w wT /\ wT.cell? (zn q 0) = some (.int .i64 (sup + 1)) /\ wT.cell? (zn q 1) = some (.int .i64 up) /\ wT.frozen? (zn q 0) = false /\ q < wT.heap.size := ⟨_, rfl, hownS.kept_flat Z6n (Z0u _ _ _) (.inr hq1), hbS.setCell hqb _, L0e _ _ _ e0, (cso).trans e1, (L0k _ _ _ _).trans fS, L0c hqS (Z0u _ _ _).size⟩
    go_wp2
    go_roundw
    exact ⟨x + 1, out2, by omega, by go_num, hownT, HLEN.o _ (HO).out.len, L0 (HO).out.inv, hbT⟩
    simp [intOf]; omega
   have HP : putR out2 (lo, slo - 1) = out2 := if_neg (show ¬ lo <= slo - 1 by omega)
   have HLn := L0 (HLc.o)
   rw [HP] at HLn
   clear HP
   obtain ⟨wT, eT, hownT, hbT, t0, t1, fT, hqT⟩ : ∃ wT, wS.setCell (zn q 0) (.int .i64 (sup + 1)) = wT /\ Own rRg 74 wT w.heap.size (fun _ => False) u5 (out2) /\ Bw w wT /\ wT.cell? (zn q 0) = some (.int .i64 (sup + 1)) /\ wT.cell? (zn q 1) = some (.int .i64 up) /\ wT.frozen? (zn q 0) = false /\ q < wT.heap.size := ⟨_, rfl, hownS.kept_flat Z6n (Z0u _ _ _) (.inr hq1), hbS.setCell hqb _, L0e _ _ _ e0, (cso).trans e1, (L0k _ _ _ _).trans fS, L0c hqS (Z0u _ _ _).size⟩
   go_wp2
   go_roundw
   exact ⟨y + 1, sup + 1, out2, by omega, by go_num, hownT, by (try simp only [L0i, L0r, L0v]) <;> omega, HLn, t0, t1, fT, hqT, hq1, by omega, hbT⟩
   simp [intOf]; omega
  have hin : InI lo /\ InI up := by unfold InI; omega
  clear hE'
  by_cases hc : lo <= up
  ·have hq4 : putR out2 (lo, up) = out2 ++ [(lo, up)] := if_pos (show lo <= up from hc)
   have HO := L0 (LessOut.of HT.o HI.o HL.o (.inl (L0u (by omega))) (by omega))
   rw [hq4] at HO
   clear hq4
   go_wp2_with (at_builtin; refine Z0a (R := rRg) (x := (lo, up)) Z6f rfl (.tmp 63) (.tmp 65) rfl rfl hown2 [.int .i64 lo, .int .i64 up] rfl rfl (fun _ => False) ⟨rfl, hin⟩ (fun _ h => h.elim) ?_ hbl3.size ?_; (((try simp only [rRg]) <;> omega)); intro v9 w9 hown9 hb9 _ _)
   go_roundw
   exact ⟨x + 1, out2 ++ [(lo, up)], by omega, by go_num, hown9, HLEN.o _ (HO).out.len, L0 (HO).out.inv, hbl3.trans hb9⟩
   simp [intOf]; omega
  have hq4 : putR out2 (lo, up) = out2 := if_neg (show ¬ lo <= up from hc)
  have HO := L0 (LessOut.of HT.o HI.o HL.o (.inl (L0u (by omega))) (by omega))
  rw [hq4] at HO
  clear hq4
  go_wp2
  go_roundw
  exact ⟨x + 1, out2, by omega, by go_num, hown2, HLEN.o _ (HO).out.len, L0 (HO).out.inv, hbl3⟩
  simp [intOf]; omega
 have HQ : Hid (Z3x out = Z5g a b) := L0 (Y7d (by have := HI.o; rw [L0l (by omega)] at this; exact this))
 clear HI hE hE' hsK hxe
 have hob : out.length <= 8796093022207 := by omega
 obtain ⟨A1, c1, rfl⟩ := hown.value
 have HC := L0 (Z8u wr (show rRgs.rel _ _ _ _ from hown.rel (by decide)))
 rw [HQ.o] at HC
 clear hown
 go_wp2_with (go_at_call 143; ((with_reducible refine HC.o.mono ?_); rintro e w1 ⟨z, rfl, hoz, hb1⟩))
 go_ret
 exact ⟨z, rfl, (hoz.flat Z6n).lower hbl.size, hbl.trans (hb1.mono hbl.size)⟩
