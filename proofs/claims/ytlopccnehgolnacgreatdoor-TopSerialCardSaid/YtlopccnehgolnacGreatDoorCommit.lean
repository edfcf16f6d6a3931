import Derived.Test.YtlopccnehgolnacGreatDoorAskS
namespace Go.Proofs.YtlopccnehgolnacGreatDoor
open Go.RowKit Rb
open List renaming getElem?_of_mem -> jA
open Option renaming getD_some -> jB
open Rd renaming below -> jC
open Go.World renaming new_ne -> jD
set_option maxRecDepth 100000
set_option maxHeartbeats 12800000
def Z9z (l : List Bk) (f n : Nat) : List Txt := (List.range n).foldl (fun o i => (Z3f ((l[f + i]?).getD bk0) ((l[f + i + 1]?).getD bk0)).foldl addN o) []
theorem Z77 (l : List Bk) (f n : Nat) : Z9z l f (n + 1) = (Z3f ((l[f + n]?).getD bk0) ((l[f + n + 1]?).getD bk0)).foldl addN (Z9z l f n) := by
 unfold Z9z
 rw [List.range_succ, L1e]
 rfl
def Z91 (l : List Bk) (f : Nat) : List Txt := Z9z l f (l.length - 1 - f)
def Z7x (x : Ses) (s : Txt) : Bool := x.gone.contains s || (x.strict && (x.read.contains s || x.read.contains []))
def Z1a (st : Sto) (k : Nat) : Rep × Sto :=
 match (Z91 st.states (st.ses k).frm.toNat).find? (Z7x (st.ses k)) with
 | some s => (⟨9, 0, s, [], []⟩, st.put k ses0)
 | none =>
  if (st.ses k).gone.length = 0 then (⟨0, (st.states.length : Int) - 1, [], [], []⟩, st.put k ses0)
  else if 40 <= st.states.length then (noR 11, st.put k ses0)
  else if (Z0j (Z1o ((st.states[st.states.length - 1]?).getD bk0) (st.ses k))).2.2 ≠ 0 then
   (⟨(Z0j (Z1o ((st.states[st.states.length - 1]?).getD bk0) (st.ses k))).2.2, 0, (Z0j (Z1o ((st.states[st.states.length - 1]?).getD bk0) (st.ses k))).1, [], (Z0j (Z1o ((st.states[st.states.length - 1]?).getD bk0) (st.ses k))).2.1⟩, st.put k ses0)
  else (⟨0, st.states.length, [], [], []⟩, { st.put k ses0 with states := st.states ++ [Z1o ((st.states[st.states.length - 1]?).getD bk0) (st.ses k)] })
theorem Z66 {g : List Txt -> Txt -> List Txt} (hg : ∀ o s, (g o s).length <= o.length + 1) : ∀ (l o : List Txt), (l.foldl g o).length <= o.length + l.length
 | [], o => by simp
 | s :: l, o => by
  have h1 := Z66 hg l (g o s)
  have h2 := hg o s
  simp only [L3w, L0r]
  omega
theorem Y6z (a b : Bk) (o : List Txt) (s : Txt) : (Z2v a b o s).length <= o.length + 1 := by
 unfold Z2v
 split
 ·omega
 exact Z1c o s
theorem Z9c (a b : Bk) : (Z3f a b).length <= (Z0n a).length + (Z0n b).length := by
 have := Z66 (Y6z a b) (Z0n a ++ Z0n b) []
 simp only [L0i, L0v] at this
 unfold Z3f
 omega
theorem Z90 {l : List Bk} (hl : ∀ b ∈ l, b.doms.length <= 4 /\ b.tabs.length <= 4) (f : Nat) : ∀ n, (Z9z l f n).length <= 16 * n
 | 0 => by simp [Z9z]
 | n + 1 => by
  have hb : ∀ i : Nat, (Z0n ((l[i]?).getD bk0)).length <= 8 := fun i => by
   rcases hg : l[i]? with _ | b
   ·simp [Z0n, bk0]
   have := hl b (L0z hg)
   simp only [jB, Z0n, L0i, L1h]
   omega
  rw [Z77]
  have h1 := Z66 Z1c (Z3f ((l[f + n]?).getD bk0) ((l[f + n + 1]?).getD bk0)) (Z9z l f n)
  have h2 := Z9c ((l[f + n]?).getD bk0) ((l[f + n + 1]?).getD bk0)
  have h3 := hb (f + n)
  have h4 := hb (f + n + 1)
  have h5 := Z90 hl f n
  omega
section
variable {α : Type} {R : Rd α} {e : TypeId} {w w' : World} {base : Nat} {S : Nat -> Prop} {v : Value} {xs : List α} {x : α}
theorem Y0p {P : Program} {o : Oper} {a : Act} {K : Act -> World -> Prop} {Q : Exit -> Act -> World -> Prop} {t : TypeId} (hT : ElemOf P R t e) (s y : Operand)
  (ho : o.op = .call { callee := .builtin .append, args := #[s, y], argTypes := #[t, t] })
  (hs : a.eval s = v) (hown : OwnS R e w base S v xs) (ad : Addr) (c : Nat) (news : List Value) (hx : a.eval y = .slice (some ad) 1 c) (hrel : R.rel w S news x) (hSb : ∀ b, S b -> b < w.heap.size)
  (hnews : ∀ j u, news[j]? = some u -> w.cell? (ad.add j) = some u) (hbytes : (xs.length + 1) * R.bytes <= 140737488355328) (hbase : base <= w.heap.size)
  (h : ∀ v' w', OwnS R e w' base S v' (xs ++ [x]) -> w.grownBy w' v.ownBlock -> (v'.ownBlock = v.ownBlock \/ v'.ownBlock = some w.heap.size) -> K (a.put o.dst v') w') : o.wp P a w K Q := by
 obtain ⟨v', w', hr, h2, h3, h4⟩ := Z5x (P := P) (t := t) (ty := o.type) hT hown ad c news hrel hSb hnews hbytes hbase
 unfold Oper.wp execOp
 simp only [ho, resolve, invoke, builtin, Sem.run_bind, Sem.run_pure, Result.andThen_ok, L4e, L2q, L4h, hs, hx, hr]
 exact h v' w' h2 h3 h4
theorem Z3c {P : Program} {ops : Array Oper} {o : Oper} {a : Act} {K : Act -> World -> Prop} {Q : Exit -> Act -> World -> Prop} {E : Prop} {t : TypeId} (hT : ElemOf P R t e) (hgd : o.guard = none) (s y : Operand)
  (ho : o.op = .call { callee := .builtin .append, args := #[s, y], argTypes := #[t, t] })
  (hs : a.eval s = v) (hown : OwnS R e w base S v xs) (ad : Addr) (c : Nat) (news : List Value) (hx : a.eval y = .slice (some ad) 1 c) (hrel : R.rel w S news x) (hSb : ∀ b, S b -> b < w.heap.size)
  (hnews : ∀ j u, news[j]? = some u -> w.cell? (ad.add j) = some u) (hbytes : (xs.length + 1) * R.bytes <= 140737488355328) (hbase : base <= w.heap.size)
  (h : ∀ v' w', OwnS R e w' base S v' (xs ++ [x]) -> w.grownBy w' v.ownBlock -> (v'.ownBlock = v.ownBlock \/ v'.ownBlock = some w.heap.size) -> K (a.put o.dst v') w') :
  if Region.wanted o (yielded ops a.tmps) = true then Oper.wp P o a w K Q else E := by
 rw [if_pos (by simp [Region.wanted, hgd])]
 exact Y0p hT s y ho hs hown ad c news hx hrel hSb hnews hbytes hbase h
end
theorem Z7u {w w' : World} (h : Bw w.drew w') : Bw w w' := ⟨h.os, h.tape, h.output, h.size, h.block⟩
theorem Y0v {α : Type} {p : α -> Bool} : ∀ {l : List α} {j : Nat} {s : α}, l[j]? = some s -> p s = true -> (∀ q s', q < j -> l[q]? = some s' -> p s' = false) -> l.find? p = some s
 | [], _, _, h, _, _ => by simp at h
 | a :: l, 0, s, h, hp, _ => by
  obtain rfl : a = s := by simpa using h
  simp [hp]
 | a :: l, j + 1, s, h, hp, hn => by
  have ha : p a = false := hn 0 a (Nat.succ_pos _) rfl
  rw [L3k (by simp [ha])]
  exact Y0v (by simpa using h) hp fun q s' hq hs => hn (q + 1) s' (by omega) (by simpa using hs)
theorem StoAt.books {w : World} {sb : Nat} {C T : Nat -> Prop} {st : Sto} (h : StoAt w sb C T st) (hne : 0 < st.states.length) :
  ∃ g c, w.cell? (zn sb 0) = some (.slice (some (zn g 0)) st.states.length c) /\ C g /\ g ≠ sb /\ g < w.heap.size /\ ∀ (f : Nat) (b : Bk), st.states[f]? = some b -> ∃ A1 c1 A2 c2, rBk.rel w T [.slice A1 b.doms.length c1, .slice A2 b.tabs.length c2] b /\ w.cell? (zn g (f * 2)) = some (.slice A1 b.doms.length c1) /\ w.cell? (zn g (f * 2 + 1)) = some (.slice A2 b.tabs.length c2) := by
 obtain ⟨v, h0, h1, h2⟩ := h.row
 rcases h1.form with ⟨_, hn⟩ | ⟨g, cap, rfl, _, hg⟩
 ·rw [hn] at hne
  simp at hne
 refine ⟨g, cap, h0, (h2 g rfl).1, (h2 g rfl).2, hg, fun f b hf => ?_⟩
 obtain ⟨cs, hr, hc⟩ := h1.elem rfl hf
 have hr' := hr
 obtain ⟨v1, u1, rfl, hd, ht⟩ := hr
 obtain ⟨A1, c1, rfl, _⟩ := rSl.elems hd
 obtain ⟨A2, c2, rfl, _⟩ := rSl.elems ht
 exact ⟨A1, c1, A2, c2, hr', hc 0 _ rfl, hc 1 _ rfl⟩
def Z1g (w : World) (sb : Nat) (C T : Nat -> Prop) (r : Rep) (st' : Sto) (e : Ending) (w' : World) : Prop :=
 ∃ rs C' T', e = .returned (.agg (Array.mk rs)) /\ rRep.rel w' (fun q => w.heap.size <= q /\ ¬ C' q /\ q < w'.heap.size) rs r /\ StoAt w' sb C' T' st' /\ Chg C w w' /\ (∀ q, C' q -> C q \/ w.heap.size <= q) /\ ∀ q, T' q -> T q \/ w.heap.size <= q
theorem StoAt.push {W w10 : World} {sb : Nat} {C T : Nat -> Prop} {st : Sto} {v v' : Value} {l : List Bk} (h : StoAt W sb C T st) (hv : W.cell? (zn sb 0) = some v) (hg : W.grownBy w10 v.ownBlock) (ho : OwnS rBk 38 w10 0 T v' l) (hnew : v'.ownBlock = v.ownBlock \/ v'.ownBlock = some W.heap.size) :
  StoAt (w10.setCell (zn sb 0) v') sb (fun q => C q \/ v'.ownBlock = some q) T { st with states := l } := by
 obtain ⟨v0, h0, h1, h2⟩ := h.row
 rw [hv] at h0
 obtain rfl := L0s h0
 have hsb : some sb ≠ v.ownBlock := fun e => (h2 sb e.symm).2 rfl
 have hsb' : v'.ownBlock ≠ some sb := fun e => by
  rcases hnew with h3 | h3
  ·exact hsb (by rw [<- h3, e])
  rw [e] at h3; injection h3 with h3; have := h.lt; omega
 have hG : w10.grownBy (w10.setCell (zn sb 0) v') (some sb) := Z0b [v'] 0
 have hz : (w10.setCell (zn sb 0) v').heap.size = w10.heap.size := by simp [World.setCell]
 have c0 := hg.cell hv hsb
 refine ⟨⟨v', L0e _ _ _ c0, ho.grown hG fun g hg => by injection hg with hg; subst hg; exact ⟨hsb', h.nT⟩, fun g hg => ⟨.inr hg, fun e => hsb' (e ▸ hg)⟩⟩, fun k hk => ?_, (cso).trans (hg.cell h.act hsb), fun j => ?_, .inl h.csb, fun q hq => ?_, fun q hq => by rw [hz]; exact L0c (h.tw q hq) hg.size, fun q hq hc => ?_⟩
 ·have h3 : SesAt w10 sb (1 + k * 7) T (st.ses k) := (h.ses k hk).keep (.grown hg fun g hg' hb => by
   have := h2 g hg'
   rcases hb with hb | hb
   ·exact h.ct g hb this.1
   exact this.2 hb)
  exact h3.other hG h.nT fun i hi => L0a _ _ _ _ (by simp <;> omega)
 ·rw [L0k]
  exact (L1a (hg.block sb h.lt hsb)).trans (h.frz j)
 ·rw [hz]
  rcases hq with hq | hq
  ·exact L0c (h.cw q hq) hg.size
  exact (ho.lt q hq).2
 obtain ⟨_, _, hn, _⟩ := ho
 rcases hc with hc | hc
 ·exact h.ct q hq hc
 exact hn q hc hq
theorem act_at {w wo W6 W7 : World} {sb : Nat} {C T S : Nat -> Prop} {st' : Sto} {c : Int} {s : Txt} {l : List Int} {A : Option Addr} {k : Nat} (h : StoAt wo sb C T st') (hc : Chg C w wo) (hT : ∀ q, T q -> q < w.heap.size) (hC : ∀ q, C q -> q < w.heap.size) (hg : wo.grownBy W6 (some w.heap.size)) (h1 : InI c) (h3 : s.length <= 140737488355328) (hr : (rSl rInt).rel wo (New W7 S) [.slice A l.length k] l) (h7 : w.heap.size < W7.heap.size) (_ : W7.heap.size <= wo.heap.size) :
  Z1g w sb C T ⟨c, 0, s, [], l⟩ st' (.returned (.agg #[.int .i64 c, .int .i64 0, sq s, nl, .slice A l.length k])) W6 := by
 refine ⟨[.int .i64 c, .int .i64 0, sq s, nl, .slice A l.length k], C, T, rfl, ⟨_, _, rfl, h1, (show InI 0 from ⟨by decide, by decide⟩), h3, Z01 _ _, ?_⟩, h.away hg ⟨fun ht => L3y _ (hT _ ht), fun hc => L3y _ (hC _ hc)⟩, hc.next (C' := fun b => b = w.heap.size) (.grown hg fun g hg => by injection hg with hg; exact .inl hg.symm) fun b hb => .inr (by omega), fun _ h => .inl h, fun _ h => .inl h⟩
 exact (rSl rInt).mono ((rSl rInt).keep hr (.grown hg fun g hg h => by injection hg with hg; have := h.2; omega)) fun q hq hl => ⟨by have := hq.2; omega, fun hc => by have := hC q hc; have := hq.2; omega, hl⟩
theorem rBk.tabs_bd {w : World} {S : Nat -> Prop} {cs : List Value} {b : Bk} (h : rBk.rel w S cs b) : ∀ t ∈ b.tabs, t.name.length <= 140737488355328 := by
 obtain ⟨v, u, rfl, _, ht⟩ := h
 obtain ⟨B, d, rfl, _, _, _, hF⟩ := rSl.elems ht
 intro t hm
 obtain ⟨i, hi⟩ := jA hm
 obtain ⟨_, _, es, _, _, _, ⟨_, _, _, hn, _⟩, _⟩ := hF i t hi
 exact hn
theorem Z62 {b : Bk} {N : Nat} : ∀ {l : List Tb}, (∀ t ∈ l, t.name.length <= N) -> (Z03 b l).1.length <= N
 | [], _ => by simp [Z03]
 | a :: l, h => by
  rw [Z03]
  split
  ·exact h a (L2d ..)
  split
  ·exact h a (L2d ..)
  exact Z62 fun t ht => h t (L1w _ ht)
theorem Y4y {v : Bk} {N : Nat} (h : ∀ t ∈ v.tabs, t.name.length <= N) : (Z0j v).1.length <= N := by
 unfold Z0j
 split
 ·simp
 split
 ·simp
 split
 ·simp
 split
 ·rename_i t ht
  exact h t (L1s ht)
 split
 ·simp
 exact Z62 h
theorem Z6y {w wo W6 : World} {sb : Nat} {C T : Nat -> Prop} {st' : Sto} {c n : Int} {s : Txt} (h : StoAt wo sb C T st') (hc : Chg C w wo) (hT : ∀ q, T q -> q < w.heap.size) (hC : ∀ q, C q -> q < w.heap.size) (hg : wo.grownBy W6 (some w.heap.size)) (h1 : InI c) (h2 : InI n) (h3 : s.length <= 140737488355328) :
  Z1g w sb C T ⟨c, n, s, [], []⟩ st' (.returned (.agg #[.int .i64 c, .int .i64 n, sq s, nl, nl])) W6 :=
 ⟨[.int .i64 c, .int .i64 n, sq s, nl, nl], C, T, rfl, Z2q h1 h2 h3, h.away hg ⟨fun ht => L3y _ (hT _ ht), fun hc => L3y _ (hC _ hc)⟩, hc.next (C' := fun b => b = w.heap.size) (.grown hg fun g hg => by injection hg with hg; exact .inl hg.symm) fun b hb => .inr (by omega), fun _ h => .inl h, fun _ h => .inl h⟩
theorem Y6l {C T : Nat -> Prop} {sb k f : Nat} {st : Sto} {x : Ses} (w : World) (h : StoAt w sb C T st) (hk : k < 4) (hx0 : st.ses k = x) (hfr : x.frm = f) (_hfl : f < st.states.length) (hst : ∀ b ∈ st.states, Neat b 4 4) (hsl : st.states.length <= 40)
  (hmd : x.mine.doms.length <= 1000) (hmt : x.mine.tabs.length <= 1000) (hlib : LibC C w) :
  Calls Tryz.prog 38 #[.pointer (some (zn sb 0)), .pointer (some (zn sb (1 + k * 7)))] w fun e w' => Z1g w sb C T (Z1a st k).1 (Z1a st k).2 e w' := by
 obtain ⟨o, ho⟩ : ∃ o, 1 + k * 7 = o := ⟨_, rfl⟩
 obtain ⟨W, e0, HB, HZ, HC, HF⟩ := Y38 (L0m w.heap.size w)
 have hA : StoAt W sb C T st := h.below HB.o
 have hsx : SesAt W sb o T x := by rw [<- ho, <- hx0]; exact hA.ses k hk
 obtain ⟨D, dc, B, bc, G, gc, R, rc, hr, x0, x1, x2, x3, x4, x5, x6⟩ := hsx.out
 rw [hfr] at x2
 obtain ⟨W1, e1, HB1, HC1, HZ1⟩ : ∃ W1, W.alloc (.cells #[.bool x.opn, .bool x.strict, .int .i64 f, .slice D x.mine.doms.length dc, .slice B x.mine.tabs.length bc, .slice G x.gone.length gc, .slice R x.read.length rc] 41) = W1 /\ Hid (Bw W W1) /\ Hid (∀ j u, [.bool x.opn, .bool x.strict, .int .i64 f, .slice D x.mine.doms.length dc, .slice B x.mine.tabs.length bc, .slice G x.gone.length gc, .slice R x.read.length rc][j]? = some u -> W1.cell? (zn W.heap.size j) = some u) /\ Hid (W1.heap.size = W.heap.size + 1) :=
  ⟨_, rfl, L0 bA, L0 fun j u hu => (L0b _ _ _ _).trans (by simpa using hu), L0 (by simp)⟩
 have hA1 : StoAt W1 sb C T st := hA.below HB1.o
 have hsx1 : SesAt W1 sb o T x := hsx.below HB1.o
 have hz0 : InI 0 := ⟨by decide, by decide⟩
 obtain ⟨WS, eS, HXS, HWRS, HZS⟩ := Z7j hsx1 hA1.nT false false 0 hz0
 have HSL := L0 h.lt
 have HNT := L0 h.nT
 have HTL := L0 h.tw
 have HCL0 := L0 h.cw
 have HCSB := L0 h.csb
 have HSO := L0 hA1.lt
 have HAS : Hid (StoAt WS sb C T (st.put k ses0)) := L0 (hA1.setSes hk (ho ▸ HWRS.o) (ho ▸ HXS.o) (fun _ h => h) (fun q h => by rw [HZS.o]; exact hA1.tw q h) fun _ h => .inl h)
 have HRX : Hid (rSes.rel WS T [.bool x.opn, .bool x.strict, .int .i64 f, .slice D x.mine.doms.length dc, .slice B x.mine.tabs.length bc, .slice G x.gone.length gc, .slice R x.read.length rc] x) := L0 (rSes.keep (jC (hfr ▸ hr) HB1.o) (HWRS.o.keeps hA1.nT))
 have HLW : Hid (LibC C WS) := L0 (hlib.chg (((Chg.below HB.o).trans (.below HB1.o)).trans (HWRS.o.chg h.csb)) fun _ h => .inl h)
 have HCW : Hid (Chg C w WS) := L0 (((Chg.below HB.o).trans (.below HB1.o)).trans (HWRS.o.chg h.csb))
 have HKX : Hid (∀ j u, [.bool x.opn, .bool x.strict, .int .i64 f, .slice D x.mine.doms.length dc, .slice B x.mine.tabs.length bc, .slice G x.gone.length gc, .slice R x.read.length rc][j]? = some u -> WS.cell? (zn W.heap.size j) = some u) := L0 fun j u hu => HWRS.o.hg.cell (HC1.o j u hu) (show some W.heap.size ≠ some sb from fun e => by injection e with e; have := HSL.o; have := HZ.o; omega)
 have HKQ : Hid ((WS.cell? (zn w.heap.size 0) = some (.int .i64 0) /\ WS.cell? (zn w.heap.size 1) = some (.int .i64 0) /\ WS.cell? (zn w.heap.size 2) = some (.string ⟨#[]⟩) /\ WS.cell? (zn w.heap.size 3) = some (nl) /\ WS.cell? (zn w.heap.size 4) = some (nl)) /\ ∀ j, WS.frozen? (zn w.heap.size j) = false) := L0 (by
  have hne : some w.heap.size ≠ some sb := fun e => by injection e with e; have := HSL.o; omega
  have hlt : w.heap.size < W.heap.size := by have := HZ.o; omega
  obtain ⟨c0, c1, c2, c3, c4⟩ := HC.o
  refine ⟨⟨HWRS.o.hg.cell ((HB1.o.ce 0 hlt).trans c0) hne, HWRS.o.hg.cell ((HB1.o.ce 1 hlt).trans c1) hne, HWRS.o.hg.cell ((HB1.o.ce 2 hlt).trans c2) hne, HWRS.o.hg.cell ((HB1.o.ce 3 hlt).trans c3) hne, HWRS.o.hg.cell ((HB1.o.ce 4 hlt).trans c4) hne⟩, fun j => ?_⟩
  exact (L1a (HWRS.o.hg.block _ (by have := HB1.o.size; show w.heap.size < _; omega) hne)).trans ((HB1.o.fr j hlt).trans (HF.o j)))
 have HSZ : Hid (w.heap.size + 2 = WS.heap.size) := L0 (by rw [HZS.o, HZ1.o, HZ.o])
 obtain ⟨n, hn⟩ : ∃ n, st.states.length = n + 1 := ⟨st.states.length - 1, by omega⟩
 obtain ⟨hb, hhb⟩ : ∃ z, st.states[n]? = some z := ⟨_, L0f (by omega)⟩
 obtain ⟨g, gcp, A1, k1', A2, k2', s0, hrb, b0, b1, hgC, hgs, hgl⟩ := HAS.o.book (f := n) (b := hb) hhb
 have hpl : (st.put k ses0).states.length = n + 1 := hn
 rw [hpl] at s0
 have HS0 := L0 s0
 have HRB := L0 hrb
 have HHB := L0 hhb
 have HN := L0 hn
 have HST := L0 hst
 have hnl : n <= 39 := by omega
 have hfn : f <= n := by omega
 have HK := L0 hk
 have HX0 := L0 hx0
 have HFR := L0 hfr
 have HMD := L0 hmd
 have HMT := L0 hmt
 obtain ⟨u0, u1, u2, u3, u4, u5, u6⟩ : W1.cell? (zn sb o) = some (.bool x.opn) /\ W1.cell? (zn sb (o + 1)) = some (.bool x.strict) /\ W1.cell? (zn sb (o + 2)) = some (.int .i64 f) /\ W1.cell? (zn sb (o + 3)) = some (.slice D x.mine.doms.length dc) /\ W1.cell? (zn sb (o + 4)) = some (.slice B x.mine.tabs.length bc) /\ W1.cell? (zn sb (o + 5)) = some (.slice G x.gone.length gc) /\ W1.cell? (zn sb (o + 6)) = some (.slice R x.read.length rc) := by
  have hs := hA.lt
  exact ⟨(HB1.o.ce _ hs).trans x0, (HB1.o.ce _ hs).trans x1, (HB1.o.ce _ hs).trans x2, (HB1.o.ce _ hs).trans x3, (HB1.o.ce _ hs).trans x4, (HB1.o.ce _ hs).trans x5, (HB1.o.ce _ hs).trans x6⟩
 obtain ⟨g0, g1, g2, g3, g4, g5, g6⟩ : W1.frozen? (zn sb o) = false /\ W1.frozen? (zn sb (o + 1)) = false /\ W1.frozen? (zn sb (o + 2)) = false /\ W1.frozen? (zn sb (o + 3)) = false /\ W1.frozen? (zn sb (o + 4)) = false /\ W1.frozen? (zn sb (o + 5)) = false /\ W1.frozen? (zn sb (o + 6)) = false := ⟨hA1.frz _, hA1.frz _, hA1.frz _, hA1.frz _, hA1.frz _, hA1.frz _, hA1.frz _⟩
 have ne1 := jD WS _ s0
 have ne2 := jD WS _ b0
 have ne3 := jD WS _ b1
 clear h hk hx0 hfr _hfl hst hsl hmd hmt hlib hA hsx hr hA1 hsx1 hz0 hn hhb hpl hrb hgC hgs hgl
 rw [ho]
 go_enter Tryz.func38, Tryz.ntmps38
 go_upto_region 3 with fail
 clear x0 x1 x2 x3 x4 x5 x6 u0 u1 u2 u3 u4 u5 u6 g0 g1 g2 g3 g4 g5 g6 e0 e1 eS
 have hwr : IntKind.i64.wrap (n : Int) = n := IntWalk.i64_in _ (by omega)
 obtain ⟨WH, eH, HBH, HH⟩ : ∃ WH, WS.alloc (.cells #[.slice A1 hb.doms.length k1', .slice A2 hb.tabs.length k2'] 38) = WH /\ Hid (Bw WS WH) /\ Hid (WH.cell? (zn WS.heap.size 0) = some (.slice A1 hb.doms.length k1') /\ WH.cell? (zn WS.heap.size 1) = some (.slice A2 hb.tabs.length k2') /\ WH.heap.size = WS.heap.size + 1) :=
  ⟨_, rfl, L0 bA, L0 ⟨L0b _ _ _ _, L0b _ _ _ _, by simp⟩⟩
 have sH := (HBH.o.ce 0 (L0d _ _ s0)).trans s0
 have bH0 := (HBH.o.ce (n * 2) (L0d _ _ b0)).trans b0
 have bH1 := (HBH.o.ce (n * 2 + 1) (L0d _ _ b1)).trans b1
 go_cut [6] (fun p wx => p = .pointer (some (zn WS.heap.size 0)) /\ wx = WH.drew)
 case first =>
  have hz1 : (0:Int) <= (n:Int) + 1 - 1 := by omega
  have hz2 : (n:Int) + 1 - 1 < (n:Int) + 1 := by omega
  have hz3 : ((n:Int) + 1 - 1).toNat = n := by omega
  have hz4 : (0:Int) <= (n:Int) + 1 := by omega
  have hz5 : ((n:Int) + 1).toNat = n + 1 := by omega
  have hz6 : (0:Int) <= (n:Int) := by omega
  have hz7 : (n:Int) < (n:Int) + 1 := by omega
  go_region_held3 (fun W' => W'.cell? (zn sb 0) = some (.slice (some (zn g 0)) (n + 1) gcp) /\ W'.cell? (zn g (n * 2)) = some (.slice A1 hb.doms.length k1') /\ W'.cell? (zn g (n * 2 + 1)) = some (.slice A2 hb.tabs.length k2')) (go_keep) (fail)
  all_goals
   go_wp2
   go_meet
   exact ⟨rfl, rfl⟩
 case rest =>
 refine ‹∀ (a : Act) (w : World), Code.wp _ _ _ a w -> _› _ _ ?_
 refine Code.wp_mono (Z0k Tryz.results38) ?_
 obtain ⟨rfl, hwc⟩ := hcut
 subst hwc
 clear ne1 ne2 ne3 sH bH0 bH1 eH s0 b0 b1 hwr
 obtain ⟨W4, hW4⟩ : ∃ z, z = WH.drew := ⟨_, rfl⟩
 have HB4 : Hid (Bw WS W4) := L0 (by rw [hW4]; exact HBH.o.trans ⟨rfl, rfl, rfl, L0g _, fun _ _ => rfl⟩)
 have HH4 : Hid (W4.cell? (zn WS.heap.size 0) = some (.slice A1 hb.doms.length k1') /\ W4.cell? (zn WS.heap.size 1) = some (.slice A2 hb.tabs.length k2') /\ W4.heap.size = WS.heap.size + 1) := L0 (by rw [hW4]; exact HH.o)
 rw [<- hW4]
 clear hW4 HH HBH
 have kf := (HB4.o.cell (p := (zn W.heap.size 2)) (by have := HSZ.o; have := HZ.o; show W.heap.size < _; omega)).trans (HKX.o 2 _ rfl)
 go_wp2
 have HN0 : Hid ((rSl rStr).rel W4 (Nw W4.heap.size W4) [nl] []) := L0 (Z01 _ _)
 go_loopw [7, 8] (fun uo ui wr => ∃ (i : Nat) (uv : Value) (oth : List Txt), uo = uv /\ ui = .int .i64 i /\ f <= i /\ i <= n /\ Hid (Bw W4 wr) /\ Hid ((rSl rStr).rel wr (Nw W4.heap.size wr) [uv] oth) /\ Hid (oth = Z9z st.states f (i - f))) (fun _ ui _ => n - (intOf ui).toNat)
 exact ⟨f, _, _, rfl, by go_num, L0g _, hfn, L0 (L0m _ _), HN0, L0 (by rw [Nat.sub_self]; rfl)⟩
 clear HN0 kf
 obtain ⟨i, uv, oth, rfl, rfl, hfi, hin, HBi, HUi, HOi⟩ := hrel
 obtain ⟨wo, hwo⟩ : ∃ x, x = wr := ⟨_, rfl⟩
 subst hwo
 have HBS : Hid (Bw WS wo) := L0 (HB4.o.trans (HBi.o.mono HB4.o.size))
 have HAo : Hid (StoAt wo sb C T (st.put k ses0)) := L0 (HAS.o.below HBS.o)
 have hln : (st.put k ses0).states.length = n + 1 := HN.o
 obtain ⟨gr, gc', s0, hgC, hgs, hgl, hbk⟩ := HAo.o.books (by omega)
 rw [hln] at s0
 have HBK : Hid (∀ (f : Nat) (b : Bk), st.states[f]? = some b -> ∃ A1 c1 A2 c2, rBk.rel wo T [.slice A1 b.doms.length c1, .slice A2 b.tabs.length c2] b /\ wo.cell? (zn gr (f * 2)) = some (.slice A1 b.doms.length c1) /\ wo.cell? (zn gr (f * 2 + 1)) = some (.slice A2 b.tabs.length c2)) := L0 hbk
 clear hbk hln hgC hgs
 have hwr : IntKind.i64.wrap ((i : Int) + 1) = (i : Int) + 1 := IntWalk.i64_in _ (by omega)
 by_cases hlt : i < n
 ·have hjk : (i : Int) + 1 < (n : Int) + 1 := by omega
  obtain ⟨ba, hba⟩ : ∃ z, st.states[i]? = some z := ⟨_, L0f (by have := HN.o; omega)⟩
  obtain ⟨bb, hbb⟩ : ∃ z, st.states[i + 1]? = some z := ⟨_, L0f (by have := HN.o; omega)⟩
  obtain ⟨a1, a2, a3, a4, hra, p0, p1⟩ := HBK.o _ _ hba
  obtain ⟨d1, d2, d3, d4, hrb2, q0, q1⟩ := HBK.o _ _ hbb
  have hna := HST.o ba (L0z hba)
  have hnb := HST.o bb (L0z hbb)
  have hlen : (Z0n ba).length <= 8 /\ (Z0n bb).length <= 8 := by
   have h1 := hna.ld; have h2 := hna.lt; have h3 := hnb.ld; have h4 := hnb.lt
   simp only [Z0n, L0i, L1h]
   omega
  obtain ⟨cl, hcl⟩ : ∃ z, Z3f ba bb = z := ⟨_, rfl⟩
  have HCL : Hid (cl.length <= 16) := L0 (by have := Z9c ba bb; rw [hcl] at this; omega)
  have HBD : Hid (Bw wo wo.drew) := L0 ⟨rfl, rfl, rfl, L0g _, fun _ _ => rfl⟩
  have hlb : LibC C wo := HLW.o.below HBS.o
  have HCH := L0 (hcl ▸ Y4n wo.drew (jC hra HBD.o) (jC hrb2 HBD.o) (hlb.below HBD.o).lib (hlb.below HBD.o).pol (by omega))
  have HSTEP : Hid (Z9z st.states f (i + 1 - f) = cl.foldl addN oth) := L0 (by
   rw [show i + 1 - f = (i - f) + 1 by omega, Z77, show f + (i - f) = i by omega, hba, hbb, HOi.o, <- hcl]
   rfl)
  have HOL : Hid (oth.length <= 640) := L0 (by
   have := Z90 (l := st.states) (fun b hb => ⟨(HST.o b hb).ld, (HST.o b hb).lt⟩) f (i - f)
   rw [HOi.o]
   omega)
  have hjT : ((i : Int) + 1).toNat = i + 1 := by omega
  have hi0 : (0 : Int) <= i + 1 := by omega
  have hi1 : (i : Int) < n + 1 := by omega
  have hi2 : (0 : Int) <= i := by omega
  have HKP : Hid (∀ w', Bw wo w' -> (fun W' => W'.cell? (zn sb 0) = some (.slice (some (zn gr 0)) (n + 1) gc') /\ W'.cell? (zn gr (i * 2)) = some (.slice a1 ba.doms.length a2) /\ W'.cell? (zn gr (i * 2 + 1)) = some (.slice a3 ba.tabs.length a4) /\ W'.cell? (zn gr ((i + 1) * 2)) = some (.slice d1 bb.doms.length d2) /\ W'.cell? (zn gr ((i + 1) * 2 + 1)) = some (.slice d3 bb.tabs.length d4)) w') := L0 fun w' hb => ⟨(hb.ce _ (L0d _ _ s0)).trans s0, (hb.ce _ hgl).trans p0, (hb.ce _ hgl).trans p1, (hb.ce _ hgl).trans q0, (hb.ce _ hgl).trans q1⟩
  clear hcl hba hbb hra hrb2 hna hnb hlen hlb hgl
  go_upto_region 8 with fail
  go_region_held3 (fun W' => W'.cell? (zn sb 0) = some (.slice (some (zn gr 0)) (n + 1) gc') /\ W'.cell? (zn gr (i * 2)) = some (.slice a1 ba.doms.length a2) /\ W'.cell? (zn gr (i * 2 + 1)) = some (.slice a3 ba.tabs.length a4) /\ W'.cell? (zn gr ((i + 1) * 2)) = some (.slice d1 bb.doms.length d2) /\ W'.cell? (zn gr ((i + 1) * 2 + 1)) = some (.slice d3 bb.tabs.length d4)) (go_keep) (first
   | (go_at_call 62; ((with_reducible refine HCH.o.mono ?_); rintro e w2 ⟨u2, rfl, hr2, hb2⟩; obtain ⟨A5, c5, rfl, _, _, _, hE5⟩ := rSl.elems hr2; have HB2 := L0 (Z7u hb2); have HE5 := L0 hE5; obtain ⟨y0, y1, y2, y3, y4⟩ := HKP.o w2 (Z7u hb2); clear hr2 hb2 hE5)))
  all_goals
   clear y0 y1 y2 y3 y4 s0 p0 p1 q0 q1 hwr hjT hi0 hi1 hi2 hjk
   go_wp2
   have HU3 : Hid ((rSl rStr).rel w2 (Nw W4.heap.size w2) [u7] oth) := L0 (Z43 HUi.o HB2.o)
   have HBB : Hid (Bw w2 w2) := L0 (L0m _ _)
   go_loopw [7, 64] (fun uo sj wi => ∃ (j : Nat) (uv2 : Value) (o2 : List Txt), uo = uv2 /\ sj = .int .i64 j /\ j <= cl.length /\ Hid (Bw w2 wi) /\ Hid ((rSl rStr).rel wi (Nw W4.heap.size wi) [uv2] o2) /\ Hid (o2 = (cl.take j).foldl addN oth) /\ Hid (o2.length <= oth.length + j)) (fun _ sj _ => cl.length - (intOf sj).toNat)
   exact ⟨0, _, _, rfl, by go_num, L0o _, HBB, HU3, L0 rfl, L0 (L0g _)⟩
   clear HU3 HBB
   obtain ⟨j, uv2, o2, rfl, rfl, hj, HBj, HUj, HOj, HLj⟩ := hrel
   obtain ⟨wi, hwi⟩ : ∃ x, x = wr := ⟨_, rfl⟩
   subst hwi
   have HBO : Hid (Bw wo wi) := L0 (HB2.o.trans (HBj.o.mono HB2.o.size))
   by_cases hlt2 : j < cl.length
   ·have hjl : (j : Int) < cl.length := by omega
    have hcl16 : cl.length <= 16 := HCL.o
    obtain ⟨b1, o1, s, hA5, _, hb1, hx, hsl, m0⟩ := (HE5.o.keep (.of_below HBj.o)).str hlt2
    subst hA5
    have HX := L0 hx
    have HSLN := L0 hsl
    have HLq : Hid (o2.length < 1000000000000) := L0 (by have := HLj.o; have := HOL.o; have := HCL.o; omega)
    clear hx hsl hb1
    go_wp2_with (go_at_call 36; (with_reducible refine (Z2g s wi HUj.o HSLN.o HLq.o (fun _ h => Nw.lt h)).mono ?_); rintro e w3 ⟨u3, rfl, hr3, hb3⟩; have HR3 := L0 hr3; have HB3 := L0 hb3; clear hr3 hb3)
    go_roundw
    case rel =>
     refine ⟨j + 1, _, _, rfl, by go_num, hlt2, L0 (HBj.o.trans (HB3.o.mono HBj.o.size)), L0 (Y9c HR3.o (L0h HBi.o.size HBO.o.size)), L0 ?_, L0 ?_⟩
     ·rw [Z0c HX.o, L1e, <- HOj.o]
      rfl
     exact L0h (Z1c o2 s) (by have := HLj.o; omega)
    simp [intOf]; omega
   have hjl : ¬ (j : Int) < cl.length := by omega
   have HOF : Hid (o2 = Z9z st.states f (i + 1 - f)) := L0 (by rw [HSTEP.o, HOj.o, L0l (by omega)])
   clear HOj HLj hlt2 hj
   go_wp2
   go_roundw
   exact ⟨i + 1, _, _, rfl, by go_num, by omega, by omega, L0 (HBi.o.trans (HBO.o.mono HBi.o.size)), HUj, HOF⟩
   simp [intOf]; omega
 have hjk : ¬ (i : Int) < n := by omega
 have HOF : Hid (oth = Z91 st.states f) := L0 (by rw [HOi.o]; unfold Z91; rw [HN.o, show n + 1 - 1 - f = i - f by omega])
 have HOL : Hid (oth.length <= 640) := L0 (by
  have := Z90 (l := st.states) (fun b hb => ⟨(HST.o b hb).ld, (HST.o b hb).lt⟩) f (i - f)
  rw [HOi.o]
  omega)
 have hol : oth.length <= 640 := HOL.o
 have hnl0 := hnl
 obtain ⟨A9, c9, he9, _, _, _, hE9⟩ := rSl.elems HUi.o
 subst he9
 have HE9 := L0 hE9
 have HKW : Hid (∀ j u, [.bool x.opn, .bool x.strict, .int .i64 f, .slice D x.mine.doms.length dc, .slice B x.mine.tabs.length bc, .slice G x.gone.length gc, .slice R x.read.length rc][j]? = some u -> wo.cell? (zn W.heap.size j) = some u) := L0 fun j u hu => (HBS.o.cell (p := (zn W.heap.size j)) (by have := HSZ.o; have := HZ.o; show W.heap.size < _; omega)).trans (HKX.o j u hu)
 have HKD : Hid ((wo.cell? (zn w.heap.size 0) = some (.int .i64 0) /\ wo.cell? (zn w.heap.size 1) = some (.int .i64 0) /\ wo.cell? (zn w.heap.size 2) = some (.string ⟨#[]⟩) /\ wo.cell? (zn w.heap.size 3) = some (nl) /\ wo.cell? (zn w.heap.size 4) = some (nl)) /\ ∀ j, wo.frozen? (zn w.heap.size j) = false) := L0 (by
  have hlt : w.heap.size < WS.heap.size := by have := HSZ.o; omega
  obtain ⟨⟨c0, c1, c2, c3, c4⟩, hf⟩ := HKQ.o
  exact ⟨⟨(HBS.o.ce _ hlt).trans c0, (HBS.o.ce _ hlt).trans c1, (HBS.o.ce _ hlt).trans c2, (HBS.o.ce _ hlt).trans c3, (HBS.o.ce _ hlt).trans c4⟩, fun j => (HBS.o.fr j hlt).trans (hf j)⟩)
 have HRO : Hid (rSes.rel wo T [.bool x.opn, .bool x.strict, .int .i64 f, .slice D x.mine.doms.length dc, .slice B x.mine.tabs.length bc, .slice G x.gone.length gc, .slice R x.read.length rc] x) := L0 (jC HRX.o HBS.o)
 have HCO : Hid (Chg C w wo) := L0 (HCW.o.trans (.below HBS.o))
 obtain ⟨HGR, HRR⟩ : Hid ((rSl rStr).rel wo T [.slice G x.gone.length gc] x.gone) /\ Hid ((rSl rStr).rel wo T [.slice R x.read.length rc] x.read) := by
  obtain ⟨_, _, _, _, e, _, _, _, h3, h4⟩ := HRO.o
  simp only [L1f, and_true, true_and] at e
  obtain ⟨_, _, _, rfl, rfl⟩ := e
  exact ⟨L0 h3, L0 h4⟩
 have HS0 := L0 s0
 have HCM : Hid ((st.ses k).frm.toNat = f) := L0 (by rw [HX0.o, HFR.o]; rfl)
 clear hlt hfi HOi hE9
 go_upto_region 13 with fail
 clear s0 hjk hwr hin
 have k1 := HKW.o 1 _ rfl
 have k5 := HKW.o 5 _ rfl
 have k6 := HKW.o 6 _ rfl
 obtain ⟨⟨d0, d1, d2, d3, d4⟩, hfz⟩ := HKD.o
 have z0 := hfz 0
 have z1 := hfz 1
 have z2 := hfz 2
 have z3 := hfz 3
 have z4 := hfz 4
 have HBOX : Hid (wo.cell? (zn WS.heap.size 0) = some (.slice A1 hb.doms.length k1') /\ wo.cell? (zn WS.heap.size 1) = some (.slice A2 hb.tabs.length k2')) := L0 (by
  have hlt : WS.heap.size < W4.heap.size := by have := HH4.o.2.2; omega
  exact ⟨(HBi.o.ce 0 hlt).trans HH4.o.1, (HBi.o.ce 1 hlt).trans HH4.o.2.1⟩)
 have HRBO : Hid (rBk.rel wo T [.slice A1 hb.doms.length k1', .slice A2 hb.tabs.length k2'] hb) := L0 (jC HRB.o HBS.o)
 have HSZO : Hid (w.heap.size < wo.heap.size) := L0 (by have := HSZ.o; have := HBS.o.size; omega)
 clear hfz HB HZ HC HF HB1 HC1 HZ1 HXS HWRS HZS HNT HSO HAS HRX HLW HCW HKX HKQ HSZ HK HFR HBK HUi HOL HKD HB4 HH4 HBi HBS HRB hfn hnl
 have hnl : n <= 39 := hnl0
 clear hnl0
 go_wp2
 go_loop [74] (fun sj => ∃ j : Nat, sj = .int .i64 j /\ j <= oth.length /\ Hid (∀ q s, q < j -> oth[q]? = some s -> Z7x x s = false)) (fun sj => oth.length - (intOf sj).toNat)
 exact ⟨0, by go_num, L0o _, L0 fun q s hq => absurd hq (Nat.not_lt_zero _)⟩
 obtain ⟨j, rfl, hj, HW⟩ := hrel
 by_cases hlt2 : j < oth.length
 ·have hjl : (j : Int) < oth.length := by omega
  obtain ⟨b1, o1, s, hA9, _, hb1, hx, hsl, m0⟩ := HE9.o.str hlt2
  subst hA9
  have HX := L0 hx
  have HSLN := L0 hsl
  have HCG := L0 (Z22 s wo HGR.o)
  have HCR := L0 (Z22 s wo HRR.o)
  have HCE : Hid (Calls Tryz.prog 63 #[.slice R x.read.length rc, .string ⟨#[]⟩] wo fun e w' => e = .returned (.bool (x.read.contains [])) /\ wo = w') := L0 (Z22 [] wo HRR.o)
  have HIW : Hid (Z7x x s = (x.gone.contains s || (x.strict && (x.read.contains s || x.read.contains [])))) := L0 rfl
  obtain ⟨bg, hbg⟩ : ∃ z, x.gone.contains s = z := ⟨_, rfl⟩
  obtain ⟨bs, hbs⟩ : ∃ z, x.strict = z := ⟨_, rfl⟩
  obtain ⟨br, hbr⟩ : ∃ z, x.read.contains s = z := ⟨_, rfl⟩
  obtain ⟨be, hbe⟩ : ∃ z, x.read.contains [] = z := ⟨_, rfl⟩
  rw [hbg] at HCG HIW
  rw [hbr] at HCR HIW
  rw [hbe] at HCE HIW
  rw [hbs] at k1 HIW
  have HNXT : Hid (Z7x x s = false -> ∀ q s', q < j + 1 -> oth[q]? = some s' -> Z7x x s' = false) := L0 fun hf q s' hq hs' => by
   rcases L1r q j with h | h
   ·exact HW.o q s' h hs'
   obtain rfl : q = j := by omega
   rw [HX.o] at hs'
   obtain rfl := L0s hs'
   exact hf
  have HFND : Hid (Z7x x s = true -> Z1a st k = (⟨9, 0, s, [], []⟩, st.put k ses0)) := L0 fun hf => by
   have h1 := Y0v HX.o hf HW.o
   unfold Z1a
   rw [HCM.o, HX0.o, <- HOF.o, h1]
  clear hx hsl hb1 hbg hbs hbr hbe
  have hcs : bg = true \/ (bg = false /\ bs = false) \/ (bg = false /\ bs = true /\ br = true) \/ (bg = false /\ bs = true /\ br = false /\ be = true) \/ (bg = false /\ bs = true /\ br = false /\ be = false) := by
   cases bg <;> cases bs <;> cases br <;> cases be <;> simp
  rcases hcs with rfl | ⟨rfl, rfl⟩ | ⟨rfl, rfl, rfl⟩ | ⟨rfl, rfl, rfl, rfl⟩ | ⟨rfl, rfl, rfl, rfl⟩
  ·have HCS := HFND.o (by rw [HIW.o]; simp)
   have HCSH := L0 HCS
   clear HCS
   obtain ⟨W6, e6, HG6, r0, r1, r2, r3, r4⟩ := Z1r (.int .i64 9) (.int .i64 0) (sq s) (nl) (nl) d0 d1 d2 d3 d4
   go_wp2_with (first
   | (go_at_call 63; (with_reducible refine HCG.o.mono ?_); rintro e w' ⟨rfl, rfl⟩)
   | (go_at_call 63; (with_reducible refine HCR.o.mono ?_); rintro e w' ⟨rfl, rfl⟩)
   | (go_at_call 63; (with_reducible refine HCE.o.mono ?_); rintro e w' ⟨rfl, rfl⟩))
   refine Z0g (by rfl) rfl r0 r1 r2 r3 r4 ?_
   rw [HCSH.o]
   exact Z6y HAo.o HCO.o HTL.o HCL0.o HG6.o (by unfold InI; omega) (by unfold InI; omega) HSLN.o
  ·have HFL : Hid (Z7x x s = false) := L0 (by rw [HIW.o]; simp)
   go_wp2_with (first
   | (go_at_call 63; (with_reducible refine HCG.o.mono ?_); rintro e w' ⟨rfl, rfl⟩)
   | (go_at_call 63; (with_reducible refine HCR.o.mono ?_); rintro e w' ⟨rfl, rfl⟩)
   | (go_at_call 63; (with_reducible refine HCE.o.mono ?_); rintro e w' ⟨rfl, rfl⟩))
   go_round
   exact ⟨j + 1, by go_num, by omega, L0 (HNXT.o HFL.o)⟩
   simp [intOf]; omega
  ·have HCS := HFND.o (by rw [HIW.o]; simp)
   have HCSH := L0 HCS
   clear HCS
   obtain ⟨W6, e6, HG6, r0, r1, r2, r3, r4⟩ := Z1r (.int .i64 9) (.int .i64 0) (sq s) (nl) (nl) d0 d1 d2 d3 d4
   go_wp2_with (first
   | (go_at_call 63; (with_reducible refine HCG.o.mono ?_); rintro e w' ⟨rfl, rfl⟩)
   | (go_at_call 63; (with_reducible refine HCR.o.mono ?_); rintro e w' ⟨rfl, rfl⟩)
   | (go_at_call 63; (with_reducible refine HCE.o.mono ?_); rintro e w' ⟨rfl, rfl⟩))
   refine Z0g (by rfl) rfl r0 r1 r2 r3 r4 ?_
   rw [HCSH.o]
   exact Z6y HAo.o HCO.o HTL.o HCL0.o HG6.o (by unfold InI; omega) (by unfold InI; omega) HSLN.o
  ·have HCS := HFND.o (by rw [HIW.o]; simp)
   have HCSH := L0 HCS
   clear HCS
   obtain ⟨W6, e6, HG6, r0, r1, r2, r3, r4⟩ := Z1r (.int .i64 9) (.int .i64 0) (sq s) (nl) (nl) d0 d1 d2 d3 d4
   go_wp2_with (first
   | (go_at_call 63; (with_reducible refine HCG.o.mono ?_); rintro e w' ⟨rfl, rfl⟩)
   | (go_at_call 63; (with_reducible refine HCR.o.mono ?_); rintro e w' ⟨rfl, rfl⟩)
   | (go_at_call 63; (with_reducible refine HCE.o.mono ?_); rintro e w' ⟨rfl, rfl⟩))
   refine Z0g (by rfl) rfl r0 r1 r2 r3 r4 ?_
   rw [HCSH.o]
   exact Z6y HAo.o HCO.o HTL.o HCL0.o HG6.o (by unfold InI; omega) (by unfold InI; omega) HSLN.o
  have HFL : Hid (Z7x x s = false) := L0 (by rw [HIW.o]; simp)
  go_wp2_with (first
  | (go_at_call 63; (with_reducible refine HCG.o.mono ?_); rintro e w' ⟨rfl, rfl⟩)
  | (go_at_call 63; (with_reducible refine HCR.o.mono ?_); rintro e w' ⟨rfl, rfl⟩)
  | (go_at_call 63; (with_reducible refine HCE.o.mono ?_); rintro e w' ⟨rfl, rfl⟩))
  go_round
  exact ⟨j + 1, by go_num, by omega, L0 (HNXT.o HFL.o)⟩
  simp [intOf]; omega
 have hjl : ¬ (j : Int) < oth.length := by omega
 have HFN : Hid (oth.find? (Z7x x) = none) := L0 (by
  rw [L3m]
  intro s hs
  obtain ⟨q, hq⟩ := jA hs
  have := HW.o q s (by have := (L0n.1 hq).1; omega) hq
  simp [this])
 obtain ⟨v, hv⟩ : ∃ z, Z1o hb x = z := ⟨_, rfl⟩
 have HV := L0 hv
 have HCS0 : Hid (Z1a st k = if x.gone.length = 0 then (⟨0, (n : Int), [], [], []⟩, st.put k ses0) else if 40 <= n + 1 then (noR 11, st.put k ses0) else if (Z0j v).2.2 ≠ 0 then (⟨(Z0j v).2.2, 0, (Z0j v).1, [], (Z0j v).2.1⟩, st.put k ses0) else (⟨0, ((n + 1 : Nat) : Int), [], [], []⟩, { st.put k ses0 with states := st.states ++ [v] })) := L0 (by
  unfold Z1a
  rw [HCM.o, HX0.o, <- HOF.o, HFN.o, HN.o, show n + 1 - 1 = n by omega, HHB.o]
  simp only [jB, hv]
  rw [show ((n + 1 : Nat) : Int) - 1 = n by omega])
 clear HFN HW HOF hv hlt2 hj HE9
 by_cases hg0 : x.gone.length = 0
 ·have HCS : Hid (Z1a st k = (⟨0, (n : Int), [], [], []⟩, st.put k ses0)) := L0 (by rw [HCS0.o, if_pos hg0])
  have hq0 : ((x.gone.length : Int) == 0) = true := by rw [beq_iff_eq]; omega
  have s0 := HS0.o
  have hwr : IntKind.i64.wrap ((n : Int) + 1 - 1) = (n : Int) := by rw [IntWalk.i64_in _ (by omega)]; omega
  obtain ⟨W6, e6, HG6, r0, r1, r2, r3, r4⟩ := Z1r (.int .i64 0) (.int .i64 n) (.string ⟨#[]⟩) (nl) (nl) d0 d1 d2 d3 d4
  clear hg0
  go_wp2
  refine Z0g (by rfl) rfl r0 r1 r2 r3 r4 ?_
  rw [HCS.o]
  exact Z6y HAo.o HCO.o HTL.o HCL0.o HG6.o (by unfold InI; omega) (by unfold InI; omega) (by simp)
 have hq0 : ((x.gone.length : Int) == 0) = false := by rw [beq_eq_false_iff_ne]; omega
 by_cases h40 : 40 <= n + 1
 ·have HCS : Hid (Z1a st k = (noR 11, st.put k ses0)) := L0 (by rw [HCS0.o, if_neg hg0, if_pos h40])
  have s0 := HS0.o
  have hq1 : (40 : Int) <= n + 1 := by omega
  obtain ⟨W6, e6, HG6, r0, r1, r2, r3, r4⟩ := Z1r (.int .i64 11) (.int .i64 0) (.string ⟨#[]⟩) (nl) (nl) d0 d1 d2 d3 d4
  clear hg0
  go_wp2
  refine Z0g (by rfl) rfl r0 r1 r2 r3 r4 ?_
  rw [HCS.o]
  exact Z6y HAo.o HCO.o HTL.o HCL0.o HG6.o (by unfold InI; omega) (by unfold InI; omega) (by simp)
 replace HCS0 : Hid (Z1a st k = if (Z0j v).2.2 ≠ 0 then (⟨(Z0j v).2.2, 0, (Z0j v).1, [], (Z0j v).2.1⟩, st.put k ses0) else (⟨0, ((n + 1 : Nat) : Int), [], [], []⟩, { st.put k ses0 with states := st.states ++ [v] })) := L0 (by rw [HCS0.o, if_neg hg0, if_neg h40])
 have s0 := HS0.o
 have hq1 : ¬ (40 : Int) <= n + 1 := by omega
 clear hg0 h40
 obtain ⟨b0, b1⟩ := HBOX.o
 have o0 := HKW.o 0 _ rfl
 have o2 := HKW.o 2 _ rfl
 have o3 := HKW.o 3 _ rfl
 have o4 := HKW.o 4 _ rfl
 have HTW : Hid (∀ q, T q -> q < wo.heap.size) := L0 fun q h => by have := HTL.o q h; have := HSZO.o; omega
 have HNB : Hid (Neat hb 4 4) := L0 (HST.o hb (L0z HHB.o))
 have HVW : Hid (Calls Tryz.prog 23 #[.agg #[.slice A1 hb.doms.length k1', .slice A2 hb.tabs.length k2'], .agg #[.bool x.opn, .bool x.strict, .int .i64 f, .slice D x.mine.doms.length dc, .slice B x.mine.tabs.length bc, .slice G x.gone.length gc, .slice R x.read.length rc]] wo fun e w' => ∃ A3 c3 A4 c4, e = .returned (.agg #[.slice A3 v.doms.length c3, .slice A4 v.tabs.length c4]) /\ rBk.rel w' (fun q => (T q \/ wo.heap.size <= q) /\ q < w'.heap.size) [.slice A3 v.doms.length c3, .slice A4 v.tabs.length c4] v /\ Bw wo w') := L0 (by
  have h1 := Z8v (S := T) wo HRBO.o HRO.o HTW.o HNB.o (by have := HMD.o; omega) (by have := HMT.o; omega)
  refine h1.mono ?_
  rintro e w' ⟨v1, u1, rfl, hr1, hb1⟩
  rw [HV.o] at hr1
  have hr2 := hr1
  obtain ⟨v2, u2, e2, hd, ht⟩ := hr1
  simp only [L1f, and_true] at e2
  obtain ⟨rfl, rfl⟩ := e2
  obtain ⟨A3, c3, rfl, _⟩ := rSl.elems hd
  obtain ⟨A4, c4, rfl, _⟩ := rSl.elems ht
  exact ⟨A3, c3, A4, c4, rfl, rBk.mono hr2 fun q hq hl => ⟨hq, hl⟩, hb1⟩)
 obtain ⟨⟨nm, at_, er⟩, hck⟩ : ∃ z, Z0j v = z := ⟨_, rfl⟩
 have HCK := L0 hck
 rw [hck] at HCS0
 clear hck
 have HQ0 : Hid (w.heap.size < wo.heap.size) := HSZO
 go_upto_region 25 with (first
  | (go_at_call 23; (with_reducible refine HVW.o.mono ?_); rintro e w5 ⟨A3, c3, A4, c4, rfl, hr5, hb5⟩; obtain ⟨W7, e7, HB7, HC7, HR7⟩ : ∃ W7, w5.alloc (.cells #[.slice A3 v.doms.length c3, .slice A4 v.tabs.length c4] 38) = W7 /\ Hid (Bw wo W7) /\ Hid (W7.cell? (zn w5.heap.size 0) = some (.slice A3 v.doms.length c3) /\ W7.cell? (zn w5.heap.size 1) = some (.slice A4 v.tabs.length c4) /\ w5.heap.size < W7.heap.size /\ wo.heap.size <= w5.heap.size) /\ Hid (rBk.rel W7 (fun q => (T q \/ wo.heap.size <= q) /\ q < w5.heap.size) [.slice A3 v.doms.length c3, .slice A4 v.tabs.length c4] v) := ⟨_, rfl, L0 (hb5.alloc hb5.size _), L0 ⟨L0b _ _ _ _, L0b _ _ _ _, by simp, hb5.size⟩, L0 (Rd.alloc hr5 _)⟩; have v0 := ac0 e7; have v1 := ac1 e7; clear hr5 hb5)
  | (go_at_call 64; (with_reducible refine (Z8t W7 HR7.o HCK.o).mono ?_); rintro e w8 ⟨Ak, ck, Sk, rfl, hk8, hb8⟩; have HB8 := L0 hb8; have HK8 := L0 hk8; clear hk8 hb8))
 clear b0 b1 o0 o2 o3 o4 k1 k5 k6 v0 v1 e7 s0 hq0 hq1
 have HNML : Hid (nm.length <= 140737488355328) := L0 (by have := Y4y (rBk.tabs_bd HR7.o); rw [HCK.o] at this; exact this)
 have HBA : Hid (Bw wo w8) := L0 (HB7.o.trans (HB8.o.mono HB7.o.size))
 have hq : w.heap.size < wo.heap.size := HQ0.o
 replace d0 := (HBA.o.ce 0 hq).trans d0
 replace d1 := (HBA.o.ce 1 hq).trans d1
 replace d2 := (HBA.o.ce 2 hq).trans d2
 replace d3 := (HBA.o.ce 3 hq).trans d3
 replace d4 := (HBA.o.ce 4 hq).trans d4
 replace z0 : w8.frozen? (zn w.heap.size 0) = false := (HBA.o.fr 0 hq).trans z0
 replace z1 : w8.frozen? (zn w.heap.size 1) = false := (HBA.o.fr 1 hq).trans z1
 replace z2 : w8.frozen? (zn w.heap.size 2) = false := (HBA.o.fr 2 hq).trans z2
 replace z3 : w8.frozen? (zn w.heap.size 3) = false := (HBA.o.fr 3 hq).trans z3
 replace z4 : w8.frozen? (zn w.heap.size 4) = false := (HBA.o.fr 4 hq).trans z4
 have HA8 : Hid (StoAt w8 sb C T (st.put k ses0)) := L0 (HAo.o.below HBA.o)
 have HC8 : Hid (Chg C w w8) := L0 (HCO.o.trans (.below HBA.o))
 clear hq
 by_cases her : er = 0
 ·subst her
  have HCS : Hid (Z1a st k = (⟨0, (n : Int) + 2 - 1, [], [], []⟩, { st.put k ses0 with states := st.states ++ [v] })) := L0 (by rw [HCS0.o, show (n : Int) + 2 - 1 = ((n + 1 : Nat) : Int) by omega]; rfl)
  obtain ⟨vr, hvc, hown, hvg⟩ := HA8.o.row
  have hs8 := (HBA.o.ce 0 (L0d _ _ HS0.o)).trans HS0.o
  rw [hs8] at hvc
  obtain rfl := L0s hvc
  obtain ⟨W9, e9, HB9, HN9, hs9, v0, v1, HZ9⟩ : ∃ W9, w8.alloc (.cells #[.slice A3 v.doms.length c3, .slice A4 v.tabs.length c4] 38) = W9 /\ Hid (Bw w8 W9.drew) /\ Hid (∀ j u, [Value.slice A3 v.doms.length c3, .slice A4 v.tabs.length c4][j]? = some u -> W9.drew.cell? (((zn w8.heap.size 0) : Addr).add j) = some u) /\ W9.cell? (zn sb 0) = some (.slice (some (zn gr 0)) (n + 1) gc') /\ W9.cell? (zn w5.heap.size 0) = some (.slice A3 v.doms.length c3) /\ W9.cell? (zn w5.heap.size 1) = some (.slice A4 v.tabs.length c4) /\ Hid (W9.heap.size = w8.heap.size + 1) := by
   have hb : Bw w8 (w8.alloc (.cells #[.slice A3 v.doms.length c3, .slice A4 v.tabs.length c4] 38)) := (L0m _ _).alloc (L0g _) _
   have h5 : w5.heap.size < w8.heap.size := L0c HC7.o.2.2.1 HB8.o.size
   refine ⟨_, rfl, L0 (hb.trans ⟨rfl, rfl, rfl, L0g _, fun _ _ => rfl⟩), L0 (Z6q w8 [.slice A3 v.doms.length c3, .slice A4 v.tabs.length c4] 38), (hb.ce 0 (L0d _ _ hs8)).trans hs8, (hb.ce 0 h5).trans ((HB8.o.ce 0 HC7.o.2.2.1).trans HC7.o.1), (hb.ce 1 h5).trans ((HB8.o.ce 1 HC7.o.2.2.1).trans HC7.o.2.1), L0 (by simp)⟩
  have u0 := (HB8.o.ce 0 HC7.o.2.2.1).trans HC7.o.1
  have u1 := (HB8.o.ce 1 HC7.o.2.2.1).trans HC7.o.2.1
  have HS58 : Hid (w5.heap.size < w8.heap.size /\ wo.heap.size <= w5.heap.size) := L0 ⟨L0c HC7.o.2.2.1 HB8.o.size, HC7.o.2.2.2⟩
  have HA9 : Hid (StoAt W9.drew sb C (fun q => (T q \/ wo.heap.size <= q) /\ q < w5.heap.size) (st.put k ses0)) := L0 ((HA8.o.below HB9.o).wide (fun q h => ⟨.inl h, L0c (HTW.o q h) HS58.o.2⟩) (fun q h => L0c (Nat.lt_trans h.2 HS58.o.1) HB9.o.size) fun q h hc => by
   rcases h.1 with h1 | h1
   ·exact HA8.o.ct q h1 hc
   have := HAo.o.cw q hc; omega)
  have HOW : Hid (OwnS rBk 38 W9.drew 0 (fun q => (T q \/ wo.heap.size <= q) /\ q < w5.heap.size) (.slice (some (zn gr 0)) (n + 1) gc') st.states) := L0 (by
   obtain ⟨vr, hvc, hown, _⟩ := HA9.o.row
   rw [show W9.drew.cell? (zn sb 0) = some (.slice (some (zn gr 0)) (n + 1) gc') from hs9] at hvc
   obtain rfl := L0s hvc
   exact hown)
  have HRN : Hid (rBk.rel W9.drew (fun q => (T q \/ wo.heap.size <= q) /\ q < w5.heap.size) [.slice A3 v.doms.length c3, .slice A4 v.tabs.length c4] v) := L0 (jC (jC HR7.o HB8.o) HB9.o)
  have HTB : Hid (∀ b, (T b \/ wo.heap.size <= b) /\ b < w5.heap.size -> b < W9.drew.heap.size) := L0 fun b h => L0c (Nat.lt_trans h.2 HS58.o.1) HB9.o.size
  have HBY : Hid ((st.states.length + 1) * rBk.bytes <= 140737488355328) := L0 (by rw [HN.o]; simp only [rBk]; omega)
  have HGC : Hid (C gr /\ gr ≠ sb) := L0 (hvg gr rfl)
  have hf8 : w8.frozen? (zn sb 0) = false := HA8.o.frz 0
  have hf9 : W9.drew.frozen? (zn sb 0) = false := HA9.o.frz 0
  have HQ4 : Hid (some w.heap.size ≠ some gr /\ some w.heap.size ≠ some sb) := L0 ⟨fun e => by injection e with e; have := HCL0.o _ HGC.o.1; omega, fun e => by injection e with e; have := HSL.o; omega⟩
  have HD : Hid ((w8.cell? (zn w.heap.size 0) = some (.int .i64 0) /\ w8.cell? (zn w.heap.size 1) = some (.int .i64 0) /\ w8.cell? (zn w.heap.size 2) = some (.string ⟨#[]⟩) /\ w8.cell? (zn w.heap.size 3) = some (nl) /\ w8.cell? (zn w.heap.size 4) = some (nl)) /\ w8.frozen? (zn w.heap.size 0) = false /\ w8.frozen? (zn w.heap.size 1) = false /\ w8.frozen? (zn w.heap.size 2) = false /\ w8.frozen? (zn w.heap.size 3) = false /\ w8.frozen? (zn w.heap.size 4) = false) := L0 ⟨⟨d0, d1, d2, d3, d4⟩, z0, z1, z2, z3, z4⟩
  clear hvc hown hvg d0 d1 d2 d3 d4 z0 z1 z2 z3 z4
  go_upto_region 27 with fail
  go_region_law (first
   | (refine Z3c (R := rBk) (x := v) X2d rfl (.tmp 137) (.tmp 139) rfl rfl (by exact HOW.o) (zn w8.heap.size 0) 1 [.slice A3 v.doms.length c3, .slice A4 v.tabs.length c4] rfl (by exact HRN.o) (by exact HTB.o) (by exact HN9.o) (by exact HBY.o) (L0o _) ?_; intro v10 w10 hown10 hg10 hv10; obtain ⟨A10, c10, rfl⟩ := hown10.value; have h10 := hg10.cell (show W9.drew.cell? (zn sb 0) = _ from hs9) (show some sb ≠ some gr from fun e => by (injection e with e; exact HGC.o.2 e.symm)); have hf10 : w10.frozen? (zn sb 0) = false := (L1a (hg10.block sb HA9.o.lt (fun e => by (injection e with e; exact HGC.o.2 e.symm)))).trans hf9; have HO10 := L0 hown10; have HG10 := L0 hg10; have HV10 := L0 hv10; clear hown10 hg10 hv10))
  all_goals
   have hle : (st.states ++ [v]).length = st.states.length + 1 := by simp
   rw [hle] at HO10 HV10
   clear hle
   have hpush := HA9.o.push (show W9.drew.cell? (zn sb 0) = _ from hs9) HG10.o HO10.o HV10.o
   have hq9 : w.heap.size < W9.drew.heap.size := by have := HBA.o.size; have := HB9.o.size; have := HQ0.o; omega
   have hG11 : w10.grownBy (w10.setCell (zn sb 0) (.slice A10 (st.states.length + 1) c10)) (some sb) := Z0b [.slice A10 (st.states.length + 1) c10] 0
   have hk9 : ∀ j u, w8.cell? (zn w.heap.size j) = some u -> (w10.setCell (zn sb 0) (.slice A10 (st.states.length + 1) c10)).cell? (zn w.heap.size j) = some u := fun j u hu => hG11.cell (HG10.o.cell ((HB9.o.ce j (L0d _ _ hu)).trans hu) HQ4.o.1) HQ4.o.2
   have hf9' : ∀ j, w8.frozen? (zn w.heap.size j) = false -> (w10.setCell (zn sb 0) (.slice A10 (st.states.length + 1) c10)).frozen? (zn w.heap.size j) = false := fun j hu => by
    rw [L0k]
    exact (L1a (HG10.o.block w.heap.size hq9 HQ4.o.1)).trans ((HB9.o.frozen (p := (zn w.heap.size j)) (by have := HBA.o.size; have := HQ0.o; show w.heap.size < _; omega)).trans hu)
   obtain ⟨⟨x0, x1, x2, x3, x4⟩, y0, y1, y2, y3, y4⟩ := HD.o
   obtain ⟨W11, e11, HA11, HC11, s11, d0, d1, d2, d3, d4, z0, z1, z2, z3, z4⟩ : ∃ W11, w10.setCell (zn sb 0) (.slice A10 (st.states.length + 1) c10) = W11 /\ Hid (StoAt W11 sb (fun q => C q \/ (Value.slice A10 (st.states.length + 1) c10).ownBlock = some q) (fun q => (T q \/ wo.heap.size <= q) /\ q < w5.heap.size) { st.put k ses0 with states := st.states ++ [v] }) /\ Hid (Chg C w W11) /\ W11.cell? (zn sb 0) = some (.slice A10 (n + 2) c10) /\ W11.cell? (zn w.heap.size 0) = some (.int .i64 0) /\ W11.cell? (zn w.heap.size 1) = some (.int .i64 0) /\ W11.cell? (zn w.heap.size 2) = some (.string ⟨#[]⟩) /\ W11.cell? (zn w.heap.size 3) = some (nl) /\ W11.cell? (zn w.heap.size 4) = some (nl) /\ W11.frozen? (zn w.heap.size 0) = false /\ W11.frozen? (zn w.heap.size 1) = false /\ W11.frozen? (zn w.heap.size 2) = false /\ W11.frozen? (zn w.heap.size 3) = false /\ W11.frozen? (zn w.heap.size 4) = false := by
    refine ⟨_, rfl, L0 hpush, L0 (((HC8.o.trans (.below HB9.o)).trans (.grown HG10.o fun g hg => by injection hg with hg; subst hg; exact .inl HGC.o.1)).trans (.grown hG11 fun g hg => by injection hg with hg; subst hg; exact .inl HCSB.o)), ?_, hk9 0 _ x0, hk9 1 _ x1, hk9 2 _ x2, hk9 3 _ x3, hk9 4 _ x4, hf9' 0 y0, hf9' 1 y1, hf9' 2 y2, hf9' 3 y3, hf9' 4 y4⟩
    rw [L0e _ _ _ h10, HN.o]
   rw [e11]
   have HV11 : Hid (∀ q, (Value.slice A10 (st.states.length + 1) c10).ownBlock = some q -> q = gr \/ q = W9.heap.size) := L0 fun q hq => by
    rcases HV10.o with h | h
    ·rw [hq] at h
     injection h with h
     exact .inl h
    rw [hq] at h
    injection h with h
    exact .inr h
   clear e11 hk9 hf9' hG11 hpush x0 x1 x2 x3 x4 y0 y1 y2 y3 y4 h10 hf10 hf8 hf9 u0 u1 v0 v1 hs9 hs8
   obtain ⟨W6, e6, HG6, r0, r1, r2, r3, r4⟩ := Z1r (.int .i64 0) (.int .i64 ((n : Int) + 2 - 1)) (.string ⟨#[]⟩) (nl) (nl) d0 d1 d2 d3 d4
   go_wp2
   refine Z0g (by rfl) rfl r0 r1 r2 r3 r4 ?_
   rw [HCS.o]
   refine ⟨[.int .i64 0, .int .i64 ((n : Int) + 2 - 1), .string ⟨#[]⟩, nl, nl], _, _, rfl, Z2q (show InI 0 from ⟨by decide, by decide⟩) (by unfold InI; omega) (by simp), HA11.o.away HG6.o ⟨fun h => ?_, fun h => ?_⟩, HC11.o.next (C' := fun b => b = w.heap.size) (.grown HG6.o fun g hg => by injection hg with hg; exact .inl hg.symm) (fun b hb => .inr (by omega)), fun q h => ?_, fun q h => ?_⟩
   ·rcases h.1 with h1 | h1
    ·have := HTL.o _ h1; omega
    have := HQ0.o; omega
   ·rcases h with h1 | h1
    ·have := HCL0.o _ h1; omega
    rcases HV11.o _ h1 with h2 | h2
    ·exact HQ4.o.1 (by rw [h2])
    have : W9.drew.heap.size = W9.heap.size := rfl
    omega
   ·rcases h with h1 | h1
    ·exact .inl h1
    rcases HV11.o _ h1 with h2 | h2
    ·exact .inl (h2 ▸ HGC.o.1)
    exact .inr (by have : W9.drew.heap.size = W9.heap.size := rfl; omega)
   exact h.1.imp id fun h1 => by have := HQ0.o; omega
 have HCS : Hid (Z1a st k = (⟨er, 0, nm, [], at_⟩, st.put k ses0)) := L0 (by rw [HCS0.o]; simp only [ne_eq, her, not_false_eq_true, if_true])
 have hq2 : (er != 0) = true := bne_iff_ne.2 her
 have HER : Hid (InI er) := L0 (by have := Y29 v; rw [HCK.o] at this; dsimp only at this; unfold InI; omega)
 obtain ⟨W6, e6, HG6, r0, r1, r2, r3, r4⟩ := Z1r (.int .i64 er) (.int .i64 0) (sq nm) (nl) (.slice Ak at_.length ck) d0 d1 d2 d3 d4
 clear her
 go_wp2
 refine Z0g (by rfl) rfl r0 r1 r2 r3 r4 ?_
 rw [HCS.o]
 exact act_at HA8.o HC8.o HTL.o HCL0.o HG6.o HER.o HNML.o HK8.o (L0c HQ0.o HB7.o.size) HB8.o.size
