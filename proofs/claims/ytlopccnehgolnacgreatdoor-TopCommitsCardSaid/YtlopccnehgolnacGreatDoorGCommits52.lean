import Derived.Test.YtlopccnehgolnacGreatDoorGCommits49
import Derived.Deep.MidRow
namespace Go.Proofs.YtlopccnehgolnacGreatDoor
open Go.RowKit Rb
open Go.Lib renaming hid -> hI
open Go.World renaming cell?_alloc_new -> cN, cell?_setCell_other -> cO, cell?_setCell_same -> cS, cell?_alloc_lt -> cL, block_lt_of_cell? -> bC, cell?_of_block -> jR, frozen?_of_block -> jS, frozen?_setCell -> jT, setCell -> jU
open Nat renaming lt_of_lt_of_le -> nL, le_refl -> nR, lt_succ_self -> jN, zero_le -> jO
open List renaming take_of_length_le -> tL, drop_append -> jB, drop_eq_nil_of_le -> jC, drop_zero -> jD, getElem?_append_left -> jE, getElem?_append_right -> jF, getElem?_eq_some_iff -> jG, length_append -> jH, nil_append -> jI, setIfInBounds_toArray -> jJ, set_cons_succ -> jK, set_cons_zero -> jL, take_append_of_le_length -> jM
open Go.RowKit.Below renaming refl -> jA
open Option renaming some -> jP
open Rd renaming below -> jQ
set_option maxRecDepth 100000
set_option maxHeartbeats 12800000
structure CapAt (w : World) (X Y : Nat) (R : Nat -> Prop) (l : List Bk) (x : Nat -> Ses) : Prop where
 row : ∃ v, w.cell? ⟨Y, 0, none⟩ = some v /\ (rSl rBk).rel w R [v] l
 ses : ∀ k, k < 4 -> SesAt w X (k * 7) R (x k)
 frz : ∀ j, w.frozen? ⟨X, j, none⟩ = false /\ w.frozen? ⟨Y, j, none⟩ = false
 ne : X ≠ Y
 lt : X < w.heap.size /\ Y < w.heap.size
 nr : ¬ R X /\ ¬ R Y
 rw : ∀ q, R q -> q < w.heap.size
theorem CapAt.keep {w w' : World} {X Y : Nat} {R : Nat -> Prop} {l : List Bk} {x : Nat -> Ses} (h : CapAt w X Y R l x) (hk : Keeps (fun q => R q \/ q = X \/ q = Y) w w') (hz : w.heap.size <= w'.heap.size) : CapAt w' X Y R l x := by
 obtain ⟨v, h1, h2⟩ := h.row
 exact ⟨⟨v, hk.cell (a := ⟨Y, 0, none⟩) (.inr (.inr rfl)) h1, (rSl rBk).keep h2 fun b hb hl => hk b (.inl hb) hl⟩, fun k hk4 => (h.ses k hk4).keep fun b hb hl => hk b (hb.imp id .inl) hl,
  fun j => ⟨(jS (a := ⟨X, j, none⟩) (hk X (.inr (.inl rfl)) h.lt.1)).trans (h.frz j).1, (jS (a := ⟨Y, j, none⟩) (hk Y (.inr (.inr rfl)) h.lt.2)).trans (h.frz j).2⟩, h.ne, ⟨nL h.lt.1 hz, nL h.lt.2 hz⟩, h.nr, fun q hq => nL (h.rw q hq) hz⟩
theorem CapAt.below {w w' : World} {X Y : Nat} {R : Nat -> Prop} {l : List Bk} {x : Nat -> Ses} (h : CapAt w X Y R l x) (hb : Below w.heap.size w w') : CapAt w' X Y R l x := h.keep (.of_below hb) hb.size
theorem Y60 {w : World} {X o : Nat} {T T' : Nat -> Prop} {x x' : Ses} {v0 v1 v2 v3 v4 v5 v6 : Value} (hx : SesAt w X o T x) (hr : rSes.rel w T' [v0, v1, v2, v3, v4, v5, v6] x') (hT : ¬ T' X) :
  ∃ W, ((((((w.setCell ⟨X, o, none⟩ v0).setCell ⟨X, o + 1, none⟩ v1).setCell ⟨X, o + 2, none⟩ v2).setCell ⟨X, o + 3, none⟩ v3).setCell ⟨X, o + 4, none⟩ v4).setCell ⟨X, o + 5, none⟩ v5).setCell ⟨X, o + 6, none⟩ v6 = W /\ Hid (SesAt W X o T' x') /\ Hid (Wrote X o w W) /\ Hid (W.heap.size = w.heap.size) := by
 obtain ⟨D, dc, B, bc, G, gc, R, rc, _, c0, c1, c2, c3, c4, c5, c6⟩ := hx.out
 refine ⟨_, rfl, hI ⟨[v0, v1, v2, v3, v4, v5, v6], rSes.keep hr (.grown (Z0c [v0, v1, v2, v3, v4, v5, v6] o : w.grownBy (w.setCells X o [v0, v1, v2, v3, v4, v5, v6]) (some X)) fun g hg h => by injection hg with hg; subst hg; exact hT h), fun j u hu => ?_⟩, hI ?_, hI (by simp [jU])⟩
 ·match j, hu with
  | 0, hu => obtain rfl := jP.inj hu; exact (cO _ _ _ _ (by simp)).trans ((cO _ _ _ _ (by simp)).trans ((cO _ _ _ _ (by simp)).trans ((cO _ _ _ _ (by simp)).trans ((cO _ _ _ _ (by simp)).trans ((cO _ _ _ _ (by simp)).trans (cS _ _ _ c0))))))
  | 1, hu => obtain rfl := jP.inj hu; exact (cO _ _ _ _ (by simp)).trans ((cO _ _ _ _ (by simp)).trans ((cO _ _ _ _ (by simp)).trans ((cO _ _ _ _ (by simp)).trans ((cO _ _ _ _ (by simp)).trans (cS _ _ _ ((cO _ _ _ _ (by simp)).trans c1))))))
  | 2, hu => obtain rfl := jP.inj hu; exact (cO _ _ _ _ (by simp)).trans ((cO _ _ _ _ (by simp)).trans ((cO _ _ _ _ (by simp)).trans ((cO _ _ _ _ (by simp)).trans (cS _ _ _ ((cO _ _ _ _ (by simp)).trans ((cO _ _ _ _ (by simp)).trans c2))))))
  | 3, hu => obtain rfl := jP.inj hu; exact (cO _ _ _ _ (by simp)).trans ((cO _ _ _ _ (by simp)).trans ((cO _ _ _ _ (by simp)).trans (cS _ _ _ ((cO _ _ _ _ (by simp)).trans ((cO _ _ _ _ (by simp)).trans ((cO _ _ _ _ (by simp)).trans c3))))))
  | 4, hu => obtain rfl := jP.inj hu; exact (cO _ _ _ _ (by simp)).trans ((cO _ _ _ _ (by simp)).trans (cS _ _ _ ((cO _ _ _ _ (by simp)).trans ((cO _ _ _ _ (by simp)).trans ((cO _ _ _ _ (by simp)).trans ((cO _ _ _ _ (by simp)).trans c4))))))
  | 5, hu => obtain rfl := jP.inj hu; exact (cO _ _ _ _ (by simp)).trans (cS _ _ _ ((cO _ _ _ _ (by simp)).trans ((cO _ _ _ _ (by simp)).trans ((cO _ _ _ _ (by simp)).trans ((cO _ _ _ _ (by simp)).trans ((cO _ _ _ _ (by simp)).trans c5))))))
  | 6, hu => obtain rfl := jP.inj hu; exact cS _ _ _ ((cO _ _ _ _ (by simp)).trans ((cO _ _ _ _ (by simp)).trans ((cO _ _ _ _ (by simp)).trans ((cO _ _ _ _ (by simp)).trans ((cO _ _ _ _ (by simp)).trans ((cO _ _ _ _ (by simp)).trans c6))))))
  | j + 7, hu => simp at hu
 ·exact ((((((Wrote.set 0 (by decide) _).trans (.set 1 (by decide) _)).trans (.set 2 (by decide) _)).trans (.set 3 (by decide) _)).trans (.set 4 (by decide) _)).trans (.set 5 (by decide) _)).trans (.set 6 (by decide) _)
theorem Y4h {st : Sto} (_hne : 0 < st.states.length) (a : Acn) : (doS st a).2.states = st.states \/ ∃ k : Nat, k < 4 /\ a.n = k /\ a.kind = 6 /\ (doS st a).1.code = 0 /\ (doS st a).1.n = st.states.length /\ (doS st a).2.states = st.states ++ [Z2l ((st.states[st.states.length - 1]?).getD bk0) (st.ses k)] := by
 unfold doS
 split
 ·exact .inl rfl
 split
 ·exact .inl rfl
 split
 ·unfold Z40
  split
  ·exact .inl rfl
  ·split <;> exact .inl rfl
 split
 ·exact .inl rfl
 rename_i h4
 split
 ·exact .inl rfl
 unfold Y0c
 split
 ·exact .inl rfl
 split
 ·exact .inl rfl
 split
 ·exact .inl rfl
 split
 ·exact .inl rfl
 split
 ·rename_i h6
  unfold Z1v
  split
  ·exact .inl rfl
  ·split
   ·exact .inl rfl
   ·split
    ·exact .inl rfl
    ·split
     ·exact .inl rfl
     ·simp only [not_or] at h4
      exact .inr ⟨a.n.toNat, by omega, by omega, h6, rfl, rfl, rfl⟩
 ·exact .inl rfl
theorem X1b {st : Sto} (h : ∀ k, (st.ses k).opn = false) (a : Acn) : (doS st a).2.states = st.states := by
 unfold doS
 split
 ·rfl
 split
 ·rfl
 split
 ·unfold Z40
  split
  ·rfl
  ·split <;> rfl
 split
 ·rfl
 ·rename_i h4
  exact absurd (.inr (.inr (h _))) h4
theorem Z3v {w : World} {X o : Nat} {a b : List Value} (ha : w.rangeAt X o a) (hb : w.rangeAt X (o + a.length) b) : w.rangeAt X o (a ++ b) := by
 intro j v hv
 rcases Nat.lt_or_ge j a.length with h | h
 ·rw [jE h] at hv
  exact ha j v hv
 ·rw [jF h] at hv
  have := hb _ v hv
  rwa [show o + a.length + (j - a.length) = o + j by omega] at this
theorem Y0w {w : World} {X o : Nat} {R : Nat -> Prop} {x : Ses} (h : SesAt w X o R x) : ∃ ys : List Value, rSes.rel w R ys x /\ ys.length = 7 /\ (∀ v ∈ ys, v.oneCell' = true) /\ w.rangeAt X o ys := by
 obtain ⟨xs, hr, hc⟩ := h
 exact ⟨xs, hr, rSes.len hr, rSes.one hr, hc⟩
theorem Y8v {w : World} {X : Nat} {R : Nat -> Prop} {x : Nat -> Ses} (h : ∀ k, k < 4 -> SesAt w X (k * 7) R (x k)) : ∃ vs : List Value, vs.length = 28 /\ (∀ v ∈ vs, v.oneCell' = true) /\ w.rangeAt X 0 vs /\ ∀ k, k < 4 -> rSes.rel w R ((vs.drop (k * 7)).take 7) (x k) := by
 obtain ⟨a, ra, la, oa, ca⟩ := Y0w (h 0 (by decide))
 obtain ⟨b, rb, lb, ob, cb⟩ := Y0w (h 1 (by decide))
 obtain ⟨c, rc, lc, oc, cc⟩ := Y0w (h 2 (by decide))
 obtain ⟨d, rd, ld, od, cd⟩ := Y0w (h 3 (by decide))
 refine ⟨a ++ (b ++ (c ++ d)), by simp [la, lb, lc, ld], fun v hv => ?_, Z3v ca (Z3v (by rw [la]; exact cb) (Z3v (by rw [la, lb]; exact cc) (by rw [la, lb, lc]; exact cd))), fun k hk => ?_⟩
 ·simp only [List.mem_append] at hv
  rcases hv with hv | hv | hv | hv
  ·exact oa v hv
  ·exact ob v hv
  ·exact oc v hv
  ·exact od v hv
 ·match k, hk with
  | 0, _ => rw [show 0 * 7 = 0 from rfl, jD, jM (by omega), tL (by omega)]; exact ra
  | 1, _ => rw [show 1 * 7 = 7 from rfl, jB, jC (by omega), jI, la, jD, jM (by omega), tL (by omega)]; exact rb
  | 2, _ => rw [show 2 * 7 = 14 from rfl, jB, jC (by omega), jI, la, jB, jC (by omega), jI, lb, jD, jM (by omega), tL (by omega)]; exact rc
  | 3, _ => rw [show 3 * 7 = 21 from rfl, jB, jC (by omega), jI, la, jB, jC (by omega), jI, lb, jB, jC (by omega), jI, lc, jD, tL (by omega)]; exact rd
theorem Y3d {w W : World} {n : Nat} {R : Nat -> Prop} {x : Nat -> Ses} {vs : List Value} (hb : Below w.heap.size w W) (hr : ∀ k, k < 4 -> rSes.rel w R ((vs.drop (k * 7)).take 7) (x k)) (hc : W.rangeAt n 0 vs) : ∀ k, k < 4 -> SesAt W n (k * 7) R (x k) := by
 intro k hk
 refine ⟨_, jQ (hr k hk) hb, fun j u hu => ?_⟩
 have hj : j < 7 := by
  have := (jG.1 hu).1
  rw [List.length_take] at this
  omega
 rw [List.getElem?_take, if_pos hj, List.getElem?_drop] at hu
 have := hc _ u hu
 rwa [Nat.zero_add] at this
theorem X1l (w : World) (zs : Array Value) (hz : zs.size = 28) (vs : List Value) (hl : vs.length = 28) : (w.alloc (.cells zs 53)).drew.there w.heap.size 0 vs.toArray.size /\ Below w.heap.size w ((w.alloc (.cells zs 53)).drew.setCells w.heap.size 0 vs) /\ ((w.alloc (.cells zs 53)).drew.setCells w.heap.size 0 vs).rangeAt w.heap.size 0 vs /\ w.heap.size < ((w.alloc (.cells zs 53)).drew.setCells w.heap.size 0 vs).heap.size := by
 have ht : (w.alloc (.cells zs 53)).drew.there w.heap.size 0 vs.toArray.size := fun j hj => by
  have hj' : j < zs.size := by rw [hz, <- hl]; simpa using hj
  constructor
  ·have : (w.alloc (.cells zs 53)).drew.cell? ⟨w.heap.size, 0 + j, none⟩ = zs[j]? := by rw [Nat.zero_add]; exact cN _ _ _ _
   rw [this]
   simp [hj']
  ·show (w.alloc (.cells zs 53)).frozen? ⟨w.heap.size, 0 + j, none⟩ = false
   simp
 have hs := Z3y w.heap.size vs 0 (w.alloc (.cells zs 53)).drew
 have h1 : w.heap.size < (w.alloc (.cells zs 53)).drew.heap.size := by show w.heap.size < (w.alloc _).heap.size; simp
 refine ⟨ht, ?_, ?_, by rw [hs]; exact h1⟩
 ·exact Below.setCellsR (nR _) _ _ _ (bA.trans ⟨rfl, rfl, rfl, nR _, fun _ _ => rfl⟩)
 ·exact World.rangeAt_setCells_same _ _ _ _ fun j hj => by simpa using ht j (by simpa using hj)
structure CmI (w2 wr : World) (X Y n : Nat) (R : Nat -> Prop) (u : Value) (x : Nat -> Ses) (st : Sto) (k : Nat) : Prop where
 chg : Chg (fun q => q = X \/ q = Y) w2 wr
 row : wr.cell? ⟨Y, 0, none⟩ = some u /\ (rSl rBk).rel wr (fun q => n <= q) [u] st.states
 sesN : ∀ j, j < k -> j < 4 -> SesAt wr X (j * 7) (fun q => n <= q) (st.ses j)
 sesO : ∀ j, k <= j -> j < 4 -> SesAt wr X (j * 7) R (x j)
 own : ∀ j, j < 4 -> SesAt wr w2.heap.size (j * 7) R (x j)
 sz : w2.heap.size < wr.heap.size
 frz : ∀ j, wr.frozen? ⟨X, j, none⟩ = false /\ wr.frozen? ⟨Y, j, none⟩ = false
theorem CmI.below {w2 wr w' : World} {X Y n : Nat} {R : Nat -> Prop} {u : Value} {x : Nat -> Ses} {st : Sto} {k : Nat} (h : CmI w2 wr X Y n R u x st k) (hX : X < w2.heap.size /\ Y < w2.heap.size) (hb : Below wr.heap.size wr w') : CmI w2 w' X Y n R u x st k :=
 have hz := h.chg.size
 ⟨h.chg.trans (.below hb), ⟨(hb.ce 0 (nL hX.2 hz)).trans h.row.1, jQ h.row.2 hb⟩, fun j h1 h2 => (h.sesN j h1 h2).below hb, fun j h1 h2 => (h.sesO j h1 h2).below hb, fun j h1 => (h.own j h1).below hb, nL h.sz hb.size,
  fun j => ⟨(hb.fr j (nL hX.1 hz)).trans (h.frz j).1, (hb.fr j (nL hX.2 hz)).trans (h.frz j).2⟩⟩
theorem CmI.step {w2 wr w' : World} {X Y n : Nat} {R : Nat -> Prop} {u : Value} {x : Nat -> Ses} {st : Sto} {k : Nat} (h : CmI w2 wr X Y n R u x st k) (hX : X < w2.heap.size /\ Y < w2.heap.size) (hne : X ≠ Y) (hn : X < n) (hRX : ¬ R X) (hw : Wrote X (k * 7) wr w') (hs : SesAt w' X (k * 7) (fun q => n <= q) (st.ses k)) : CmI w2 w' X Y n R u x st (k + 1) := by
 have hY : w'.heap[Y]? = wr.heap[Y]? := hw.hg.block Y (nL hX.2 h.chg.size) (fun e => hne (jP.inj e).symm)
 have hO : w2.heap.size ≠ X := fun e => by have := hX.1; omega
 refine ⟨h.chg.trans (hw.chg (.inl rfl)), ⟨(jR (a := ⟨Y, 0, none⟩) hY).trans h.row.1, (rSl rBk).keep h.row.2 (hw.keeps (by omega))⟩, fun j h1 h2 => ?_, fun j h1 h2 => ?_, fun j h1 => ?_, nL h.sz hw.hg.size, fun j => ⟨(hw.frz j).trans (h.frz j).1, (jS (a := ⟨Y, j, none⟩) hY).trans (h.frz j).2⟩⟩
 ·by_cases hj : j = k
  ·subst hj; exact hs
  ·exact (h.sesN j (by omega) h2).other hw.hg (by omega) fun i hi => hw.cell _ (by omega)
 ·exact (h.sesO j (by omega) h2).other hw.hg hRX fun i hi => hw.cell _ (by omega)
 ·refine (h.own j h1).keep fun b hb hl => hw.hg.block b hl fun e => ?_
  obtain rfl := jP.inj e
  rcases hb with hb | hb
  ·exact hRX hb
  ·exact hO hb.symm
theorem CmI.cap {w2 wr : World} {X Y n : Nat} {R : Nat -> Prop} {u : Value} {x : Nat -> Ses} {st : Sto} (h : CmI w2 wr X Y n R u x st 4) (hX : X < w2.heap.size /\ Y < w2.heap.size) (hne : X ≠ Y) (hn : X < n /\ Y < n) : CapAt wr X Y (fun q => n <= q /\ q < wr.heap.size) st.states st.ses :=
 ⟨⟨u, h.row.1, (rSl rBk).mono h.row.2 fun _ hq hl => ⟨hq, hl⟩⟩, fun k hk => (h.sesN k hk hk).mono fun _ hq hl => ⟨hq, hl⟩, h.frz, hne, ⟨nL hX.1 h.chg.size, nL hX.2 h.chg.size⟩, ⟨fun h => by have := h.1; omega, fun h => by have := h.1; omega⟩, fun _ h => h.2⟩
theorem Y01 {w0 : World} {C T R I I' : Nat -> Prop} {sb X Y : Nat} {st' : Sto} {l : List Bk} {x : Nat -> Ses} {a : Acn} {r : Rep} {as' rs : List Value} (w : World) (hA : At w0 w sb C T st') (hl : LibW w0) (hp : PolW w0) (hc : CapAt w X Y R l x) (hR : ∀ q, (R q \/ q = X \/ q = Y) -> ¬ C q /\ ¬ T q /\ w0.heap.size <= q) (ha : rAcn.rel w I as' a) (hr : rRep.rel w I' rs r)
  (hcase : (l = [] /\ st'.states.length = 1) \/ (0 < l.length /\ (st'.states = l \/ ∃ k : Nat, k < 4 /\ a.n = k /\ a.kind = 6 /\ r.code = 0 /\ r.n = l.length /\ st'.states = l ++ [Z2l ((l[l.length - 1]?).getD bk0) (x k)] /\ (∀ b ∈ l, Neat b 4 4) /\ Neat (x k).mine 1000 1000))) :
  Calls Tryz.prog 21 #[.pointer (some ⟨sb, 0, none⟩), .agg as'.toArray, .agg rs.toArray, .pointer (some ⟨Y, 0, none⟩), .pointer (some ⟨X, 0, none⟩)] w fun e w' => ∃ R', e = .returned (.bool true) /\ At w0 w' sb C T st' /\ CapAt w' X Y R' st'.states st'.ses /\ ∀ q, (R' q \/ q = X \/ q = Y) -> ¬ C q /\ ¬ T q /\ w0.heap.size <= q := by
 obtain ⟨au, rfl, _, _, _, _, hai⟩ := ha
 obtain ⟨AI, aic, rfl, _⟩ := rSl.elems hai
 obtain ⟨RA, rac, RB, rbc, rfl⟩ := Z41 hr
 obtain ⟨W1, e1, HB1, HZ1, p0, p1, q0, q1⟩ : ∃ W1, (w.alloc (.cells #[.int .i64 a.kind, .int .i64 a.n, .string ⟨a.name.toArray⟩, .string ⟨a.text.toArray⟩, .slice AI a.inp.length aic] 24)).alloc (.cells #[.int .i64 r.code, .int .i64 r.n, .string ⟨r.text.toArray⟩, .slice RA r.ans.length rac, .slice RB r.at'.length rbc] 30) = W1 /\ Hid (Below w.heap.size w W1) /\ Hid (W1.heap.size = w.heap.size + 2) /\ W1.cell? ⟨w.heap.size, 0, none⟩ = some (.int .i64 a.kind) /\ W1.cell? ⟨w.heap.size, 1, none⟩ = some (.int .i64 a.n) /\ W1.cell? ⟨w.heap.size + 1, 0, none⟩ = some (.int .i64 r.code) /\ W1.cell? ⟨w.heap.size + 1, 1, none⟩ = some (.int .i64 r.n) := by
  have z1 : (w.alloc (.cells #[.int .i64 a.kind, .int .i64 a.n, .string ⟨a.name.toArray⟩, .string ⟨a.text.toArray⟩, .slice AI a.inp.length aic] 24)).heap.size = w.heap.size + 1 := by simp
  refine ⟨_, rfl, hI (bA.alloc (by simp) _), hI (by simp), ?_, ?_, ?_, ?_⟩
  all_goals first
   | exact (cL _ _ _ (by simp)).trans (cN _ _ _ _)
   | (rw [<- z1]; exact cN _ _ _ _)
 have hcw := hc.lt
 have HA := hI (hA.below HB1.out)
 have HC := hI (hc.below HB1.out)
 have HL := hI hl
 have HP := hI hp
 have HR := hI hR
 have HCS := hI hcase
 have HST := hI (Z89 W1 HA.out.sto)
 clear hA hl hp hc hR hr hai hcase
 go_enter Tryz.func21, Tryz.ntmps21
 go_upto_region 2 with (first
  | (go_at_call 12; (with_reducible refine HST.out.mono ?_); rintro e w2 ⟨u1, rfl, ho1, hb1⟩; obtain ⟨U1, uc1, e1'⟩ := ho1.value; subst e1'; have HO1 := hI ho1; have HB2 := hI hb1; clear ho1 hb1))
 have HC2 := hI (HC.out.below HB2.out)
 obtain ⟨v0, hv0, hvr⟩ := HC2.out.row
 obtain ⟨V0, vc0, rfl, _, _, hby0, hvE⟩ := rSl.elems hvr
 have HVR := hI hvr
 clear hvr hvE
 obtain ⟨vs, hvl, hvo, hvc, hvr'⟩ := Y8v HC2.out.ses
 have hvu := Tryz.underlying53
 have hvi : (Tryz.prog.info? 53).map (·.size) = some vs.length := by rw [hvl]; kernel_rfl
 obtain ⟨h28a, h28b, h28c, h28d⟩ := X1l w2 #[.bool false, .bool false, .int .i64 0, .slice none 0 0, .slice none 0 0, .slice none 0 0, .slice none 0 0, .bool false, .bool false, .int .i64 0, .slice none 0 0, .slice none 0 0, .slice none 0 0, .slice none 0 0, .bool false, .bool false, .int .i64 0, .slice none 0 0, .slice none 0 0, .slice none 0 0, .slice none 0 0, .bool false, .bool false, .int .i64 0, .slice none 0 0, .slice none 0 0, .slice none 0 0, .slice none 0 0] rfl vs hvl
 rw [show vs.toArray.size = 28 by simpa using hvl] at h28a
 have HBB := hI h28b
 have HBR := hI (Y3d h28b hvr' h28c)
 have HBZ := hI h28d
 have hYlt : Y < w2.heap.size := HC2.out.lt.2
 have hXlt : X < w2.heap.size := HC2.out.lt.1
 have HS1 : Hid (w2.drew.rangeAt X 0 vs /\ w2.drew.cell? ⟨Y, 0, none⟩ = some (.slice V0 l.length vc0)) := hI ⟨hvc, hv0⟩
 have HS2 : Hid ((w2.alloc (.cells #[.bool false, .bool false, .int .i64 0, .slice none 0 0, .slice none 0 0, .slice none 0 0, .slice none 0 0, .bool false, .bool false, .int .i64 0, .slice none 0 0, .slice none 0 0, .slice none 0 0, .slice none 0 0, .bool false, .bool false, .int .i64 0, .slice none 0 0, .slice none 0 0, .slice none 0 0, .slice none 0 0, .bool false, .bool false, .int .i64 0, .slice none 0 0, .slice none 0 0, .slice none 0 0, .slice none 0 0] 53)).drew.rangeAt X 0 vs /\ (w2.alloc (.cells #[.bool false, .bool false, .int .i64 0, .slice none 0 0, .slice none 0 0, .slice none 0 0, .slice none 0 0, .bool false, .bool false, .int .i64 0, .slice none 0 0, .slice none 0 0, .slice none 0 0, .slice none 0 0, .bool false, .bool false, .int .i64 0, .slice none 0 0, .slice none 0 0, .slice none 0 0, .slice none 0 0, .bool false, .bool false, .int .i64 0, .slice none 0 0, .slice none 0 0, .slice none 0 0, .slice none 0 0] 53)).drew.cell? ⟨Y, 0, none⟩ = some (.slice V0 l.length vc0)) := hI ⟨fun j v h => (cL _ _ _ hXlt).trans (hvc j v h), (cL _ _ _ hYlt).trans hv0⟩
 have HS3 : Hid (((w2.alloc (.cells #[.bool false, .bool false, .int .i64 0, .slice none 0 0, .slice none 0 0, .slice none 0 0, .slice none 0 0, .bool false, .bool false, .int .i64 0, .slice none 0 0, .slice none 0 0, .slice none 0 0, .slice none 0 0, .bool false, .bool false, .int .i64 0, .slice none 0 0, .slice none 0 0, .slice none 0 0, .slice none 0 0, .bool false, .bool false, .int .i64 0, .slice none 0 0, .slice none 0 0, .slice none 0 0, .slice none 0 0] 53)).drew.setCells w2.heap.size 0 vs).rangeAt X 0 vs /\ ((w2.alloc (.cells #[.bool false, .bool false, .int .i64 0, .slice none 0 0, .slice none 0 0, .slice none 0 0, .slice none 0 0, .bool false, .bool false, .int .i64 0, .slice none 0 0, .slice none 0 0, .slice none 0 0, .slice none 0 0, .bool false, .bool false, .int .i64 0, .slice none 0 0, .slice none 0 0, .slice none 0 0, .slice none 0 0, .bool false, .bool false, .int .i64 0, .slice none 0 0, .slice none 0 0, .slice none 0 0, .slice none 0 0] 53)).drew.setCells w2.heap.size 0 vs).cell? ⟨Y, 0, none⟩ = some (.slice V0 l.length vc0)) := hI ⟨fun j v h => (h28b.ce (0 + j) hXlt).trans (hvc j v h), (h28b.ce 0 hYlt).trans hv0⟩
 clear hvr' h28b h28c h28d hYlt hXlt
 go_cut [10, 11] (fun c10 c11 wc => c10 = .slice V0 l.length vc0 /\ c11 = .pointer (some ⟨w2.heap.size, 0, none⟩) /\ Hid (Below w2.heap.size w2 wc) /\ Hid (∀ k, k < 4 -> SesAt wc w2.heap.size (k * 7) R (x k)) /\ Hid (w2.heap.size < wc.heap.size))
 case first =>
  refine wp_region_held (S := fun W' => W'.rangeAt X 0 vs /\ W'.cell? ⟨Y, 0, none⟩ = some (.slice V0 l.length vc0)) (by kernel_rfl) ?_
  refine wpAnyH_take (i := 0) (oi := ⟨some 16, .load 32 (.tmp 3), _, _, _, none⟩) (v := .slice V0 l.length vc0) rfl (by kernel_rfl) (by kernel_rfl) (by kernel_rfl) (fun _ _ _ h => h) (Or.inl ⟨by rfl, ?_⟩) HS1.out ?_
  ·intro w' hSw
   have h := hSw.2
   clear hSw
   go_simp
  simp only [Act.put, jJ, jL, jK]
  refine wpAnyH_take (i := 1) (oi := ⟨some 17, .load 53 (.tmp 4), _, _, _, none⟩) rfl (by kernel_rfl) (by kernel_rfl) (by kernel_rfl) (fun _ _ _ h => h) (yieldsIf_load_mid (by rfl) _ _ rfl X 0 rfl vs _ (fun _ h => h.1) hvu rfl hvi) HS1.out ?_
  simp only [Act.put, jJ, jL, jK]
  refine wpAnyH_ready (rs := [2]) (by kernel_rfl) (by simp) ?_
  refine AllReadyH.cons (o := ⟨some 11, .alloc 53, _, _, _, none⟩) rfl (fun K hK => ?_) AllReadyH.nil
  go_simp
  refine hK.out _ _ HS2.out (fun _ => ?_)
  clear hK K
  refine wpAnyH_take (i := 3) (oi := ⟨some 10, .assign (.tmp 16), _, _, _, none⟩) (v := .slice V0 l.length vc0) rfl (by kernel_rfl) (by kernel_rfl) (by kernel_rfl) (fun _ _ _ h => h) (Or.inl ⟨by rfl, ?_⟩) HS2.out ?_
  ·intro w' _
   go_simp
  simp only [Act.put, jJ, jL, jK]
  refine wpAnyH_ready (rs := [4]) (by kernel_rfl) (by simp) ?_
  refine AllReadyH.cons (o := ⟨none, .store 53 (.tmp 11) (.tmp 17), _, _, _, none⟩) rfl (fun K hK => ?_) AllReadyH.nil
  rw [if_pos (by rfl)]
  refine wp_store_mid _ _ _ rfl w2.heap.size 0 vs.toArray rfl rfl (by rw [show vs.toArray.size = 28 by simpa using hvl]; exact h28a) (by rw [show vs.toArray.size = 28 by simpa using hvl]; kernel_rfl) (Array.all_eq_true_iff_forall_mem.2 fun v hv => hvo v (by simpa using hv)) ?_
  refine hK.out _ _ HS3.out (fun _ => ?_)
  clear hK K
  simp only [Act.put]
  refine wpAnyH_done (by kernel_rfl) ?_ _
  go_wp2
  go_meet
  exact ⟨rfl, rfl, HBB, HBR, HBZ⟩
 case rest =>
  clear HS1 HS2 HS3 HBB HBR HBZ hvc hvo h28a hvu hvi hvl
  obtain ⟨rfl, rfl, HBc, HOS, HOZ⟩ := hcut
  have HXY := hI HC2.out.lt
  have y0 := (HBc.out.ce 0 HXY.out.2).trans hv0
  have y1 := (HBc.out.fr 0 HXY.out.2).trans (HC2.out.frz 0).2
  have HNE := hI HC2.out.ne
  have HN1 : Hid (X < W1.heap.size /\ Y < W1.heap.size) := hI HC.out.lt
  obtain ⟨W3, e3, HI3⟩ : ∃ W3, wc.setCell ⟨Y, 0, none⟩ (.slice U1 st'.states.length uc1) = W3 /\ Hid (CmI w2 W3 X Y W1.heap.size R (.slice U1 st'.states.length uc1) x st' 0) := by
   have hg : Chg (fun q => q = X \/ q = Y) wc (wc.setCell ⟨Y, 0, none⟩ (.slice U1 st'.states.length uc1)) := .setCell (.inr rfl) _
   have hKR : Keeps (fun q => R q \/ q = X \/ q = w2.heap.size) wc (wc.setCell ⟨Y, 0, none⟩ (.slice U1 st'.states.length uc1)) := .setCell (p := ⟨Y, 0, none⟩) (by
    rintro (h | h | h)
    ·exact HC2.out.nr.2 h
    ·exact HNE.out h.symm
    ·have h' : Y = w2.heap.size := h
     have := HXY.out.2; omega) _
   refine ⟨_, rfl, hI ⟨(Chg.below HBc.out).trans hg, ⟨cS _ _ _ y0, ?_⟩, fun j h => by omega, fun j _ hj => ?_, fun j hj => ?_, by simpa [jU] using HOZ.out, fun j => ⟨?_, ?_⟩⟩⟩
   ·refine (rSl rBk).keep (jQ ((rSl rBk).mono (HO1.out.rel (by decide)) fun q hq _ => hq.elim (fun h => h.elim) id) HBc.out) (.setCell (p := ⟨Y, 0, none⟩) (fun h : W1.heap.size <= Y => by have := HN1.out.2; omega) _)
   ·exact ((HC2.out.ses j hj).below HBc.out).keep fun b hb hl => hKR b (hb.imp id .inl) hl
   ·exact (HOS.out j hj).keep fun b hb hl => hKR b (hb.imp id .inr) hl
   ·rw [jT]; exact (HBc.out.fr j HXY.out.1).trans (HC2.out.frz j).1
   ·rw [jT]; exact (HBc.out.fr j HXY.out.2).trans (HC2.out.frz j).2
  have HATR : Hid (∀ wr, CmI w2 wr X Y W1.heap.size R (.slice U1 st'.states.length uc1) x st' 4 \/ Chg (fun q => q = X \/ q = Y) w2 wr -> At w0 wr sb C T st') := hI fun wr h => by
   have hc := h.elim (fun h => h.chg) id
   have h2 := HA.out.below HB2.out
   refine h2.other HL.out HP.out hc ?_ fun q hq => ?_
   ·exact h2.bl.trans (hc.toBelow h2.bl.size fun q hq => by rcases hq with rfl | rfl; exact (HR.out _ (.inr (.inl rfl))).2.2; exact (HR.out _ (.inr (.inr rfl))).2.2)
   ·rcases hq with rfl | rfl
    ·exact ⟨(HR.out _ (.inr (.inl rfl))).1, (HR.out _ (.inr (.inl rfl))).2.1⟩
    ·exact ⟨(HR.out _ (.inr (.inr rfl))).1, (HR.out _ (.inr (.inr rfl))).2.1⟩
  go_upto_region 5 with fail
  clear y0 y1 e3 hv0
  go_loopw [19] (fun i wr => ∃ k : Nat, k <= 4 /\ i = .int .i64 k /\ Hid (CmI w2 wr X Y W1.heap.size R (.slice U1 st'.states.length uc1) x st' k)) (fun i _ => 4 - (intOf i).toNat)
  case atStart => exact ⟨0, by decide, rfl, HI3⟩
  case round =>
   clear HI3
   obtain ⟨k, hk, rfl, HI⟩ := hrel
   by_cases hk4 : k < 4
   ·have hik : (k : Int) < 4 := by omega
    have hk0 : (0 : Int) <= (k : Int) := by omega
    have HAr := hI (HATR.out wr (.inr HI.out.chg))
    have HSN : Hid (Calls Tryz.prog 14 #[.pointer (some ⟨sb, 0, none⟩), .int .i64 k] wr fun e w' => ∃ ys, e = .returned (.agg ys.toArray) /\ rSes.rel w' (fun q => wr.heap.size <= q) ys (st'.ses k) /\ Below wr.heap.size wr w') := hI (by
     obtain ⟨xs, hr, hc⟩ := HAr.out.sto.ses k hk4
     exact Y2l wr hk4 hr hc HAr.out.sto.tw)
    have HRX : Hid (¬ R X) := hI HC2.out.nr.1
    go_wp2_with (go_at_call 14; (with_reducible refine HSN.out.mono ?_); rintro e w4 ⟨ys, rfl, hr4, hb4⟩; have hr4' := hr4; obtain ⟨D1, d1, F1, f1, G1, g1, Q1, r1, rfl, _⟩ := Y6z hr4; have HI4 := hI (HI.out.below HXY.out hb4); obtain ⟨_, _, _, _, _, _, _, _, _, c0, c1, c2, c3, c4, c5, c6⟩ := (HI4.out.sesO k (nR _) hk4).out; obtain ⟨W5, e5, HS5, HW5, _⟩ := Y60 (T' := fun q => W1.heap.size <= q) (HI4.out.sesO k (nR _) hk4) (rSes.mono hr4' fun q hq _ => by have h1 := HB2.out.size; have h2 := HI.out.chg.size; omega) (by have := HN1.out.1; omega); have z0 := (HI4.out.frz (k * 7)).1; have z1 := (HI4.out.frz (k * 7 + 1)).1; have z2 := (HI4.out.frz (k * 7 + 2)).1; have z3 := (HI4.out.frz (k * 7 + 3)).1; have z4 := (HI4.out.frz (k * 7 + 4)).1; have z5 := (HI4.out.frz (k * 7 + 5)).1; have z6 := (HI4.out.frz (k * 7 + 6)).1; clear hr4 hr4' hb4)
    go_roundw
    case rel => exact ⟨k + 1, by omega, by go_num, hI (HI4.out.step HXY.out HNE.out HN1.out.1 HRX.out HW5.out HS5.out)⟩
    case measure => simp [intOf]; omega
   ·have hik : ¬ (k : Int) < 4 := by omega
    obtain rfl : k = 4 := by omega
    have HAr := hI (HATR.out wr (.inl HI.out))
    have HEND : Hid (∀ w', Below wr.heap.size wr w' -> ∃ R', At w0 w' sb C T st' /\ CapAt w' X Y R' st'.states st'.ses /\ ∀ q, (R' q \/ q = X \/ q = Y) -> ¬ C q /\ ¬ T q /\ w0.heap.size <= q) := hI fun w' hb => by
     refine ⟨_, HAr.out.below hb, (HI.out.cap HXY.out HNE.out HN1.out).below hb, fun q hq => ?_⟩
     rcases hq with hq | hq
     ·exact ⟨fun h => by have := HA.out.sto.cw q h; have := hq.1; omega, fun h => by have := HA.out.sto.tw q h; have := hq.1; omega, Nat.le_trans HA.out.bl.size hq.1⟩
     ·exact HR.out q (.inr hq)
    rcases HCS.out with ⟨rfl, hs1⟩ | ⟨hl0, hsame | ⟨k, hk4', hak, hkd, hcd, hrn, hst, hnb, hnm⟩⟩
    ·have hn1 : ((st'.states.length : Int) == 1) = true := by rw [hs1]; rfl
     go_wp2
     go_ret
     obtain ⟨R', h1, h2, h3⟩ := HEND.out wr (jA _ _)
     exact ⟨rfl, h1, R', h2, h3⟩
    ·have hn0 : ((l.length : Int) == 0) = false := by rw [beq_eq_false_iff_ne]; omega
     have hn1 : ((st'.states.length : Int) == (l.length : Int)) = true := by rw [hsame]; simp
     clear hl0 hsame
     go_wp2
     go_ret
     obtain ⟨R', h1, h2, h3⟩ := HEND.out wr (jA _ _)
     exact ⟨rfl, h1, R', h2, h3⟩
    ·have hlen : st'.states.length = l.length + 1 := by rw [hst, jH]; rfl
     have HST1 := hI hst
     have HNB := hI hnb
     have HNM := hI hnm
     obtain ⟨m, hm⟩ : ∃ m, l.length = m + 1 := ⟨l.length - 1, by omega⟩
     have HM := hI hm
     have hml : m <= 2932031007402 := by simp only [rBk] at hby0; omega
     have hX2 : X ≠ w.heap.size /\ X ≠ w.heap.size + 1 /\ Y ≠ w.heap.size /\ Y ≠ w.heap.size + 1 := by have h := hcw; omega
     have hbx : ∀ b j, b = w.heap.size \/ b = w.heap.size + 1 -> wr.cell? ⟨b, j, none⟩ = W1.cell? ⟨b, j, none⟩ := fun b j hb => by
      have hbl : b < W1.heap.size := by have := HZ1.out; omega
      exact (jR (a := ⟨b, j, none⟩) (HI.out.chg.block b (nL hbl HB2.out.size) (by rintro (h | h) <;> omega))).trans (HB2.out.ce j hbl)
     have r0 := (hbx _ 0 (.inl rfl)).trans p0
     have r1 := (hbx _ 1 (.inl rfl)).trans p1
     have r2 := (hbx _ 0 (.inr rfl)).trans q0
     have r3 := (hbx _ 1 (.inr rfl)).trans q1
     rw [hkd] at r0
     rw [hak] at r1
     rw [hcd] at r2
     rw [hrn, hm] at r3
     have ha0 : (0 : Int) <= (k : Int) := by omega
     have ha4 : (k : Int) < 4 := by omega
     have ha1 : ¬ (k : Int) < 0 := by omega
     have ha2 : ¬ (4 : Int) <= (k : Int) := by omega
     rw [hlen, hm]
     clear hbx hX2 hst hnb hnm hlen hl0 hcw
     have OE : Hid (Elems rBk wr R V0 l) := hI (by
      obtain ⟨_, _, e, _, _, _, h⟩ := rSl.elems (HVR.out)
      injection e with e1
      subst e1
      exact h.keep (HI.out.chg.keeps fun b hb h => h.elim (fun e => HC2.out.nr.1 (e ▸ hb)) fun e => HC2.out.nr.2 (e ▸ hb)))
     have NE : Hid (Elems rBk wr (fun q => W1.heap.size <= q) U1 st'.states) := hI (by
      obtain ⟨_, _, e, _, _, _, h⟩ := rSl.elems HI.out.row.2
      injection e with e1
      subst e1
      exact h)
     have HOW := hI (HI.out.own k hk4')
     have HLB : Hid (∀ w', Below wr.heap.size wr w' -> LibW w' /\ PolW w') := hI fun w' hb => ⟨HL.out.below (HAr.out.bl.trans (hb.mono HAr.out.bl.size)), HP.out.below (HAr.out.bl.trans (hb.mono HAr.out.bl.size))⟩
     have HACT : Hid (∀ w', Below wr.heap.size wr w' -> w'.cell? ⟨w.heap.size, 1, none⟩ = some (.int .i64 k)) := hI fun w' hb => (hb.ce 1 (bC _ _ r1)).trans r1
     have HRS : Hid (∀ q, R q -> q < wr.heap.size) := hI fun q h => nL (HC2.out.rw q h) HI.out.chg.size
     have HOL : Hid (∀ j, j < m + 1 -> st'.states[j]? = l[j]?) := hI fun j hj => by rw [HST1.out, jE (by rw [HM.out]; exact hj)]
     obtain ⟨vw, hvw⟩ : ∃ v, Z2l ((l[l.length - 1]?).getD bk0) (x k) = v := ⟨_, rfl⟩
     have HVW0 : Hid (st'.states[m + 1]? = some vw) := hI (by rw [HST1.out, jF (by rw [HM.out]; exact nR _), HM.out]; simp only [Nat.sub_self, List.getElem?_cons_zero]; rw [<- hvw, HM.out])
     have HVW1 := hI hvw
     clear hvw
     go_upto_region 16 with fail
     clear r0 r1 r2 r3 ha0 ha1 ha2
     obtain ⟨wv, hwv⟩ : ∃ x, x = wr := ⟨_, rfl⟩
     subst hwv
     go_loopw [74] (fun i wr => ∃ j : Nat, j <= m + 1 /\ i = .int .i64 j /\ Hid (Below wv.heap.size wv wr)) (fun i _ => m + 1 - (intOf i).toNat)
     case atStart => exact ⟨0, jO _, rfl, hI (jA _ _)⟩
     case round =>
      obtain ⟨j, hj, rfl, HB⟩ := hrel
      by_cases hlt : j < m + 1
      ·have hij : (j : Int) < (m : Int) + 1 := by omega
       have hij2 : (j : Int) < (m : Int) + 1 + 1 := by omega
       obtain ⟨b1, o1, y, D1, d1, F1, f1, rfl, hb1, hx, hr, g0, g1⟩ := OE.out.bk (show j < l.length by rw [HM.out]; exact hlt)
       obtain ⟨b2, o2, y', D2, d2, F2, f2, rfl, hb2, hx', hr', h0, h1⟩ := NE.out.bk (show j < st'.states.length by rw [HST1.out, jH, HM.out]; exact Nat.lt_succ_of_lt hlt)
       obtain rfl : y = y' := by rw [HOL.out j hlt, hx] at hx'; exact jP.inj hx'
       rw [<- HB.out.ce _ hb1] at g0 g1
       rw [<- HB.out.ce _ hb2] at h0 h1
       have hb1' : b1 < wr.heap.size := nL hb1 HB.out.size
       have hb2' : b2 < wr.heap.size := nL hb2 HB.out.size
       have HCB := hI fun w' (hb : Below wr.heap.size wr w') => Z8q y w' (jQ hr (HB.out.trans (hb.mono HB.out.size))) (jQ hr' (HB.out.trans (hb.mono HB.out.size))) (HLB.out _ (HB.out.trans (hb.mono HB.out.size))).1 (HLB.out _ (HB.out.trans (hb.mono HB.out.size))).2
       clear hx hx' hr hr' hb1 hb2
       go_wp2
       refine wp_region_quiet_below (by kernel_rfl) (by kernel_rfl) ?_
       repeat (go_big_quiet_step (with_reducible exact Calls.inBelow HCB.out _ _))
       refine wpQuiet_nil ?_
       intro _ hw'
       obtain ⟨⟨dq, osq⟩, hw''⟩ := hw'
       subst hw''
       go_wp2
       go_roundw
       case rel => exact ⟨j + 1, by omega, by go_num, hI (HB.out.trans ((below_regrown _ _ _).mono HB.out.size))⟩
       case measure => simp [intOf]; omega
      ·have hij : ¬ (j : Int) < (m : Int) + 1 := by omega
       obtain rfl : j = m + 1 := by omega
       obtain ⟨b1, o1, y, D1, d1, F1, f1, rfl, hb1, hx, hr, g0, g1⟩ := OE.out.bk (show m < l.length by rw [HM.out]; exact jN _)
       obtain ⟨b2, o2, y', D2, d2, F2, f2, rfl, hb2, hx', hr', h0, h1⟩ := NE.out.bk (show m + 1 < st'.states.length by rw [HST1.out, jH, HM.out]; exact jN _)
       obtain rfl : vw = y' := by rw [HVW0.out] at hx'; exact jP.inj hx'
       obtain ⟨D3, d3, B3, b3, G3, g3, Q3, q3, hrs, s0, s1, s2, s3, s4, s5, s6⟩ := (HOW.out.below HB.out).out
       rw [<- HB.out.ce _ hb1] at g0 g1
       rw [<- HB.out.ce _ hb2] at h0 h1
       have a1 := HACT.out wr HB.out
       have hb1' : b1 < wr.heap.size := nL hb1 HB.out.size
       have hb2' : b2 < wr.heap.size := nL hb2 HB.out.size
       have hal : w.heap.size < wr.heap.size := bC _ _ a1
       have hwl : w2.heap.size < wr.heap.size := bC _ _ s0
       have HKP : Hid (∀ W', Below wr.heap.size wr W' -> W'.cell? ⟨b1, o1 + m * 2, none⟩ = some (.slice D1 y.doms.length d1) /\ W'.cell? ⟨b1, o1 + m * 2 + 1, none⟩ = some (.slice F1 y.tabs.length f1) /\ W'.cell? ⟨b2, o2 + (m + 1) * 2, none⟩ = some (.slice D2 vw.doms.length d2) /\ W'.cell? ⟨b2, o2 + (m + 1) * 2 + 1, none⟩ = some (.slice F2 vw.tabs.length f2) /\ W'.cell? ⟨w.heap.size, 1, none⟩ = some (.int .i64 k) /\ W'.cell? ⟨w2.heap.size, k * 7, none⟩ = some (.bool (x k).opn) /\ W'.cell? ⟨w2.heap.size, k * 7 + 1, none⟩ = some (.bool (x k).strict) /\ W'.cell? ⟨w2.heap.size, k * 7 + 2, none⟩ = some (.int .i64 (x k).frm) /\ W'.cell? ⟨w2.heap.size, k * 7 + 3, none⟩ = some (.slice D3 (x k).mine.doms.length d3) /\ W'.cell? ⟨w2.heap.size, k * 7 + 4, none⟩ = some (.slice B3 (x k).mine.tabs.length b3) /\ W'.cell? ⟨w2.heap.size, k * 7 + 5, none⟩ = some (.slice G3 (x k).gone.length g3) /\ W'.cell? ⟨w2.heap.size, k * 7 + 6, none⟩ = some (.slice Q3 (x k).read.length q3)) := hI fun W' hb =>
        ⟨(hb.ce _ hb1').trans g0, (hb.ce _ hb1').trans g1, (hb.ce _ hb2').trans h0, (hb.ce _ hb2').trans h1, (hb.ce 1 hal).trans a1, (hb.ce _ hwl).trans s0, (hb.ce _ hwl).trans s1, (hb.ce _ hwl).trans s2, (hb.ce _ hwl).trans s3, (hb.ce _ hwl).trans s4, (hb.ce _ hwl).trans s5, (hb.ce _ hwl).trans s6⟩
       have HBD : Hid (Below wr.heap.size wr wr.drew) := hI ⟨rfl, rfl, rfl, nR _, fun _ _ => rfl⟩
       have HVV : Hid (Z2l y (x k) = vw) := hI (by rw [<- HVW1.out, HM.out, Nat.add_sub_cancel, hx]; rfl)
       have HNBy : Hid (Neat y 4 4) := hI (HNB.out y (List.mem_of_getElem? hx))
       have HVI : Hid (Calls Tryz.prog 23 #[.agg #[.slice D1 y.doms.length d1, .slice F1 y.tabs.length f1], .agg #[.bool (x k).opn, .bool (x k).strict, .int .i64 (x k).frm, .slice D3 (x k).mine.doms.length d3, .slice B3 (x k).mine.tabs.length b3, .slice G3 (x k).gone.length g3, .slice Q3 (x k).read.length q3]] wr.drew fun e w' => ∃ A3 c3 A4 c4, e = .returned (.agg #[.slice A3 vw.doms.length c3, .slice A4 vw.tabs.length c4]) /\ rBk.rel w' (Up R wr.drew.heap.size) [.slice A3 vw.doms.length c3, .slice A4 vw.tabs.length c4] vw /\ Below wr.heap.size wr w') := hI (by
        have h1 := Z7l (S := R) wr.drew (jQ (jQ hr HB.out) HBD.out) (jQ hrs HBD.out) (fun q h => nL (HRS.out q h) HB.out.size) HNBy.out (by have := HNM.out.ld; omega) (by have := HNM.out.lt; omega)
        refine h1.mono ?_
        rintro e w' ⟨v1, u1, rfl, hr1, hb1⟩
        rw [HVV.out] at hr1
        have hr2 := hr1
        obtain ⟨v2, u2, e2, hd, ht⟩ := hr1
        simp only [List.cons.injEq, and_true] at e2
        obtain ⟨rfl, rfl⟩ := e2
        obtain ⟨A3, c3, rfl, _⟩ := rSl.elems hd
        obtain ⟨A4, c4, rfl, _⟩ := rSl.elems ht
        exact ⟨A3, c3, A4, c4, rfl, hr2, Z5b hb1⟩)
       have HNR : Hid (∀ W', Below wr.heap.size wr W' -> rBk.rel W' (fun q => W1.heap.size <= q) [.slice D2 vw.doms.length d2, .slice F2 vw.tabs.length f2] vw) := hI fun W' hb => jQ hr' (HB.out.trans (hb.mono HB.out.size))
       have hmw : IntKind.i64.wrap ((m : Int) + 1 - 1) = (m : Int) := by rw [IntKind.wrap_i64]; omega
       have hm0 : (0 : Int) <= (m : Int) := by omega
       have hmm : (m : Int) < (m : Int) + 1 := by omega
       have hmn : (m : Int) + 1 < (m : Int) + 1 + 1 := by omega
       have hz0 : IntKind.i64.wrap (m : Int) = (m : Int) := IntWalk.i64_in _ (by omega)
       have hz1 : (0 : Int) <= (m : Int) + 1 - 1 := by omega
       have hz2 : (m : Int) + 1 - 1 < (m : Int) + 1 := by omega
       have hz3 : ((m : Int) + 1 - 1).toNat = m := by omega
       have hz4 : (0 : Int) <= (m : Int) + 1 := by omega
       have hz5 : ((m : Int) + 1).toNat = m + 1 := by omega
       have hz6 : (m : Int) + 1 - 1 < (m : Int) + 1 + 1 := by omega
       have hz7 : (m : Int) < (m : Int) + 1 + 1 := by omega
       have ha0 : (0 : Int) <= (k : Int) := by omega
       have ha4 : (k : Int) < 4 := by omega
       clear hx hx' hr hr' hrs hb1 hb2 hb1' hb2' hal hwl
       go_upto_region 21 with fail
       go_region_held3 (fun W' => W'.cell? ⟨b1, o1 + m * 2, none⟩ = some (.slice D1 y.doms.length d1) /\ W'.cell? ⟨b1, o1 + m * 2 + 1, none⟩ = some (.slice F1 y.tabs.length f1) /\ W'.cell? ⟨b2, o2 + (m + 1) * 2, none⟩ = some (.slice D2 vw.doms.length d2) /\ W'.cell? ⟨b2, o2 + (m + 1) * 2 + 1, none⟩ = some (.slice F2 vw.tabs.length f2) /\ W'.cell? ⟨w.heap.size, 1, none⟩ = some (.int .i64 k) /\ W'.cell? ⟨w2.heap.size, k * 7, none⟩ = some (.bool (x k).opn) /\ W'.cell? ⟨w2.heap.size, k * 7 + 1, none⟩ = some (.bool (x k).strict) /\ W'.cell? ⟨w2.heap.size, k * 7 + 2, none⟩ = some (.int .i64 (x k).frm) /\ W'.cell? ⟨w2.heap.size, k * 7 + 3, none⟩ = some (.slice D3 (x k).mine.doms.length d3) /\ W'.cell? ⟨w2.heap.size, k * 7 + 4, none⟩ = some (.slice B3 (x k).mine.tabs.length b3) /\ W'.cell? ⟨w2.heap.size, k * 7 + 5, none⟩ = some (.slice G3 (x k).gone.length g3) /\ W'.cell? ⟨w2.heap.size, k * 7 + 6, none⟩ = some (.slice Q3 (x k).read.length q3)) (go_keep) (first
        | (go_at_call 23; ((with_reducible refine HVI.out.mono ?_); rintro e w5 ⟨A3, c3, A4, c4, rfl, hr5, hb5⟩; have HR5 := hI hr5; have HB5 := hI hb5; obtain ⟨t0, t1, t2, t3, t4, t5, t6, t7, t8, t9, t10, t11⟩ := HKP.out w5 hb5; clear hr5 hb5))
        | (go_at_call 22; ((with_reducible refine (Z8q vw w5 (HNR.out w5 HB5.out) HR5.out (HLB.out w5 (HB.out.trans (HB5.out.mono HB.out.size))).1 (HLB.out w5 (HB.out.trans (HB5.out.mono HB.out.size))).2).mono ?_); rintro e w6 ⟨rfl, hb6⟩; have HB6 := hI (HB5.out.trans (hb6.mono HB5.out.size)); obtain ⟨y0, y1, y2, y3, y4, y5, y6, y7, y8, y9, y10, y11⟩ := HKP.out w6 (HB5.out.trans (hb6.mono HB5.out.size)); clear hb6)))
       all_goals
        go_wp2
        go_ret
        obtain ⟨R', h1, h2, h3⟩ := HEND.out w6 (HB.out.trans (HB6.out.mono HB.out.size))
        exact ⟨R', rfl, h1, h2, h3⟩
theorem Y8l {S : Nat -> Prop} {lv : Value} {l : List Acn} {w0 : World} {X Y : Nat} (w : World) (hl : (rSl rAcn).rel w S [lv] l) (hS : ∀ q, S q -> q < w0.heap.size) (hb0 : Below w0.heap.size w0 w) (hc : CapAt w X Y (fun _ => False) [] (fun _ => ses0)) (hX : w0.heap.size <= X) (hY : w0.heap.size <= Y) (hw : LibW w0) (hp : PolW w0) :
  Calls Tryz.prog 20 #[lv, .func (.func 21) #[] #[.pointer (some ⟨Y, 0, none⟩), .pointer (some ⟨X, 0, none⟩)]] w fun e w' => ∃ sb, e = .returned (.tuple #[.pointer (some ⟨sb, 0, none⟩), .bool true]) /\ Below w0.heap.size w0 w' := by
 obtain ⟨A, c, rfl, _, _, hby, hE⟩ := rSl.elems hl
 have hln : l.length <= 1954687338432 := by simp only [rAcn] at hby; omega
 have HE := hI hE
 have HS := hI hS
 have HB0 := hI hb0
 have HCP := hI hc
 have HXY : Hid (w0.heap.size <= X /\ w0.heap.size <= Y) := hI ⟨hX, hY⟩
 have HAL := hI (Y5u w (hw.below hb0) (hp.below hb0))
 have HNW := hI fun w1 (hb : Below w.heap.size w w1) => At.new w1 ((hw.below hb0).below hb) ((hp.below hb0).below hb)
 have HLW := hI hw
 have HPW := hI hp
 clear hl hE hS hby hw hp hb0 hc hX hY
 go_enter Tryz.func20, Tryz.ntmps20
 go_upto_region 5 with (first
  | (go_at_call 52; (with_reducible refine HAL.out.mono ?_); rintro e w1 ⟨rfl, hb1⟩; have HB1 := hI hb1; clear hb1)
  | (go_at_call 26; (with_reducible refine (HNW.out w1 HB1.out).mono ?_); rintro e w2 ⟨sb, C, T, rfl, hA⟩; have HA := hI hA; clear hA))
 go_loopw [7] (fun i wr => ∃ (k : Nat) (C T R : Nat -> Prop) (l0 : List Bk) (x0 : Nat -> Ses), i = .int .i64 k /\ k <= l.length /\ k <= 50 /\ Hid (At w0 wr sb C T (Z6h l k)) /\ Hid (CapAt wr X Y R l0 x0) /\ Hid (∀ q, (R q \/ q = X \/ q = Y) -> ¬ C q /\ ¬ T q /\ w0.heap.size <= q) /\ Hid ((k = 0 /\ l0 = []) \/ (l0 = (Z6h l k).states /\ x0 = (Z6h l k).ses))) (fun i _ => l.length - (intOf i).toNat)
 case atStart =>
  refine ⟨0, C, T, fun _ => False, [], fun _ => ses0, rfl, jO _, jO _, hI (HA.out.lower ?_), hI ((HCP.out.below HB1.out).below (HA.out.bl.mono ?_)), hI fun q hq => ?_, hI (.inl ⟨rfl, rfl⟩)⟩
  ·exact HB0.out.trans (HB1.out.mono HB0.out.size)
  ·exact nR _
  ·have hlt := HCP.out.lt
   have hxy := HXY.out
   have hsz := HB1.out.size
   have hq1 : q = X \/ q = Y := hq.elim False.elim id
   exact ⟨fun h => by have := HA.out.cn q h; omega, fun h => by have := HA.out.tn q h; omega, by omega⟩
 case round =>
  clear HA HCP HB1
  obtain ⟨k, C, T, R, l0, x0, rfl, hk, hk50, HA, HCP, HR0, HLS⟩ := hrel
  by_cases hlt : k < l.length
  ·by_cases h50 : k < 50
   ·have hik : (k : Int) < (l.length : Int) := by omega
    have hik5 : (k : Int) < 50 := by omega
    have HEr : Hid (Elems rAcn wr S A l) := hI (HE.out.keep fun b hb _ => (HA.out.bl.block b (HS.out b hb)).trans (HB0.out.block b (HS.out b hb)).symm)
    obtain ⟨q, off, a, I, ic, rfl, hSq, hq, hx, hr, g0, g1, g2, g3, g4⟩ := HEr.out.acn hlt
    have HR := hI hr
    have HNC : Hid (∀ p, S p -> p < wr.heap.size /\ ¬ C p) := hI fun p hp => ⟨nL (HS.out p hp) HA.out.bl.size, fun hc => by have := HA.out.cn p hc; have := HS.out p hp; omega⟩
    obtain ⟨⟨r1, s1⟩, h1⟩ : ∃ z, doS (Z6h l k) a = z := ⟨_, rfl⟩
    have HH1 := hI h1
    have HNX : Hid (Z6h l (k + 1) = s1) := hI (by rw [Y26 hx, h1])
    have HSQ : Hid (q < wr.heap.size /\ ¬ C q) := hI (HNC.out q hSq)
    have HCASE : Hid ((l0 = [] /\ s1.states.length = 1) \/ (0 < l0.length /\ (s1.states = l0 \/ ∃ j : Nat, j < 4 /\ a.n = j /\ a.kind = 6 /\ r1.code = 0 /\ r1.n = l0.length /\ s1.states = l0 ++ [Z2l ((l0[l0.length - 1]?).getD bk0) (x0 j)] /\ (∀ b ∈ l0, Neat b 4 4) /\ Neat (x0 j).mine 1000 1000))) := hI (by
     rcases HLS.out with ⟨rfl, rfl⟩ | ⟨rfl, rfl⟩
     ·refine .inl ⟨rfl, ?_⟩
      have := X1b (st := Z6h l 0) (fun _ => rfl) a
      rw [h1] at this
      rw [this]
      rfl
     ·have hg := HA.out.ok
      refine .inr ⟨hg.ne, ?_⟩
      have h2 := Y4h hg.ne a
      rw [h1] at h2
      rcases h2 with h2 | ⟨j, j1, j2, j3, j4, j5, j6⟩
      ·exact .inl h2
      ·exact .inr ⟨j, j1, j2, j3, j4, j5, j6, fun b hb => Z6u (hg.chk b hb), (hg.ses j).mn.mono (by have := hg.ac; omega) (by have := hg.ac; omega)⟩)
    clear hx hr h1 hSq HLS
    go_upto_region 8 with (first
     | (go_at_call 11; go_must ((with_reducible refine Calls.mono (HA.out.act_at HH1.out HR.out HNC.out) ?_); rintro e v2 ⟨A2, c2, B2, d2, C2, T2, rfl, hr2, hA2, hc2, hC2, hT2⟩; obtain ⟨W2, e2, HB2, x0', x1, x2, x3, x4, HS2⟩ := X1m v2 (.int .i64 r1.code) (.int .i64 r1.n) (.string ⟨r1.text.toArray⟩) (.slice A2 r1.ans.length c2) (.slice B2 r1.at'.length d2); have HA2 := hI (hA2.below HB2.out); obtain ⟨k0, k1, k2, k3, k4⟩ := X0y (q := q) (o := off + k * 5) (hc2.block q HSQ.out.1 HSQ.out.2) (nL HSQ.out.1 hc2.size) HB2.out g0 g1 g2 g3 g4; have HRR := hI (jQ hr2 HB2.out); have HRA : Hid (rAcn.rel W2 S [.int .i64 a.kind, .int .i64 a.n, .string ⟨a.name.toArray⟩, .string ⟨a.text.toArray⟩, .slice I a.inp.length ic] a) := hI (jQ (rAcn.keep HR.out (hc2.keeps fun p hp => (HNC.out p hp).2)) HB2.out); have HCP2 : Hid (CapAt W2 X Y R l0 x0) := hI ((HCP.out.keep (hc2.keeps fun p hp => (HR0.out p hp).1) hc2.size).below HB2.out); have HR2 : Hid (∀ p, (R p \/ p = X \/ p = Y) -> ¬ C2 p /\ ¬ T2 p /\ w0.heap.size <= p) := hI (fun p hp => by
       have hpl : p < wr.heap.size := by
        rcases hp with hp | rfl | rfl
        ·exact HCP.out.rw p hp
        ·exact HCP.out.lt.1
        ·exact HCP.out.lt.2
       have h3 := HR0.out p hp
       exact ⟨fun h => (hC2 p h).elim h3.1 fun h => by omega, fun h => (hT2 p h).elim h3.2.1 fun h => by omega, h3.2.2⟩); clear g0 g1 g2 g3 g4 hA2 hc2 hC2 hr2 hT2)))
    have hqW : q < W2.heap.size := bC _ _ k0
    have hvW : v2.heap.size < W2.heap.size := bC _ _ x0'
    go_still_tail 7, (by kernel_rfl)
    change wpList _ _ _ _ _ W2.drew
    have HBD : Hid (Below W2.heap.size W2 W2.drew) := hI ⟨rfl, rfl, rfl, nR _, fun _ _ => rfl⟩
    have HCM := hI (Y01 W2.drew (HA2.out.below HBD.out) HLW.out HPW.out (HCP2.out.below HBD.out) HR2.out (jQ HRA.out HBD.out) (jQ HRR.out HBD.out) HCASE.out)
    go_wp2_with (go_at_call 21; ((with_reducible refine HCM.out.mono ?_); rintro e w5 ⟨R5, rfl, hA5, hC5, hR5⟩; have HA5 := hI hA5; have HC5 := hI hC5; have HR5 := hI hR5; clear hA5 hC5 hR5))
    go_roundw
    case rel => exact ⟨k + 1, C2, T2, R5, s1.states, s1.ses, by go_num, hlt, h50, hI (by rw [HNX.out]; exact HA5.out), HC5, HR5, hI (.inr (by rw [HNX.out]; exact ⟨rfl, rfl⟩))⟩
    case measure => simp [intOf]; omega
   ·have hik5 : ¬ (k : Int) < 50 := by omega
    have hik : (k : Int) < (l.length : Int) := by omega
    go_wp2
    go_ret2
    exact ⟨⟨sb, rfl⟩, HA.out.bl⟩
  ·have hik : ¬ (k : Int) < (l.length : Int) := by omega
   go_wp2
   go_ret2
   exact ⟨⟨sb, rfl⟩, HA.out.bl⟩
theorem Y9y (w : World) : ∃ W1, (w.alloc (.cells #[.bool false, .bool false, .int .i64 0, .slice none 0 0, .slice none 0 0, .slice none 0 0, .slice none 0 0, .bool false, .bool false, .int .i64 0, .slice none 0 0, .slice none 0 0, .slice none 0 0, .slice none 0 0, .bool false, .bool false, .int .i64 0, .slice none 0 0, .slice none 0 0, .slice none 0 0, .slice none 0 0, .bool false, .bool false, .int .i64 0, .slice none 0 0, .slice none 0 0, .slice none 0 0, .slice none 0 0] 53)).alloc (.cells #[.slice none 0 0] 32) = W1 /\ Hid (Below w.heap.size w W1) /\ Hid (CapAt W1 w.heap.size (w.heap.size + 1) (fun _ => False) [] (fun _ => ses0)) := by
 have z1 : (w.alloc (.cells #[.bool false, .bool false, .int .i64 0, .slice none 0 0, .slice none 0 0, .slice none 0 0, .slice none 0 0, .bool false, .bool false, .int .i64 0, .slice none 0 0, .slice none 0 0, .slice none 0 0, .slice none 0 0, .bool false, .bool false, .int .i64 0, .slice none 0 0, .slice none 0 0, .slice none 0 0, .slice none 0 0, .bool false, .bool false, .int .i64 0, .slice none 0 0, .slice none 0 0, .slice none 0 0, .slice none 0 0] 53)).heap.size = w.heap.size + 1 := by simp
 have hb : Below w.heap.size w ((w.alloc (.cells #[.bool false, .bool false, .int .i64 0, .slice none 0 0, .slice none 0 0, .slice none 0 0, .slice none 0 0, .bool false, .bool false, .int .i64 0, .slice none 0 0, .slice none 0 0, .slice none 0 0, .slice none 0 0, .bool false, .bool false, .int .i64 0, .slice none 0 0, .slice none 0 0, .slice none 0 0, .slice none 0 0, .bool false, .bool false, .int .i64 0, .slice none 0 0, .slice none 0 0, .slice none 0 0, .slice none 0 0] 53)).alloc (.cells #[.slice none 0 0] 32)) := bA.alloc (by simp) _
 refine ⟨_, rfl, hI hb, hI ⟨⟨.slice none 0 0, ?_, Z01 _ _⟩, fun k hk => ⟨[.bool false, .bool false, .int .i64 0, .slice none 0 0, .slice none 0 0, .slice none 0 0, .slice none 0 0], ⟨_, _, _, _, rfl, (show InI 0 from ⟨by decide, by decide⟩), Z01 _ _, Z01 _ _, Z01 _ _, Z01 _ _⟩, fun j u hu => ?_⟩, fun j => ⟨?_, ?_⟩, by omega, ?_, ⟨id, id⟩, fun q hq => hq.elim⟩⟩
 ·rw [<- z1]
  exact cN _ _ _ _
 ·refine (cL _ _ _ (by simp)).trans ((cN _ _ _ _).trans ?_)
  have hj : j < 7 := by have := (jG.1 hu).1; simpa using this
  have hk' : k = 0 \/ k = 1 \/ k = 2 \/ k = 3 := by omega
  have hj' : j = 0 \/ j = 1 \/ j = 2 \/ j = 3 \/ j = 4 \/ j = 5 \/ j = 6 := by omega
  rcases hk' with rfl | rfl | rfl | rfl <;> rcases hj' with rfl | rfl | rfl | rfl | rfl | rfl | rfl <;> exact hu
 ·simp
 ·rw [<- z1]
  simp
 ·simp
  omega
theorem Z7u {S : Nat -> Prop} {lv : Value} {l : List Acn} (w : World) (hl : (rSl rAcn).rel w S [lv] l) (hS : ∀ q, S q -> q < w.heap.size) (hw : LibW w) (hp : PolW w) :
  Calls Tryz.prog 6 #[lv] w fun e w' => e = .returned (.bool true) /\ Below w.heap.size w w' := by
 have HRL := hI hl
 have HS := hI hS
 have HLW := hI hw
 have HPW := hI hp
 clear hl hS hw hp
 obtain ⟨W1, e1, HB1, HC1⟩ := Y9y w
 have HPC := hI (Y8l (w0 := w) W1 (jQ HRL.out HB1.out) HS.out HB1.out HC1.out (nR _) (Nat.le_succ _) HLW.out HPW.out)
 go_enter Tryz.func6, Tryz.ntmps6
 go_upto_region 3 with fail
 go_wp2_with (go_at_call 20; ((with_reducible refine HPC.out.mono ?_); rintro e w1 ⟨sb, rfl, hb⟩; have HB := hI hb; clear hb))
 go_ret
 exact ⟨rfl, HB.out⟩
