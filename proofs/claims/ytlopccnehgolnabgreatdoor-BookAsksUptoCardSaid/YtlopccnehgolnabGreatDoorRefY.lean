
/- The contract of the reference's SaysOf. -/
import Derived.Test.YtlopccnehgolnabGreatDoorGrE
import Derived.Test.YtlopccnehgolnabGreatDoorRegInv
import Derived.Test.YtlopccnehgolnabGreatDoorGrF
import Derived.Test.YtlopccnehgolnabGreatDoorGrH
import Derived.Test.YtlopccnehgolnabGreatDoorRefM
import Derived.BigQuiet
import Derived.Deep.DeepCutAuto
import Derived.Deep.DeepMust
namespace Go.Proofs.YtlopccnehgolnabGreatDoor
open Go.RowKit Rb

theorem IsTable_b' {S : Nat → Prop} {cs : List Value} {t : Tb} {b : Bool} (w : World) (hl : rTb.rel w S cs t) (h : goodT t = b) : Calls Tryz.prog 56 #[.agg cs.toArray] w fun e w' => e = .returned (.bool b) ∧ Below w.heap.size w w' := h ▸ IsTable_any w hl

theorem acc3_bd {l : List Int} {M : Int} (h : ∀ x ∈ l, -M ≤ x ∧ x ≤ M) : ∀ (a : Acc3), -M ≤ a.lo → a.lo ≤ M → -M ≤ a.hi → a.hi ≤ M → -M ≤ (l.foldl acc3 a).lo ∧ (l.foldl acc3 a).lo ≤ M ∧ -M ≤ (l.foldl acc3 a).hi ∧ (l.foldl acc3 a).hi ≤ M := by
  induction l with
  | nil => intro a h1 h2 h3 h4; exact ⟨h1, h2, h3, h4⟩
  | cons x l ih =>
    intro a h1 h2 h3 h4
    have hx := h x (by simp)
    refine ih (fun y hy => h y (by simp [hy])) (acc3 a x) ?_ ?_ ?_ ?_ <;> simp only [acc3] <;> omega

/-- What each operation of the map's region leaves in its slot. -/
def sayTab (mb : Nat) (s7 : Value) (b3 o3 q : Nat) (x0 lo hi sm p res : Int) : List (Nat × Nat × Value) :=
  [(0, 92, .map (some mb)), (1, 93, s7), (2, 94, .pointer (some ⟨b3, o3, none⟩)), (3, 95, .int .i64 x0), (5, 96, s7), (6, 97, .pointer (some ⟨b3, o3, none⟩)), (7, 98, .int .i64 x0), (9, 99, s7), (10, 100, .pointer (some ⟨b3, o3, none⟩)), (11, 101, .int .i64 x0),
   (13, 102, .int .i64 lo), (15, 103, .int .i64 hi), (17, 104, .int .i64 sm), (19, 105, .map (some mb)), (20, 106, .pointer (some ⟨q, 1, none⟩)), (21, 107, .int .i64 p), (22, 108, .int .i64 res), (23, 4, .int .i64 res), (24, 5, .bool true), (25, 6, .int .i64 0)]
/-- What stands in the map when the operations of l have come up. -/
def sayFm (l : Array Bool) (x0 lo hi sm : Int) : Int → Option Value := fun k =>
  if k = 1 ∧ LS l 4 then some (.int .i64 x0) else if k = 2 ∧ LS l 8 then some (.int .i64 x0) else if k = 3 ∧ LS l 12 then some (.int .i64 x0) else if k = 4 ∧ LS l 14 then some (.int .i64 lo) else if k = 5 ∧ LS l 16 then some (.int .i64 hi) else if k = 6 ∧ LS l 18 then some (.int .i64 sm) else none
structure SayC (s7 : Value) (q : Nat) (lo hi sm : Int) (a : Act) : Prop where
  tz : a.tmps.size = 109
  df : a.defers = []
  c2 : a.tmps.getD 2 undef = .pointer (some ⟨q, 0, none⟩)
  c7 : a.tmps.getD 7 undef = s7
  c11 : a.tmps.getD 11 undef = .int .i64 lo
  c12 : a.tmps.getD 12 undef = .int .i64 hi
  c13 : a.tmps.getD 13 undef = .int .i64 sm
structure SayM (P : Program) (k : TypeId) (W : World) (mb : Nat) (x0 lo hi sm : Int) (l : Array Bool) (w : World) : Prop where
  bel : Below mb W w
  m0 : ¬ LS l 0 → w.heap.size = mb
  m1 : LS l 0 → ∃ n, n + unlisted l ≤ 26 ∧ IMap P k w mb n (sayFm l x0 lo hi sm)
structure SayI (P : Program) (k : TypeId) (W : World) (mb : Nat) (s7 : Value) (b3 o3 q : Nat) (x0 lo hi sm p res : Int) (l : Array Bool) (a : Act) (w : World) : Prop where
  sz : l.size = 26
  cs : SayC s7 q lo hi sm a
  vals : ValsAt (sayTab mb s7 b3 o3 q x0 lo hi sm p res) l a
  mem : SayM P k W mb x0 lo hi sm l w
  cl : LS l 19 → ∀ i, i < 19 → LS l i
  ins : ∀ j, j ∈ [4, 8, 12, 14, 16, 18] → LS l j → LS l 0

theorem SayC.put {s7 : Value} {q : Nat} {lo hi sm : Int} {a : Act} (h : SayC s7 q lo hi sm a) {d : Nat} (v : Value) (h2 : d ≠ 2) (h7 : d ≠ 7) (h11 : d ≠ 11) (h12 : d ≠ 12) (h13 : d ≠ 13) : SayC s7 q lo hi sm (a.put (some d) v) :=
  ⟨by simp [Act.put, h.tz], by simp [Act.put, h.df], (put_other (Ne.symm h2)).trans h.c2, (put_other (Ne.symm h7)).trans h.c7, (put_other (Ne.symm h11)).trans h.c11, (put_other (Ne.symm h12)).trans h.c12, (put_other (Ne.symm h13)).trans h.c13⟩
theorem LS.iff_set {l : Array Bool} {i j : Nat} (h : j ≠ i) : LS (l.setIfInBounds i true) j ↔ LS l j := ⟨fun x => x.other h, fun x => x.set⟩
theorem sayFm_other {l : Array Bool} {i : Nat} (x0 lo hi sm : Int) (h4 : i ≠ 4) (h8 : i ≠ 8) (h12 : i ≠ 12) (h14 : i ≠ 14) (h16 : i ≠ 16) (h18 : i ≠ 18) : sayFm (l.setIfInBounds i true) x0 lo hi sm = sayFm l x0 lo hi sm := by
  funext k
  unfold sayFm
  simp only [LS.iff_set (Ne.symm h4), LS.iff_set (Ne.symm h8), LS.iff_set (Ne.symm h12), LS.iff_set (Ne.symm h14), LS.iff_set (Ne.symm h16), LS.iff_set (Ne.symm h18)]
theorem SayM.keep {P : Program} {k : TypeId} {W : World} {mb : Nat} {x0 lo hi sm : Int} {l : Array Bool} {w : World} (h : SayM P k W mb x0 lo hi sm l w) {i : Nat} (hi' : i < l.size) (hu : l.getD i true = false) (h0 : i ≠ 0) (h4 : i ≠ 4) (h8 : i ≠ 8) (h12 : i ≠ 12) (h14 : i ≠ 14) (h16 : i ≠ 16) (h18 : i ≠ 18) :
    SayM P k W mb x0 lo hi sm (l.setIfInBounds i true) w :=
  ⟨h.bel, fun hn => h.m0 fun hl => hn hl.set, fun hl => by
    obtain ⟨n, hn, hm⟩ := h.m1 (hl.other (Ne.symm h0))
    have := unlisted_set hi' hu
    exact ⟨n, by omega, by rw [sayFm_other x0 lo hi sm h4 h8 h12 h14 h16 h18]; exact hm⟩⟩

theorem sayTab_nd1 (mb : Nat) (s7 : Value) (b3 o3 q : Nat) (x0 lo hi sm p res : Int) : ((sayTab mb s7 b3 o3 q x0 lo hi sm p res).map (·.1)).Nodup := by
  have : (sayTab mb s7 b3 o3 q x0 lo hi sm p res).map (·.1) = [0, 1, 2, 3, 5, 6, 7, 9, 10, 11, 13, 15, 17, 19, 20, 21, 22, 23, 24, 25] := rfl
  rw [this]; decide
theorem sayTab_nd2 (mb : Nat) (s7 : Value) (b3 o3 q : Nat) (x0 lo hi sm p res : Int) : ((sayTab mb s7 b3 o3 q x0 lo hi sm p res).map (·.2.1)).Nodup := by
  have : (sayTab mb s7 b3 o3 q x0 lo hi sm p res).map (·.2.1) = [92, 93, 94, 95, 96, 97, 98, 99, 100, 101, 102, 103, 104, 105, 106, 107, 108, 4, 5, 6] := rfl
  rw [this]; decide
theorem unlisted_le (l : Array Bool) : unlisted l ≤ l.size := by
  unfold unlisted
  have := List.length_filter_le (fun b => !b) l.toList
  simpa using this
theorem zeroIn (w : World) : (zeroValue 3).run Tryz.prog w = .ok (.int .i64 0) w := by kernel_rfl
theorem say_pick {l : Array Bool} {p x0 lo hi sm : Int} (hp : 1 ≤ p ∧ p ≤ 6) (hall : ∀ j, j < 19 → LS l j) : (sayFm l x0 lo hi sm p).getD (.int .i64 0) = .int .i64 (pickO p x0 ⟨lo, hi, sm⟩) := by
  unfold sayFm pickO
  simp only [hall 4 (by decide), hall 8 (by decide), hall 12 (by decide), hall 14 (by decide), hall 16 (by decide), hall 18 (by decide), and_true]
  have hp' : p = 1 ∨ p = 2 ∨ p = 3 ∨ p = 4 ∨ p = 5 ∨ p = 6 := by omega
  rcases hp' with rfl | rfl | rfl | rfl | rfl | rfl <;> simp

/-- An operation that leaves a value, and the world as it was. -/
theorem SayI.value {P : Program} {k : TypeId} {W : World} {mb : Nat} {s7 : Value} {b3 o3 q : Nat} {x0 lo hi sm p res : Int} {l : Array Bool} {a : Act} {w : World} {Q : Exit → Act → World → Prop} (h : SayI P k W mb s7 b3 o3 q x0 lo hi sm p res l a w)
    {i d : Nat} {v : Value} {o : Oper} (hu : l.getD i true = false) (hm : (i, d, v) ∈ sayTab mb s7 b3 o3 q x0 lo hi sm p res) (ho : o.dst = some d) (hrun : (execOp a.eval o).run P w = .ok (.value v) w)
    (hii : (i ≠ 0 ∧ i ≠ 4 ∧ i ≠ 8 ∧ i ≠ 12 ∧ i ≠ 14 ∧ i ≠ 16 ∧ i ≠ 18) ∧ i < 26) (hd : (d ≠ 2 ∧ d ≠ 7 ∧ d ≠ 11 ∧ d ≠ 12 ∧ d ≠ 13) ∧ d < 109) (h19 : i = 19 → ∀ j, j < 19 → LS l j) :
    o.wp P a w (SayI P k W mb s7 b3 o3 q x0 lo hi sm p res (l.setIfInBounds i true)) Q := by
  unfold Oper.wp
  rw [hrun]
  simp only [Oper.upon, ho]
  obtain ⟨⟨i0, i4, i8, i12, i14, i16, i18⟩, i26⟩ := hii
  obtain ⟨⟨d2, d7, d11, d12, d13⟩, d109⟩ := hd
  refine ⟨by simp [h.sz], h.cs.put v d2 d7 d11 d12 d13, h.vals.put hm (sayTab_nd1 ..) (sayTab_nd2 ..) (by rw [h.cs.tz]; exact d109), h.mem.keep (by rw [h.sz]; exact i26) hu i0 i4 i8 i12 i14 i16 i18, fun hl j hj => ?_, fun j hj hl => (h.ins j hj (hl.other (by intro e; subst e; simp at hj; omega))).set⟩
  by_cases hi19 : i = 19
  · exact (h19 hi19 j hj).set
  · exact (h.cl (hl.other (Ne.symm hi19)) j hj).set

/-- A store into the map. -/
theorem SayI.insert {P : Program} {k e t : TypeId} {W : World} {mb : Nat} {s7 : Value} {b3 o3 q : Nat} {x0 lo hi sm p res : Int} {l : Array Bool} {a : Act} {w : World} {Q : Exit → Act → World → Prop} (h : SayI P k W mb s7 b3 o3 q x0 lo hi sm p res l a w)
    (ht : P.underlying t = some (.map k e)) (hk : P.underlying k = some (.int .i64)) {i : Nat} {o : Oper} {key : Int} {val : Value} {x : Operand} (hu : l.getD i true = false) (hdst : o.dst = none) (hop : o.op = .insert t (.tmp 92) (.const (.int .i64 key)) x) (hx : a.eval x = val)
    (h0 : LS l 0) (hkey : InI key) (hii : i < 26) (hti : ∀ y ∈ sayTab mb s7 b3 o3 q x0 lo hi sm p res, y.1 ≠ i) (hi19 : i ≠ 19) (hfm : ∀ s, putI (sayFm l x0 lo hi sm) key val s = sayFm (l.setIfInBounds i true) x0 lo hi sm s) :
    o.wp P a w (SayI P k W mb s7 b3 o3 q x0 lo hi sm p res (l.setIfInBounds i true)) Q := by
  obtain ⟨n, hn, hm⟩ := h.mem.m1 h0
  have hus := unlisted_set (by rw [h.sz]; exact hii) hu
  obtain ⟨w', hrun, hm', hb'⟩ := hm.update ht hk (n := n) (by unfold maxLen; omega) hkey val (Nat.le_refl mb)
  have h92 : a.eval (.tmp 92) = .map (some mb) := h.vals (0, 92, .map (some mb)) (by simp [sayTab]) h0
  have hkc : a.eval (.const (.int .i64 key)) = .int .i64 key := rfl
  have e : (execOp a.eval o).run P w = .ok .skip w' := by simp [execOp, hop, h92, hx, hkc, hrun, Result.andThen]
  unfold Oper.wp
  rw [e]
  simp only [Oper.upon, hdst, Act.put]
  refine ⟨by simp [h.sz], h.cs, h.vals.skip hti, ⟨h.mem.bel.trans hb', fun hn' => absurd (LS.set h0) hn', fun _ => ⟨n + 1, by omega, hm'.congr hfm⟩⟩, fun hl j hj => (h.cl (hl.other (Ne.symm hi19)) j hj).set, fun _ _ _ => h0.set⟩

/-- The map is made. -/
theorem SayI.make {k t : TypeId} {W : World} {mb : Nat} {s7 : Value} {b3 o3 q : Nat} {x0 lo hi sm p res : Int} {l : Array Bool} {a : Act} {w : World} {Q : Exit → Act → World → Prop} (h : SayI Tryz.prog k W mb s7 b3 o3 q x0 lo hi sm p res l a w)
    {o : Oper} (hu : l.getD 0 true = false) (hdst : o.dst = some 92) (hop : o.op = .makeMap t none) : o.wp Tryz.prog a w (SayI Tryz.prog k W mb s7 b3 o3 q x0 lo hi sm p res (l.setIfInBounds 0 true)) Q := by
  have hz : w.heap.size = mb := h.mem.m0 (LS.no hu)
  have e : (execOp a.eval o).run Tryz.prog w = .ok (.value (.map (some mb))) (w.alloc (.map #[] 0)) := by
    have hmm := @run_makeMap Tryz.prog
    simp [execOp, hop, hmm, hz, Result.andThen]
  have hus := unlisted_set (l := l) (i := 0) (by rw [h.sz]; decide) hu
  have hul := unlisted_le l
  have hsz := h.sz
  unfold Oper.wp
  rw [e]
  simp only [Oper.upon, hdst]
  refine ⟨by simp [h.sz], h.cs.put _ (by decide) (by decide) (by decide) (by decide) (by decide), h.vals.put (by simp [sayTab]) (sayTab_nd1 ..) (sayTab_nd2 ..) (by rw [h.cs.tz]; decide), ⟨h.mem.bel.alloc (by omega) _, fun hn => absurd (LS.self (by rw [h.sz]; decide)) hn, fun _ => ⟨0, by omega, ?_⟩⟩, fun hl j hj => (h.cl (hl.other (by decide)) j hj).set, fun _ _ _ => LS.self (by rw [h.sz]; decide)⟩
  have hm := IMap.made w Tryz.prog k
  rw [hz] at hm
  refine hm.congr fun s => ?_
  have hn : ∀ j, j ∈ [4, 8, 12, 14, 16, 18] → ¬ LS (l.setIfInBounds 0 true) j := fun j hj hl => LS.no hu (h.ins j hj (hl.other (by intro e; subst e; simp at hj)))
  unfold sayFm
  simp [hn 4 (by decide), hn 8 (by decide), hn 12 (by decide), hn 14 (by decide), hn 16 (by decide), hn 18 (by decide)]

set_option maxRecDepth 100000 in
set_option maxHeartbeats 3200000 in
theorem SaysOf_any {S T : Nat → Prop} {cs : List Value} {t : Tb} {u : Value} {ns : List Int} (w : World) (hl : rTb.rel w S cs t) (hn : (rSl rInt).rel w T [u] ns) :
    Calls Tryz.prog 64 #[.agg cs.toArray, u] w fun e w' => e = .returned (sayV (saysT t ns)) ∧ Below w.heap.size w w' := by
  have hl0 := hl
  obtain ⟨vi, vr, rfl, hnm, hp, hi, hr⟩ := hl
  obtain ⟨A, c, rfl, _, _, hi3, _⟩ := rSl.elems hi
  obtain ⟨B, d, rfl, _, _, hr3, hF⟩ := rSl.elems hr
  have hr5 : t.rules.length ≤ 4398046511104 := by simp only [rRl] at hr3; omega
  have hi5 : t.ins.length ≤ 8796093022208 := by simp only [rStr] at hi3; omega
  obtain ⟨W0, e0, HB0, HT0, c0, c1, c2, c3, c4, hs0⟩ : ∃ W0, w.alloc (.cells #[.string ⟨t.name.toArray⟩, .int .i64 t.pol, .bool t.comp, .slice A t.ins.length c, .slice B t.rules.length d] 42) = W0 ∧ Hid (Below w.heap.size w W0) ∧ Hid (rTb.rel W0 S [.string ⟨t.name.toArray⟩, .int .i64 t.pol, .bool t.comp, .slice A t.ins.length c, .slice B t.rules.length d] t) ∧
      W0.cell? ⟨w.heap.size, 0, none⟩ = some (.string ⟨t.name.toArray⟩) ∧ W0.cell? ⟨w.heap.size, 1, none⟩ = some (.int .i64 t.pol) ∧ W0.cell? ⟨w.heap.size, 2, none⟩ = some (.bool t.comp) ∧ W0.cell? ⟨w.heap.size, 3, none⟩ = some (.slice A t.ins.length c) ∧ W0.cell? ⟨w.heap.size, 4, none⟩ = some (.slice B t.rules.length d) ∧ w.heap.size < W0.heap.size :=
    ⟨_, rfl, Lib.hid ((Below.refl _ _).alloc (Nat.le_refl _) _), Lib.hid (Rd.alloc hl0 _), World.cell?_alloc_new _ _ _ _, World.cell?_alloc_new _ _ _ _, World.cell?_alloc_new _ _ _ _, World.cell?_alloc_new _ _ _ _, World.cell?_alloc_new _ _ _ _, by simp⟩
  have HF := Lib.hid hF
  have HR := Lib.hid hr
  have HN := Lib.hid hn
  obtain ⟨AU, cU, rfl, _, _, hn3, _⟩ := rSl.elems hn
  have hn5 : ns.length ≤ 17592186044416 := by simp only [rInt] at hn3; omega
  clear hi hr hr3 hF hl0 hn hnm hi3 hn3
  cases hgt : goodT t
  · have HFF : Hid (saysT t ns = (0, false, 1)) := Lib.hid (by unfold saysT; rw [if_neg (by simp [hgt])])
    have HGT := Lib.hid hgt
    clear hgt
    go_enter Tryz.func64, Tryz.ntmps64
    go_wp2_with (first | (go_at_call 56; go_must ((with_reducible refine (IsTable_b' W0 HT0.out HGT.out).mono ?_); rintro e w1 ⟨rfl, hb1⟩)))
    go_ret3
    exact ⟨says3 HFF.out, HB0.out.trans (hb1.mono HB0.out.size)⟩
  have HGT := Lib.hid hgt
  by_cases hlen : ns.length = t.ins.length
  case neg =>
    have hne : ((ns.length : Int) != (t.ins.length : Int)) = true := by rw [bne_iff_ne]; omega
    have HFF : Hid (saysT t ns = (0, false, 1)) := Lib.hid (by unfold saysT; rw [if_neg (by simp [hlen])])
    clear hgt hlen
    go_enter Tryz.func64, Tryz.ntmps64
    go_wp2_with (first | (go_at_call 56; go_must ((with_reducible refine (IsTable_b' W0 HT0.out HGT.out).mono ?_); rintro e w1 ⟨rfl, hb1⟩; have k3 := (hb1.cell (p := ⟨w.heap.size, 3, none⟩) hs0).trans c3)))
    go_ret3
    exact ⟨says3 HFF.out, HB0.out.trans (hb1.mono HB0.out.size)⟩
  have hne : ((ns.length : Int) != (t.ins.length : Int)) = false := by rw [bne_eq_false_iff_eq]; omega
  have HS : Hid (saysT t ns = if t.pol = 7 then (((outsL t.rules ns).length : Int), true, 0) else sayO t.pol (outsL t.rules ns)) := Lib.hid (by unfold saysT; rw [if_pos ⟨hgt, hlen⟩, sayL_eq])
  obtain ⟨hp1, hp7, _, _, _, hr6⟩ := goodT_head hgt
  have HOUT : Hid (∀ x ∈ outsL t.rules ns, -1000000 ≤ x ∧ x ≤ 1000000) := Lib.hid fun x hx => by
    unfold outsL at hx
    obtain ⟨r, hr, rfl⟩ := List.mem_map.1 hx
    exact goodT_out hgt (List.mem_filter.1 hr).1
  have hml : (matchesL t.rules ns).length ≤ t.rules.length := matchesTo_len _ _ _
  have HLT := Lib.hid fun i => matchesL_lt (rs := t.rules) (ns := ns) (i := i)
  have HOE := Lib.hid (outs_eq t.rules ns)
  have HMC := Lib.hid fun w1 (hb : Below w.heap.size w w1) => MatchesOf_any (x0 := .string ⟨t.name.toArray⟩) (x1 := .int .i64 t.pol) (x2 := .bool t.comp) (x3 := .slice A t.ins.length c) w1 (Rd.below HR.out hb) (Rd.below HN.out hb)
  generalize matchesL t.rules ns = ms at *
  clear hgt hlen hp
  go_enter Tryz.func64, Tryz.ntmps64
  go_wp2_with (first | (go_at_call 56; go_must ((with_reducible refine (IsTable_b' W0 HT0.out HGT.out).mono ?_); rintro e w1 ⟨rfl, hb1⟩; have k0 := (hb1.cell (p := ⟨w.heap.size, 0, none⟩) hs0).trans c0; have k1 := (hb1.cell (p := ⟨w.heap.size, 1, none⟩) hs0).trans c1; have k2 := (hb1.cell (p := ⟨w.heap.size, 2, none⟩) hs0).trans c2; have k3 := (hb1.cell (p := ⟨w.heap.size, 3, none⟩) hs0).trans c3; have k4 := (hb1.cell (p := ⟨w.heap.size, 4, none⟩) hs0).trans c4; have HB1 := Lib.hid (HB0.out.trans (hb1.mono HB0.out.size)); have HS1 : Hid (w.heap.size < w1.heap.size) := Lib.hid (Nat.lt_of_lt_of_le hs0 hb1.size); clear hb1)) | (go_at_call 60; go_must ((with_reducible refine (HMC.out w1 HB1.out).mono ?_); rintro e w2 ⟨z2, rfl, hown2, hb2⟩; obtain ⟨A2, l2, rfl⟩ := hown2.value; have HE2 := Lib.hid (hown2.elems (by decide) rfl).2; have HB2 := Lib.hid (HB1.out.trans (hb2.mono HB1.out.size)); have HC1 := Lib.hid ((hb2.cell (p := ⟨w.heap.size, 1, none⟩) HS1.out).trans k1); have HC4 := Lib.hid ((hb2.cell (p := ⟨w.heap.size, 4, none⟩) HS1.out).trans k4); have HS2 : Hid (w.heap.size < w2.heap.size) := Lib.hid (Nat.lt_of_lt_of_le HS1.out hb2.size); clear hb2 hown2 k0 k1 k2 k3 k4)))
  clear e0 c0 c1 c2 c3 c4
  go_loopw [7, 31] (fun o i wr => ∃ k : Nat, k ≤ ms.length ∧ i = .int .i64 k ∧ Hid (Own rInt 3 wr w2.heap.size (fun _ => False) o ((ms.take k).map (outAt t.rules))) ∧ Hid (Below w2.heap.size w2 wr)) (fun _ i _ => ms.length - (intOf i).toNat)
  case atStart => exact ⟨0, Nat.zero_le _, rfl, Lib.hid (by rw [List.take_zero]; exact Own.nil _ _ _ _ _), Lib.hid (Below.refl _ _)⟩
  case round =>
    obtain ⟨k, hk, rfl, HOW, HB⟩ := hrel
    have HBW := Lib.hid (HB2.out.trans (HB.out.mono HB2.out.size))
    by_cases hlt : k < ms.length
    · obtain ⟨b, off, m, rfl, _, hb, hx, _, h1⟩ := HE2.out.intAt hlt
      obtain ⟨j, rfl, hj⟩ := HLT.out m (List.mem_of_getElem? hx)
      rw [← HB.out.cell (p := ⟨b, _, none⟩) hb] at h1
      obtain ⟨bR, offR, r, q, rfl, _, hbR, hxr, hri, _, _, h2⟩ := HF.out.rl hj
      rw [← HBW.out.cell (p := ⟨bR, _, none⟩) hbR] at h2
      have g4 := (HB.out.cell (p := ⟨w.heap.size, 4, none⟩) HS2.out).trans HC4.out
      have hik : (k : Int) < (ms.length : Int) := by omega
      have hij : (j : Int) < (t.rules.length : Int) := by omega
      have HNX : Hid ((ms.take (k + 1)).map (outAt t.rules) = (ms.take k).map (outAt t.rules) ++ [r.out]) := Lib.hid (by
        rw [List.take_add_one, hx, Option.toList_some, List.map_append]
        simp [outAt, hxr])
      have HBY : Hid ((((ms.take k).map (outAt t.rules)).length + 1) * rInt.bytes ≤ 140737488355328) := Lib.hid (by
        have : ((ms.take k).map (outAt t.rules)).length ≤ k := by rw [List.length_map]; exact List.length_take_le _ _
        simp only [rInt]; omega)
      have HRI := Lib.hid hri
      clear hx hxr hri
      generalize hpre : (ms.take k).map (outAt t.rules) = pre at *
      clear hpre
      go_wp2_with (first | (at_builtin; go_must (refine wpList_append_new (R := rInt) (x := r.out) el_I rfl (.tmp 35) (.tmp 42) rfl rfl HOW.out [.int .i64 r.out] rfl rfl (fun _ => False) ⟨rfl, HRI.out⟩ (fun _ h => h.elim) HBY.out HB.out.size ?_); intro v9 w9 hown9 hb9 _ _))
      go_roundw
      case rel => exact ⟨k + 1, by omega, by go_num, Lib.hid (by rw [HNX.out]; exact hown9), Lib.hid (HB.out.trans hb9)⟩
      case measure => simp [intOf]; omega
    · have HOWf : Hid (Own rInt 3 wr w2.heap.size (fun _ => False) u7 (outsL t.rules ns)) := Lib.hid (by have := HOW.out; rwa [List.take_of_length_le (by omega), HOE.out] at this)
      have hol : (outsL t.rules ns).length ≤ 6 := by rw [← HOE.out, List.length_map]; omega
      have d1 := (HB.out.cell (p := ⟨w.heap.size, 1, none⟩) HS2.out).trans HC1.out
      obtain ⟨A3, l3, rfl⟩ := HOWf.out.value
      have HE3 := Lib.hid (HOWf.out.elems (by decide) rfl).2
      have HZ3 : Hid (w.heap.size < wr.heap.size) := Lib.hid (Nat.lt_of_lt_of_le HS2.out HB.out.size)
      generalize outsL t.rules ns = outs at *
      clear HOW HOE HLT HE2 HMC
      have HP1 := Lib.hid hp1
      have HP7 := Lib.hid hp7
      clear hp1 hp7
      generalize hpe : t.pol = p at *
      clear hpe
      by_cases h7 : p = 7
      · have hq7 : (p == 7) = true := by rw [beq_iff_eq]; exact h7
        have HFF : Hid (saysT t ns = ((outs.length : Int), true, 0)) := Lib.hid (by rw [HS.out, if_pos h7])
        clear h7
        go_wp2
        go_ret3
        exact ⟨says3 HFF.out, HBW.out⟩
      have hq7 : (p == 7) = false := by rw [beq_eq_false_iff_ne]; exact h7
      have HS1 : Hid (saysT t ns = sayO p outs) := Lib.hid (by rw [HS.out, if_neg h7])
      have HP6 : Hid (1 ≤ p ∧ p ≤ 6) := Lib.hid ⟨HP1.out, by have := HP7.out; omega⟩
      clear h7 HS HP1 HP7
      by_cases hz : outs.length = 0
      · have HFF : Hid (saysT t ns = (0, false, 0)) := Lib.hid (by rw [HS1.out, List.eq_nil_of_length_eq_zero hz]; rfl)
        have hz1 : ((outs.length : Int) == 0) = true := by rw [beq_iff_eq]; omega
        clear hol hz
        go_wp2
        go_ret3
        exact ⟨says3 HFF.out, HBW.out⟩
      obtain ⟨x0, os, hos⟩ : ∃ x0 os, outs = x0 :: os := by
        cases outs with
        | nil => exact absurd rfl hz
        | cons a l => exact ⟨a, l, rfl⟩
      have HS2' : Hid (saysT t ns = sayR p outs) := Lib.hid (by rw [HS1.out, hos]; exact sayR_eq HP6.out.1 HP6.out.2 x0 os)
      have hlen1 : 0 < outs.length := by omega
      have hx0 : outs[0]? = some x0 := by rw [hos]; rfl
      have HX0 : Hid (outs.headD 0 = x0) := Lib.hid (by rw [hos]; rfl)
      obtain ⟨b3, o3, y0, rfl, _, hb3, hy0, _, g0⟩ := HE3.out.intAt hlen1
      obtain rfl : x0 = y0 := by rw [hx0] at hy0; exact Option.some.inj hy0
      have hbx := HOUT.out x0 (List.mem_of_getElem? hx0)
      have hn0 : ((outs.length : Int) == 0) = false := by rw [beq_eq_false_iff_ne]; omega
      clear hos hx0 hy0 HS1 hz
      rw [Nat.add_zero] at g0
      have hdl : decide (0 < outs.length) = true := decide_eq_true hlen1
      have hdl2 : decide ((0 : Int) < (outs.length : Int)) = true := decide_eq_true (by omega)
      go_wp2
      go_quiet (fail)
      all_goals go_wp2
      have HG := Lib.hid g0
      clear g0
      obtain ⟨wo, hwo⟩ : ∃ x, x = wr := ⟨_, rfl⟩
      subst hwo
      go_loopw [11, 12, 13, 61] (fun s11 s12 s13 i wq => ∃ (k : Nat) (a : Acc3), k ≤ outs.length ∧ i = .int .i64 k ∧ s11 = .int .i64 a.lo ∧ s12 = .int .i64 a.hi ∧ s13 = .int .i64 a.sm ∧ Hid ((outs.take k).foldl acc3 ⟨x0, x0, 0⟩ = a) ∧ (-1000000 ≤ a.lo ∧ a.lo ≤ 1000000) ∧ (-1000000 ≤ a.hi ∧ a.hi ≤ 1000000) ∧ (-(1000000 * (k : Int)) ≤ a.sm ∧ a.sm ≤ 1000000 * (k : Int)) ∧ Hid (Below wo.heap.size wo wq)) (fun _ _ _ i _ => outs.length - (intOf i).toNat)
      case atStart => exact ⟨0, ⟨x0, x0, 0⟩, Nat.zero_le _, rfl, rfl, rfl, rfl, Lib.hid rfl, by simp; omega, by simp; omega, by simp, Lib.hid (drewN_below (Below.refl _ _) _)⟩
      case round =>
        obtain ⟨m, ⟨lo, hi, sm⟩, hm, rfl, rfl, rfl, rfl, HA, ⟨q1, q2⟩, ⟨q3, q4⟩, ⟨q5, q6⟩, HBq⟩ := hrel
        dsimp only at q1 q2 q3 q4 q5 q6
        by_cases hlm : m < outs.length
        · obtain ⟨b4, o4, x, hA4, _, hb4, hx, _, g1⟩ := HE3.out.intAt hlm
          obtain ⟨rfl, rfl⟩ : b3 = b4 ∧ o3 = o4 := by simpa using hA4
          rw [← HBq.out.cell (p := ⟨b3, _, none⟩) hb4] at g1
          have him : (m : Int) < (outs.length : Int) := by omega
          have ⟨x1, x2⟩ := HOUT.out x (List.mem_of_getElem? hx)
          have HA2 : Hid ((outs.take (m + 1)).foldl acc3 ⟨x0, x0, 0⟩ = ⟨min lo x, max hi x, sm + x⟩) := Lib.hid (by rw [acc3_snoc hx, HA.out]; rfl)
          clear hx hA4
          go_wp2
          go_roundw
          case rel => exact ⟨m + 1, ⟨min lo x, max hi x, sm + x⟩, by omega, by go_num, rfl, rfl, rfl, HA2, by dsimp only; omega, by dsimp only; omega, by dsimp only; omega, HBq⟩
          case measure => simp [intOf]; omega
        · have HAF : Hid (acc3To outs = ⟨lo, hi, sm⟩) := Lib.hid (by
            have := HA.out
            rw [List.take_of_length_le (by omega)] at this
            unfold acc3To
            rw [HX0.out]; exact this)
          have HSR : Hid (saysT t ns = if (p = 1 ∧ 1 < outs.length) ∨ (p = 2 ∧ lo ≠ hi) then (0, false, 4) else (pickO p x0 ⟨lo, hi, sm⟩, true, 0)) := Lib.hid (by rw [HS2'.out, sayR, HAF.out, HX0.out])
          have HBF := Lib.hid (HBW.out.trans (HBq.out.mono HBW.out.size))
          have d1 := (HBq.out.cell (p := ⟨w.heap.size, 1, none⟩) HZ3.out).trans ((HB.out.cell (p := ⟨w.heap.size, 1, none⟩) HS2.out).trans HC1.out)
          clear HS2' HAF HA
          go_upto_region 20 with fail
          go_cut [91] (fun s91 wx => s91 = .bool (decide ((p = 1 ∧ 1 < outs.length) ∨ (p = 2 ∧ lo ≠ hi))) ∧ wx = wr)
          case first =>
            by_cases e1 : p = 1
            · have e1' : (p == 1) = true := by rw [beq_iff_eq]; exact e1
              have e2' : (p == 2) = false := by rw [beq_eq_false_iff_ne]; omega
              by_cases e3 : 1 < outs.length
              · have e3' : decide ((1 : Int) < (outs.length : Int)) = true := decide_eq_true (by omega)
                have HD : Hid (decide ((p = 1 ∧ 1 < outs.length) ∨ (p = 2 ∧ lo ≠ hi)) = true) := Lib.hid (decide_eq_true (.inl ⟨e1, e3⟩))
                clear e1 e3
                go_wp2
                go_meet
                exact ⟨by rw [HD.out], rfl⟩
              · have e3' : decide ((1 : Int) < (outs.length : Int)) = false := decide_eq_false (by omega)
                have HD : Hid (decide ((p = 1 ∧ 1 < outs.length) ∨ (p = 2 ∧ lo ≠ hi)) = false) := Lib.hid (decide_eq_false (by rintro (⟨_, h⟩ | ⟨h, _⟩) <;> omega))
                clear e1 e3
                go_wp2
                go_meet
                exact ⟨by rw [HD.out], rfl⟩
            · have e1' : (p == 1) = false := by rw [beq_eq_false_iff_ne]; exact e1
              by_cases e2 : p = 2
              · have e2' : (p == 2) = true := by rw [beq_iff_eq]; exact e2
                by_cases e4 : lo = hi
                · have e4' : (lo != hi) = false := by rw [bne_eq_false_iff_eq]; exact e4
                  have HD : Hid (decide ((p = 1 ∧ 1 < outs.length) ∨ (p = 2 ∧ lo ≠ hi)) = false) := Lib.hid (decide_eq_false (by rintro (⟨h, _⟩ | ⟨_, h⟩) <;> omega))
                  clear e1 e2 e4
                  go_wp2
                  go_meet
                  exact ⟨by rw [HD.out], rfl⟩
                · have e4' : (lo != hi) = true := by rw [bne_iff_ne]; exact e4
                  have HD : Hid (decide ((p = 1 ∧ 1 < outs.length) ∨ (p = 2 ∧ lo ≠ hi)) = true) := Lib.hid (decide_eq_true (.inr ⟨e2, e4⟩))
                  clear e1 e2 e4
                  go_wp2
                  go_meet
                  exact ⟨by rw [HD.out], rfl⟩
              · have e2' : (p == 2) = false := by rw [beq_eq_false_iff_ne]; exact e2
                have HD : Hid (decide ((p = 1 ∧ 1 < outs.length) ∨ (p = 2 ∧ lo ≠ hi)) = false) := Lib.hid (decide_eq_false (by rintro (⟨h, _⟩ | ⟨h, _⟩) <;> omega))
                clear e1 e2
                go_wp2
                go_meet
                exact ⟨by rw [HD.out], rfl⟩
          case rest =>
            obtain ⟨rfl, hw⟩ := hcut
            subst hw
            by_cases hE : (p = 1 ∧ 1 < outs.length) ∨ (p = 2 ∧ lo ≠ hi)
            · have HFF : Hid (saysT t ns = (0, false, 4)) := Lib.hid (by rw [HSR.out, if_pos hE])
              rw [decide_eq_true hE]
              clear hE
              go_wp2
              go_ret3
              exact ⟨says3 HFF.out, HBF.out⟩
            · have HFF : Hid (saysT t ns = (pickO p x0 ⟨lo, hi, sm⟩, true, 0)) := Lib.hid (by rw [HSR.out, if_neg hE])
              rw [decide_eq_false hE]
              clear hE
              go_wp2
              have HLB : Hid (b3 < wc.heap.size ∧ w.heap.size < wc.heap.size) := Lib.hid ⟨Nat.lt_of_lt_of_le hb3 HBq.out.size, Nat.lt_of_lt_of_le HZ3.out HBq.out.size⟩
              have HG0 : Hid (wc.cell? ⟨b3, o3, none⟩ = some (.int .i64 x0)) := Lib.hid ((HBq.out.cell (p := ⟨b3, o3, none⟩) hb3).trans HG.out)
              have HD1 := Lib.hid d1
              refine wp_region_inv (by kernel_rfl) (by kernel_rfl) (SayI Tryz.prog 3 wc wc.heap.size (.slice (some ⟨b3, o3, none⟩) outs.length l3) b3 o3 w.heap.size x0 lo hi sm p (pickO p x0 ⟨lo, hi, sm⟩)) ?_ (fun _ _ _ h => h.sz) ?_ ?_
              · exact ⟨by simp, ⟨rfl, rfl, rfl, rfl, rfl, rfl, rfl⟩, fun _ _ h => absurd h LS_rep, ⟨drewN_below (Below.refl _ _) 1, fun _ => rfl, fun h => absurd h LS_rep⟩, fun h => absurd h LS_rep, fun _ _ h => absurd h LS_rep⟩
              · intro l a w' hI hall
                have v4 := hI.vals (23, 4, .int .i64 (pickO p x0 ⟨lo, hi, sm⟩)) (by simp [sayTab]) (hall 23 (by decide))
                have v5 := hI.vals (24, 5, .bool true) (by simp [sayTab]) (hall 24 (by decide))
                have v6 := hI.vals (25, 6, .int .i64 0) (by simp [sayTab]) (hall 25 (by decide))
                have hbl := HBF.out.trans (hI.mem.bel.mono HBF.out.size)
                have hdf := hI.cs.df
                clear hI
                go_wp2
                refine bodyPost_ret (v := .tuple #[.int .i64 (pickO p x0 ⟨lo, hi, sm⟩), .bool true, .int .i64 0]) ?_ hdf ⟨says3 HFF.out, hbl⟩
                have g4 : a.tmps[4]?.getD undef = .int .i64 (pickO p x0 ⟨lo, hi, sm⟩) := by simpa [Array.getD_eq_getD_getElem?] using v4
                have g5 : a.tmps[5]?.getD undef = .bool true := by simpa [Array.getD_eq_getD_getElem?] using v5
                have g6 : a.tmps[6]?.getD undef = .int .i64 0 := by simpa [Array.getD_eq_getD_getElem?] using v6
                simp [results, Tryz.results64, g4, g5, g6]
              · intro l a w' i o hI ho hu hdep
                have hlt : i < 26 := (Array.getElem?_eq_some_iff.1 ho).1
                match i, hlt, ho, hu, hdep with
                | 0, _, ho, hu, hdep =>
                  have ho' := Option.some.inj (show some _ = some o from ho)
                  subst ho'
                  exact ⟨rfl, hI.make hu rfl rfl⟩
                | 1, _, ho, hu, hdep =>
                  have ho' := Option.some.inj (show some _ = some o from ho)
                  subst ho'
                  refine ⟨rfl, hI.value hu (v := (.slice (some ⟨b3, o3, none⟩) outs.length l3)) (d := 93) (by simp [sayTab]) rfl ?_ (by decide) (by decide) (by intro h; cases h)⟩
                  simp [execOp, show a.eval (.tmp 7) = (.slice (some ⟨b3, o3, none⟩) outs.length l3) from hI.cs.c7]
                | 5, _, ho, hu, hdep =>
                  have ho' := Option.some.inj (show some _ = some o from ho)
                  subst ho'
                  refine ⟨rfl, hI.value hu (v := (.slice (some ⟨b3, o3, none⟩) outs.length l3)) (d := 96) (by simp [sayTab]) rfl ?_ (by decide) (by decide) (by intro h; cases h)⟩
                  simp [execOp, show a.eval (.tmp 7) = (.slice (some ⟨b3, o3, none⟩) outs.length l3) from hI.cs.c7]
                | 9, _, ho, hu, hdep =>
                  have ho' := Option.some.inj (show some _ = some o from ho)
                  subst ho'
                  refine ⟨rfl, hI.value hu (v := (.slice (some ⟨b3, o3, none⟩) outs.length l3)) (d := 99) (by simp [sayTab]) rfl ?_ (by decide) (by decide) (by intro h; cases h)⟩
                  simp [execOp, show a.eval (.tmp 7) = (.slice (some ⟨b3, o3, none⟩) outs.length l3) from hI.cs.c7]
                | 2, _, ho, hu, hdep =>
                  have ho' := Option.some.inj (show some _ = some o from ho)
                  subst ho'
                  have l1 : LS l 1 := hdep ⟨1, .data⟩ (by simp) (by decide)
                  have e1 : a.eval (.tmp 93) = (.slice (some ⟨b3, o3, none⟩) outs.length l3) := hI.vals (1, 93, _) (by simp [sayTab]) l1
                  have f1 : a.tmps[93]?.getD undef = (.slice (some ⟨b3, o3, none⟩) outs.length l3) := by have h := e1; simpa [Act.eval, Array.getD_eq_getD_getElem?] using h
                  refine ⟨rfl, hI.value hu (v := .pointer (some ⟨b3, o3, none⟩)) (d := 94) (by simp [sayTab]) rfl ?_ (by decide) (by decide) (by intro h; cases h)⟩
                  simp [execOp, f1, go_sem, hlen1]
                | 6, _, ho, hu, hdep =>
                  have ho' := Option.some.inj (show some _ = some o from ho)
                  subst ho'
                  have l5 : LS l 5 := hdep ⟨5, .data⟩ (by simp) (by decide)
                  have e5 : a.eval (.tmp 96) = (.slice (some ⟨b3, o3, none⟩) outs.length l3) := hI.vals (5, 96, _) (by simp [sayTab]) l5
                  have f5 : a.tmps[96]?.getD undef = (.slice (some ⟨b3, o3, none⟩) outs.length l3) := by have h := e5; simpa [Act.eval, Array.getD_eq_getD_getElem?] using h
                  refine ⟨rfl, hI.value hu (v := .pointer (some ⟨b3, o3, none⟩)) (d := 97) (by simp [sayTab]) rfl ?_ (by decide) (by decide) (by intro h; cases h)⟩
                  simp [execOp, f5, go_sem, hlen1]
                | 10, _, ho, hu, hdep =>
                  have ho' := Option.some.inj (show some _ = some o from ho)
                  subst ho'
                  have l9 : LS l 9 := hdep ⟨9, .data⟩ (by simp) (by decide)
                  have e9 : a.eval (.tmp 99) = (.slice (some ⟨b3, o3, none⟩) outs.length l3) := hI.vals (9, 99, _) (by simp [sayTab]) l9
                  have f9 : a.tmps[99]?.getD undef = (.slice (some ⟨b3, o3, none⟩) outs.length l3) := by have h := e9; simpa [Act.eval, Array.getD_eq_getD_getElem?] using h
                  refine ⟨rfl, hI.value hu (v := .pointer (some ⟨b3, o3, none⟩)) (d := 100) (by simp [sayTab]) rfl ?_ (by decide) (by decide) (by intro h; cases h)⟩
                  simp [execOp, f9, go_sem, hlen1]
                | 3, _, ho, hu, hdep =>
                  have ho' := Option.some.inj (show some _ = some o from ho)
                  subst ho'
                  have l2 : LS l 2 := hdep ⟨2, .data⟩ (by simp) (by decide)
                  have e2 : a.eval (.tmp 94) = .pointer (some ⟨b3, o3, none⟩) := hI.vals (2, 94, _) (by simp [sayTab]) l2
                  have f2 : a.tmps[94]?.getD undef = .pointer (some ⟨b3, o3, none⟩) := by have h := e2; simpa [Act.eval, Array.getD_eq_getD_getElem?] using h
                  have hc : w'.cell? ⟨b3, o3, none⟩ = some (.int .i64 x0) := (hI.mem.bel.cell (p := ⟨b3, o3, none⟩) HLB.out.1).trans HG0.out
                  refine ⟨rfl, hI.value hu (v := .int .i64 x0) (d := 95) (by simp [sayTab]) rfl ?_ (by decide) (by decide) (by intro h; cases h)⟩
                  simp [execOp, f2, go_sem, hc]
                | 7, _, ho, hu, hdep =>
                  have ho' := Option.some.inj (show some _ = some o from ho)
                  subst ho'
                  have l6 : LS l 6 := hdep ⟨6, .data⟩ (by simp) (by decide)
                  have e6 : a.eval (.tmp 97) = .pointer (some ⟨b3, o3, none⟩) := hI.vals (6, 97, _) (by simp [sayTab]) l6
                  have f6 : a.tmps[97]?.getD undef = .pointer (some ⟨b3, o3, none⟩) := by have h := e6; simpa [Act.eval, Array.getD_eq_getD_getElem?] using h
                  have hc : w'.cell? ⟨b3, o3, none⟩ = some (.int .i64 x0) := (hI.mem.bel.cell (p := ⟨b3, o3, none⟩) HLB.out.1).trans HG0.out
                  refine ⟨rfl, hI.value hu (v := .int .i64 x0) (d := 98) (by simp [sayTab]) rfl ?_ (by decide) (by decide) (by intro h; cases h)⟩
                  simp [execOp, f6, go_sem, hc]
                | 11, _, ho, hu, hdep =>
                  have ho' := Option.some.inj (show some _ = some o from ho)
                  subst ho'
                  have l10 : LS l 10 := hdep ⟨10, .data⟩ (by simp) (by decide)
                  have e10 : a.eval (.tmp 100) = .pointer (some ⟨b3, o3, none⟩) := hI.vals (10, 100, _) (by simp [sayTab]) l10
                  have f10 : a.tmps[100]?.getD undef = .pointer (some ⟨b3, o3, none⟩) := by have h := e10; simpa [Act.eval, Array.getD_eq_getD_getElem?] using h
                  have hc : w'.cell? ⟨b3, o3, none⟩ = some (.int .i64 x0) := (hI.mem.bel.cell (p := ⟨b3, o3, none⟩) HLB.out.1).trans HG0.out
                  refine ⟨rfl, hI.value hu (v := .int .i64 x0) (d := 101) (by simp [sayTab]) rfl ?_ (by decide) (by decide) (by intro h; cases h)⟩
                  simp [execOp, f10, go_sem, hc]
                | 13, _, ho, hu, hdep =>
                  have ho' := Option.some.inj (show some _ = some o from ho)
                  subst ho'
                  refine ⟨rfl, hI.value hu (v := .int .i64 lo) (d := 102) (by simp [sayTab]) rfl ?_ (by decide) (by decide) (by intro h; cases h)⟩
                  simp [execOp, show a.eval (.tmp 11) = .int .i64 lo from hI.cs.c11]
                | 15, _, ho, hu, hdep =>
                  have ho' := Option.some.inj (show some _ = some o from ho)
                  subst ho'
                  refine ⟨rfl, hI.value hu (v := .int .i64 hi) (d := 103) (by simp [sayTab]) rfl ?_ (by decide) (by decide) (by intro h; cases h)⟩
                  simp [execOp, show a.eval (.tmp 12) = .int .i64 hi from hI.cs.c12]
                | 17, _, ho, hu, hdep =>
                  have ho' := Option.some.inj (show some _ = some o from ho)
                  subst ho'
                  refine ⟨rfl, hI.value hu (v := .int .i64 sm) (d := 104) (by simp [sayTab]) rfl ?_ (by decide) (by decide) (by intro h; cases h)⟩
                  simp [execOp, show a.eval (.tmp 13) = .int .i64 sm from hI.cs.c13]
                | 4, _, ho, hu, hdep =>
                  have ho' := Option.some.inj (show some _ = some o from ho)
                  subst ho'
                  have l0 : LS l 0 := hdep ⟨0, .data⟩ (by simp) (by decide)
                  have l3 : LS l 3 := hdep ⟨3, .data⟩ (by simp) (by decide)
                  have e3 : a.eval (.tmp 95) = .int .i64 x0 := hI.vals (3, 95, _) (by simp [sayTab]) l3
                  have f3 : a.tmps[95]?.getD undef = .int .i64 x0 := by have h := e3; simpa [Act.eval, Array.getD_eq_getD_getElem?] using h
                  refine ⟨rfl, hI.insert Tryz.underlying175 Tryz.underlying3 hu rfl rfl e3 l0 (by unfold InI; omega) (by decide) (by simp [sayTab]) (by decide) fun s => ?_⟩
                  unfold putI sayFm
                  have hself := LS.self (l := l) (i := 4) (by rw [hI.sz]; decide)
                  simp only [LS.iff_set (l := l) (i := 4) (j := 8) (by decide), LS.iff_set (l := l) (i := 4) (j := 12) (by decide), LS.iff_set (l := l) (i := 4) (j := 14) (by decide), LS.iff_set (l := l) (i := 4) (j := 16) (by decide), LS.iff_set (l := l) (i := 4) (j := 18) (by decide), hself, and_true]
                  by_cases hs : s = 1
                  · subst hs; simp
                  · simp [hs]
                | 8, _, ho, hu, hdep =>
                  have ho' := Option.some.inj (show some _ = some o from ho)
                  subst ho'
                  have l0 : LS l 0 := hdep ⟨0, .data⟩ (by simp) (by decide)
                  have l7 : LS l 7 := hdep ⟨7, .data⟩ (by simp) (by decide)
                  have e7 : a.eval (.tmp 98) = .int .i64 x0 := hI.vals (7, 98, _) (by simp [sayTab]) l7
                  have f7 : a.tmps[98]?.getD undef = .int .i64 x0 := by have h := e7; simpa [Act.eval, Array.getD_eq_getD_getElem?] using h
                  refine ⟨rfl, hI.insert Tryz.underlying175 Tryz.underlying3 hu rfl rfl e7 l0 (by unfold InI; omega) (by decide) (by simp [sayTab]) (by decide) fun s => ?_⟩
                  unfold putI sayFm
                  have hself := LS.self (l := l) (i := 8) (by rw [hI.sz]; decide)
                  simp only [LS.iff_set (l := l) (i := 8) (j := 4) (by decide), LS.iff_set (l := l) (i := 8) (j := 12) (by decide), LS.iff_set (l := l) (i := 8) (j := 14) (by decide), LS.iff_set (l := l) (i := 8) (j := 16) (by decide), LS.iff_set (l := l) (i := 8) (j := 18) (by decide), hself, and_true]
                  by_cases hs : s = 2
                  · subst hs; simp
                  · simp [hs]
                | 12, _, ho, hu, hdep =>
                  have ho' := Option.some.inj (show some _ = some o from ho)
                  subst ho'
                  have l0 : LS l 0 := hdep ⟨0, .data⟩ (by simp) (by decide)
                  have l11 : LS l 11 := hdep ⟨11, .data⟩ (by simp) (by decide)
                  have e11 : a.eval (.tmp 101) = .int .i64 x0 := hI.vals (11, 101, _) (by simp [sayTab]) l11
                  have f11 : a.tmps[101]?.getD undef = .int .i64 x0 := by have h := e11; simpa [Act.eval, Array.getD_eq_getD_getElem?] using h
                  refine ⟨rfl, hI.insert Tryz.underlying175 Tryz.underlying3 hu rfl rfl e11 l0 (by unfold InI; omega) (by decide) (by simp [sayTab]) (by decide) fun s => ?_⟩
                  unfold putI sayFm
                  have hself := LS.self (l := l) (i := 12) (by rw [hI.sz]; decide)
                  simp only [LS.iff_set (l := l) (i := 12) (j := 4) (by decide), LS.iff_set (l := l) (i := 12) (j := 8) (by decide), LS.iff_set (l := l) (i := 12) (j := 14) (by decide), LS.iff_set (l := l) (i := 12) (j := 16) (by decide), LS.iff_set (l := l) (i := 12) (j := 18) (by decide), hself, and_true]
                  by_cases hs : s = 3
                  · subst hs; simp
                  · simp [hs]
                | 14, _, ho, hu, hdep =>
                  have ho' := Option.some.inj (show some _ = some o from ho)
                  subst ho'
                  have l0 : LS l 0 := hdep ⟨0, .data⟩ (by simp) (by decide)
                  have l13 : LS l 13 := hdep ⟨13, .data⟩ (by simp) (by decide)
                  have e13 : a.eval (.tmp 102) = .int .i64 lo := hI.vals (13, 102, _) (by simp [sayTab]) l13
                  have f13 : a.tmps[102]?.getD undef = .int .i64 lo := by have h := e13; simpa [Act.eval, Array.getD_eq_getD_getElem?] using h
                  refine ⟨rfl, hI.insert Tryz.underlying175 Tryz.underlying3 hu rfl rfl e13 l0 (by unfold InI; omega) (by decide) (by simp [sayTab]) (by decide) fun s => ?_⟩
                  unfold putI sayFm
                  have hself := LS.self (l := l) (i := 14) (by rw [hI.sz]; decide)
                  simp only [LS.iff_set (l := l) (i := 14) (j := 4) (by decide), LS.iff_set (l := l) (i := 14) (j := 8) (by decide), LS.iff_set (l := l) (i := 14) (j := 12) (by decide), LS.iff_set (l := l) (i := 14) (j := 16) (by decide), LS.iff_set (l := l) (i := 14) (j := 18) (by decide), hself, and_true]
                  by_cases hs : s = 4
                  · subst hs; simp
                  · simp [hs]
                | 16, _, ho, hu, hdep =>
                  have ho' := Option.some.inj (show some _ = some o from ho)
                  subst ho'
                  have l0 : LS l 0 := hdep ⟨0, .data⟩ (by simp) (by decide)
                  have l15 : LS l 15 := hdep ⟨15, .data⟩ (by simp) (by decide)
                  have e15 : a.eval (.tmp 103) = .int .i64 hi := hI.vals (15, 103, _) (by simp [sayTab]) l15
                  have f15 : a.tmps[103]?.getD undef = .int .i64 hi := by have h := e15; simpa [Act.eval, Array.getD_eq_getD_getElem?] using h
                  refine ⟨rfl, hI.insert Tryz.underlying175 Tryz.underlying3 hu rfl rfl e15 l0 (by unfold InI; omega) (by decide) (by simp [sayTab]) (by decide) fun s => ?_⟩
                  unfold putI sayFm
                  have hself := LS.self (l := l) (i := 16) (by rw [hI.sz]; decide)
                  simp only [LS.iff_set (l := l) (i := 16) (j := 4) (by decide), LS.iff_set (l := l) (i := 16) (j := 8) (by decide), LS.iff_set (l := l) (i := 16) (j := 12) (by decide), LS.iff_set (l := l) (i := 16) (j := 14) (by decide), LS.iff_set (l := l) (i := 16) (j := 18) (by decide), hself, and_true]
                  by_cases hs : s = 5
                  · subst hs; simp
                  · simp [hs]
                | 18, _, ho, hu, hdep =>
                  have ho' := Option.some.inj (show some _ = some o from ho)
                  subst ho'
                  have l0 : LS l 0 := hdep ⟨0, .data⟩ (by simp) (by decide)
                  have l17 : LS l 17 := hdep ⟨17, .data⟩ (by simp) (by decide)
                  have e17 : a.eval (.tmp 104) = .int .i64 sm := hI.vals (17, 104, _) (by simp [sayTab]) l17
                  have f17 : a.tmps[104]?.getD undef = .int .i64 sm := by have h := e17; simpa [Act.eval, Array.getD_eq_getD_getElem?] using h
                  refine ⟨rfl, hI.insert Tryz.underlying175 Tryz.underlying3 hu rfl rfl e17 l0 (by unfold InI; omega) (by decide) (by simp [sayTab]) (by decide) fun s => ?_⟩
                  unfold putI sayFm
                  have hself := LS.self (l := l) (i := 18) (by rw [hI.sz]; decide)
                  simp only [LS.iff_set (l := l) (i := 18) (j := 4) (by decide), LS.iff_set (l := l) (i := 18) (j := 8) (by decide), LS.iff_set (l := l) (i := 18) (j := 12) (by decide), LS.iff_set (l := l) (i := 18) (j := 14) (by decide), LS.iff_set (l := l) (i := 18) (j := 16) (by decide), hself, and_true]
                  by_cases hs : s = 6
                  · subst hs; simp
                  · simp [hs]
                | 19, _, ho, hu, hdep =>
                  have ho' := Option.some.inj (show some _ = some o from ho)
                  subst ho'
                  have lall : ∀ j, j < 19 → LS l j := fun j hj => match j, hj with | 0, _ => hdep ⟨0, .data⟩ (by simp) (by decide) | 1, _ => hdep ⟨1, .data⟩ (by simp) (by decide) | 2, _ => hdep ⟨2, .data⟩ (by simp) (by decide) | 3, _ => hdep ⟨3, .data⟩ (by simp) (by decide) | 4, _ => hdep ⟨4, .data⟩ (by simp) (by decide) | 5, _ => hdep ⟨5, .data⟩ (by simp) (by decide) | 6, _ => hdep ⟨6, .data⟩ (by simp) (by decide) | 7, _ => hdep ⟨7, .data⟩ (by simp) (by decide) | 8, _ => hdep ⟨8, .data⟩ (by simp) (by decide) | 9, _ => hdep ⟨9, .data⟩ (by simp) (by decide) | 10, _ => hdep ⟨10, .data⟩ (by simp) (by decide) | 11, _ => hdep ⟨11, .data⟩ (by simp) (by decide) | 12, _ => hdep ⟨12, .data⟩ (by simp) (by decide) | 13, _ => hdep ⟨13, .data⟩ (by simp) (by decide) | 14, _ => hdep ⟨14, .data⟩ (by simp) (by decide) | 15, _ => hdep ⟨15, .data⟩ (by simp) (by decide) | 16, _ => hdep ⟨16, .data⟩ (by simp) (by decide) | 17, _ => hdep ⟨17, .data⟩ (by simp) (by decide) | 18, _ => hdep ⟨18, .data⟩ (by simp) (by decide) | n + 19, h => absurd h (by omega)
                  have e0 : a.eval (.tmp 92) = .map (some wc.heap.size) := hI.vals (0, 92, _) (by simp [sayTab]) (lall 0 (by decide))
                  refine ⟨rfl, hI.value hu (v := .map (some wc.heap.size)) (d := 105) (by simp [sayTab]) rfl ?_ (by decide) (by decide) (fun _ => lall)⟩
                  simp [execOp, e0]
                | 20, _, ho, hu, hdep =>
                  have ho' := Option.some.inj (show some _ = some o from ho)
                  subst ho'
                  have f2 : a.tmps[2]?.getD undef = .pointer (some ⟨w.heap.size, 0, none⟩) := by have h := hI.cs.c2; simpa [Array.getD_eq_getD_getElem?] using h
                  refine ⟨rfl, hI.value hu (v := .pointer (some ⟨w.heap.size, 1, none⟩)) (d := 106) (by simp [sayTab]) rfl ?_ (by decide) (by decide) (by intro h; cases h)⟩
                  simp [execOp, f2, go_sem]
                | 21, _, ho, hu, hdep =>
                  have ho' := Option.some.inj (show some _ = some o from ho)
                  subst ho'
                  have l20 : LS l 20 := hdep ⟨20, .data⟩ (by simp) (by decide)
                  have e20 : a.eval (.tmp 106) = .pointer (some ⟨w.heap.size, 1, none⟩) := hI.vals (20, 106, _) (by simp [sayTab]) l20
                  have f20 : a.tmps[106]?.getD undef = .pointer (some ⟨w.heap.size, 1, none⟩) := by have h := e20; simpa [Act.eval, Array.getD_eq_getD_getElem?] using h
                  have hc : w'.cell? ⟨w.heap.size, 1, none⟩ = some (.int .i64 p) := (hI.mem.bel.cell (p := ⟨w.heap.size, 1, none⟩) HLB.out.2).trans HD1.out
                  refine ⟨rfl, hI.value hu (v := .int .i64 p) (d := 107) (by simp [sayTab]) rfl ?_ (by decide) (by decide) (by intro h; cases h)⟩
                  simp [execOp, f20, go_sem, hc]
                | 22, _, ho, hu, hdep =>
                  have ho' := Option.some.inj (show some _ = some o from ho)
                  subst ho'
                  have l19 : LS l 19 := hdep ⟨19, .data⟩ (by simp) (by decide)
                  have e19 : a.eval (.tmp 105) = .map (some wc.heap.size) := hI.vals (19, 105, _) (by simp [sayTab]) l19
                  have f19 : a.tmps[105]?.getD undef = .map (some wc.heap.size) := by have h := e19; simpa [Act.eval, Array.getD_eq_getD_getElem?] using h
                  have l21 : LS l 21 := hdep ⟨21, .data⟩ (by simp) (by decide)
                  have e21 : a.eval (.tmp 107) = .int .i64 p := hI.vals (21, 107, _) (by simp [sayTab]) l21
                  have f21 : a.tmps[107]?.getD undef = .int .i64 p := by have h := e21; simpa [Act.eval, Array.getD_eq_getD_getElem?] using h
                  have lall := hI.cl l19
                  obtain ⟨n, _, hm⟩ := hI.mem.m1 (lall 0 (by decide))
                  have hlk := hm.look (t := 175) Tryz.underlying175 Tryz.underlying3 (z := .int .i64 0) (zeroIn w') (s := p) (by unfold InI; have := HP6.out; omega) (v := .int .i64 (pickO p x0 ⟨lo, hi, sm⟩)) (say_pick HP6.out lall)
                  refine ⟨rfl, hI.value hu (v := .int .i64 (pickO p x0 ⟨lo, hi, sm⟩)) (d := 108) (by simp [sayTab]) rfl ?_ (by decide) (by decide) (by intro h; cases h)⟩
                  simp [execOp, e19, e21, hlk, Result.andThen]
                | 23, _, ho, hu, hdep =>
                  have ho' := Option.some.inj (show some _ = some o from ho)
                  subst ho'
                  have l22 : LS l 22 := hdep ⟨22, .data⟩ (by simp) (by decide)
                  have e22 : a.eval (.tmp 108) = .int .i64 (pickO p x0 ⟨lo, hi, sm⟩) := hI.vals (22, 108, _) (by simp [sayTab]) l22
                  have f22 : a.tmps[108]?.getD undef = .int .i64 (pickO p x0 ⟨lo, hi, sm⟩) := by have h := e22; simpa [Act.eval, Array.getD_eq_getD_getElem?] using h
                  refine ⟨rfl, hI.value hu (v := .int .i64 (pickO p x0 ⟨lo, hi, sm⟩)) (d := 4) (by simp [sayTab]) rfl ?_ (by decide) (by decide) (by intro h; cases h)⟩
                  simp [execOp, e22]
                | 24, _, ho, hu, hdep =>
                  have ho' := Option.some.inj (show some _ = some o from ho)
                  subst ho'
                  refine ⟨rfl, hI.value hu (v := .bool true) (d := 5) (by simp [sayTab]) rfl ?_ (by decide) (by decide) (by intro h; cases h)⟩
                  simp [execOp, show a.eval (.const (.bool true)) = .bool true from rfl]
                | 25, _, ho, hu, hdep =>
                  have ho' := Option.some.inj (show some _ = some o from ho)
                  subst ho'
                  refine ⟨rfl, hI.value hu (v := .int .i64 0) (d := 6) (by simp [sayTab]) rfl ?_ (by decide) (by decide) (by intro h; cases h)⟩
                  simp [execOp, show a.eval (.const (.int .i64 0)) = .int .i64 0 from rfl]
                | n + 26, h, _, _, _ => omega

end Go.Proofs.YtlopccnehgolnabGreatDoor
