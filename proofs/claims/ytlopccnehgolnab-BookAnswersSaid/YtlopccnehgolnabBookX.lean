/- Books as data; the contracts of FindDomain and FindTable. The contract of FindDomain. -/
import Derived.Test.YtlopccnehgolnabTabT
namespace Go.Proofs.Ytlopccnehgolnab
open Go.RowKit Rb

structure Dm where
  name : Txt
  lo : Int
  hi : Int
structure Bk where
  doms : List Dm
  tabs : List Tb

def rDm : Rd Dm where
  k := 3
  bytes := 32
  rel _ _ cs x := cs = [.string ⟨x.name.toArray⟩, .int .i64 x.lo, .int .i64 x.hi] ∧ x.name.length ≤ 140737488355328 ∧ InI x.lo ∧ InI x.hi
  len h := by obtain ⟨rfl, _⟩ := h; rfl
  keep h _ := h
  mono h _ := h
  one h u hu := by
    obtain ⟨rfl, _⟩ := h
    simp at hu
    rcases hu with rfl | rfl | rfl <;> rfl

def rBk : Rd Bk where
  k := 2
  bytes := 48
  rel w S cs x := ∃ v u, cs = [v, u] ∧ (rSl rDm).rel w S [v] x.doms ∧ (rSl rTb).rel w S [u] x.tabs
  len h := by obtain ⟨v, u, rfl, _⟩ := h; rfl
  keep h hk := by obtain ⟨v, u, e, h1, h2⟩ := h; exact ⟨v, u, e, (rSl rDm).keep h1 hk, (rSl rTb).keep h2 hk⟩
  mono h hk := by obtain ⟨v, u, e, h1, h2⟩ := h; exact ⟨v, u, e, (rSl rDm).mono h1 hk, (rSl rTb).mono h2 hk⟩
  one h u hu := by
    obtain ⟨v, u', rfl, h1, h2⟩ := h
    simp at hu
    rcases hu with rfl | rfl
    · exact (rSl rDm).one h1 _ (by simp)
    · exact (rSl rTb).one h2 _ (by simp)

def tb0 : Tb := ⟨[], 0, false, [], []⟩
def tbOf (o : Option Tb) : Tb := match o with | some t => t | none => tb0
def dm0 : Dm := ⟨[], 0, 0⟩
def dmOf (o : Option Dm) : Dm := match o with | some d => d | none => dm0
def findT (l : List Tb) (s : Txt) : Option Tb := l.find? fun t => t.name == s
def findD (l : List Dm) (s : Txt) : Option Dm := l.find? fun d => d.name == s
theorem find_at {α : Type} {p : α → Bool} {l : List α} {k : Nat} {x : α} (h : l[k]? = some x) : (l.drop k).find? p = if p x then some x else (l.drop (k + 1)).find? p := by
  rw [drop_cons h, List.find?_cons]
  cases p x <;> rfl

/-- Five cells are stored over. -/
theorem store5 {w : World} {q : Nat} {u0 u1 u2 u3 u4 : Value} (v0 v1 v2 v3 v4 : Value) (h0 : w.cell? ⟨q, 0, none⟩ = some u0) (h1 : w.cell? ⟨q, 1, none⟩ = some u1) (h2 : w.cell? ⟨q, 2, none⟩ = some u2) (h3 : w.cell? ⟨q, 3, none⟩ = some u3) (h4 : w.cell? ⟨q, 4, none⟩ = some u4) :
    ∃ W, ((((w.setCell ⟨q, 0, none⟩ v0).setCell ⟨q, 1, none⟩ v1).setCell ⟨q, 2, none⟩ v2).setCell ⟨q, 3, none⟩ v3).setCell ⟨q, 4, none⟩ v4 = W ∧ (∀ B, B ≤ q → ∀ w0, Below B w0 w → Below B w0 W) ∧
      W.cell? ⟨q, 0, none⟩ = some v0 ∧ W.cell? ⟨q, 1, none⟩ = some v1 ∧ W.cell? ⟨q, 2, none⟩ = some v2 ∧ W.cell? ⟨q, 3, none⟩ = some v3 ∧ W.cell? ⟨q, 4, none⟩ = some v4 := by
  have o : ∀ (w : World) (i j : Nat) (v : Value), i ≠ j → (w.setCell ⟨q, i, none⟩ v).cell? ⟨q, j, none⟩ = w.cell? ⟨q, j, none⟩ := fun w i j v h => World.cell?_setCell_other _ _ _ _ (by simp <;> omega)
  refine ⟨_, rfl, fun B hB w0 hb => ((((hb.setCell hB _).setCell hB _).setCell hB _).setCell hB _).setCell hB _, ?_, ?_, ?_, ?_, ?_⟩
  · rw [o _ 4 0 _ (by decide), o _ 3 0 _ (by decide), o _ 2 0 _ (by decide), o _ 1 0 _ (by decide)]
    exact World.cell?_setCell_same _ _ _ h0
  · rw [o _ 4 1 _ (by decide), o _ 3 1 _ (by decide), o _ 2 1 _ (by decide)]
    exact World.cell?_setCell_same _ _ _ ((o _ 0 1 _ (by decide)).trans h1)
  · rw [o _ 4 2 _ (by decide), o _ 3 2 _ (by decide)]
    exact World.cell?_setCell_same _ _ _ ((o _ 1 2 _ (by decide)).trans ((o _ 0 2 _ (by decide)).trans h2))
  · rw [o _ 4 3 _ (by decide)]
    exact World.cell?_setCell_same _ _ _ ((o _ 2 3 _ (by decide)).trans ((o _ 1 3 _ (by decide)).trans ((o _ 0 3 _ (by decide)).trans h3)))
  · exact World.cell?_setCell_same _ _ _ ((o _ 3 4 _ (by decide)).trans ((o _ 2 4 _ (by decide)).trans ((o _ 1 4 _ (by decide)).trans ((o _ 0 4 _ (by decide)).trans h4))))

section
variable {w : World} {S : Nat → Prop} {A : Option Addr} {l : List Tb}
/-- A table in a row of tables. -/
theorem Elems.tb (h : Elems rTb w S A l) {i : Nat} (hi : i < l.length) : ∃ b off x A1 c1 A2 c2, A = some ⟨b, off, none⟩ ∧ b < w.heap.size ∧ l[i]? = some x ∧ rTb.rel w S [.string ⟨x.name.toArray⟩, .int .i64 x.pol, .bool x.comp, .slice A1 x.ins.length c1, .slice A2 x.rules.length c2] x ∧
    w.cell? ⟨b, off + i * 5, none⟩ = some (.string ⟨x.name.toArray⟩) ∧ w.cell? ⟨b, off + i * 5 + 1, none⟩ = some (.int .i64 x.pol) ∧ w.cell? ⟨b, off + i * 5 + 2, none⟩ = some (.bool x.comp) ∧ w.cell? ⟨b, off + i * 5 + 3, none⟩ = some (.slice A1 x.ins.length c1) ∧ w.cell? ⟨b, off + i * 5 + 4, none⟩ = some (.slice A2 x.rules.length c2) := by
  obtain ⟨b, off, es, hA, hS, hb, hr, hc⟩ := h i l[i] (List.getElem?_eq_getElem hi)
  have hr' := hr
  obtain ⟨v, u, rfl, _, _, h1, h2⟩ := hr
  obtain ⟨A1, c1, rfl, _⟩ := rSl.elems h1
  obtain ⟨A2, c2, rfl, _⟩ := rSl.elems h2
  exact ⟨b, off, l[i], A1, c1, A2, c2, hA, hb, List.getElem?_eq_getElem hi, hr', hc 0 _ rfl, hc 1 _ rfl, hc 2 _ rfl, hc 3 _ rfl, hc 4 _ rfl⟩
theorem tb0_rel (w : World) : rTb.rel w (fun _ => True) [.string ⟨#[]⟩, .int .i64 0, .bool false, .slice none 0 0, .slice none 0 0] tb0 :=
  ⟨_, _, rfl, by decide, by unfold InI; decide, ⟨none, 0, rfl, Nat.le_refl _, by decide, by simp [tb0], fun i x hx => by simp [tb0] at hx⟩, ⟨none, 0, rfl, Nat.le_refl _, by decide, by simp [tb0], fun i x hx => by simp [tb0] at hx⟩⟩
end

set_option maxRecDepth 100000 in
set_option maxHeartbeats 800000 in
theorem FindTable_any {S : Nat → Prop} {cs : List Value} {b : Bk} (s : Txt) (w : World) (hl : rBk.rel w S cs b) (_hs : s.length ≤ 140737488355328) :
    Calls Try.prog 21 #[.agg cs.toArray, .string ⟨s.toArray⟩] w fun e w' => ∃ cs' S', e = .returned (.tuple #[.agg (Array.mk cs'), .bool (findT b.tabs s).isSome]) ∧ rTb.rel w' S' cs' (tbOf (findT b.tabs s)) ∧ Below w.heap.size w w' := by
  obtain ⟨v, u, rfl, hd, ht⟩ := hl
  obtain ⟨A, c, rfl, _⟩ := rSl.elems hd
  obtain ⟨B, d, rfl, _, _, hbt, hF⟩ := rSl.elems ht
  have hlt5 : b.tabs.length ≤ 1759218604441 := by simp only [rTb] at hbt; omega
  obtain ⟨W1, e1, hb1, k1, f0, f1, f2, f3, f4, z0, z1, z2, z3, z4, hs1⟩ : ∃ W1, (w.alloc (.cells #[.slice A b.doms.length c, .slice B b.tabs.length d] 46)).alloc (.cells #[.string ⟨#[]⟩, .int .i64 0, .bool false, .slice none 0 0, .slice none 0 0] 25) = W1 ∧ Below w.heap.size w W1 ∧
      W1.cell? ⟨w.heap.size, 1, none⟩ = some (.slice B b.tabs.length d) ∧ W1.cell? ⟨w.heap.size + 1, 0, none⟩ = some (.string ⟨#[]⟩) ∧ W1.cell? ⟨w.heap.size + 1, 1, none⟩ = some (.int .i64 0) ∧ W1.cell? ⟨w.heap.size + 1, 2, none⟩ = some (.bool false) ∧ W1.cell? ⟨w.heap.size + 1, 3, none⟩ = some (.slice none 0 0) ∧ W1.cell? ⟨w.heap.size + 1, 4, none⟩ = some (.slice none 0 0) ∧
      W1.frozen? ⟨w.heap.size + 1, 0, none⟩ = false ∧ W1.frozen? ⟨w.heap.size + 1, 1, none⟩ = false ∧ W1.frozen? ⟨w.heap.size + 1, 2, none⟩ = false ∧ W1.frozen? ⟨w.heap.size + 1, 3, none⟩ = false ∧ W1.frozen? ⟨w.heap.size + 1, 4, none⟩ = false ∧ w.heap.size + 1 < W1.heap.size := by
    have e : (w.alloc (.cells #[.slice A b.doms.length c, .slice B b.tabs.length d] 46)).heap.size = w.heap.size + 1 := by simp
    refine ⟨_, rfl, ((Below.refl _ _).alloc (Nat.le_refl _) _).alloc (by simp) _, (World.cell?_alloc_lt _ _ _ (by simp)).trans (World.cell?_alloc_new _ _ _ _), ?_, ?_, ?_, ?_, ?_, ?_, ?_, ?_, ?_, ?_, by simp⟩ <;> rw [← e] <;> first | exact World.cell?_alloc_new _ _ _ _ | simp
  clear hd ht hbt
  go_enter Try.func21, Try.ntmps21
  go_wp2
  clear e1
  generalize hq4 : w.heap.size + 1 = q4 at *
  have hq5 : w.heap.size ≤ q4 := by omega
  clear hq4
  go_loopw [11] (fun i wr => ∃ k : Nat, k ≤ b.tabs.length ∧ i = .int .i64 k ∧ Hid (findT b.tabs s = (b.tabs.drop k).find? fun t => t.name == s) ∧ Hid (Below W1.heap.size W1 wr)) (fun i _ => b.tabs.length - (intOf i).toNat)
  case atStart => exact ⟨0, Nat.zero_le _, rfl, Lib.hid rfl, Lib.hid (Below.refl _ _)⟩
  case round =>
    obtain ⟨k, hk, rfl, HI, HB⟩ := hrel
    have hbw := hb1.trans (HB.out.mono hb1.size)
    by_cases hlt : k < b.tabs.length
    · obtain ⟨bB, off, x, A1, c1, A2, c2, rfl, hbB, hx, hr, g0, g1, g2, g3, g4⟩ := hF.tb hlt
      rw [← hbw.cell (p := ⟨bB, _, none⟩) hbB] at g0 g1 g2 g3 g4
      have hik : (k : Int) < (b.tabs.length : Int) := by omega
      have HAT := Lib.hid (find_at (p := fun t : Tb => t.name == s) hx)
      have HR := Lib.hid hr
      clear hx hr
      cases hnm : (x.name == s)
      · have HI' := Lib.hid (HI.out.trans (by rw [HAT.out, if_neg (by simp [hnm])]))
        obtain ⟨W3, e3, HB3, j0⟩ : ∃ W3, wr.alloc (.cells #[.string ⟨x.name.toArray⟩, .int .i64 x.pol, .bool x.comp, .slice A1 x.ins.length c1, .slice A2 x.rules.length c2] 25) = W3 ∧ Hid (Below W1.heap.size W1 W3) ∧ W3.cell? ⟨wr.heap.size, 0, none⟩ = some (.string ⟨x.name.toArray⟩) :=
          ⟨_, rfl, Lib.hid (HB.out.alloc HB.out.size _), World.cell?_alloc_new _ _ _ _⟩
        go_wp2
        go_roundw
        case rel => exact ⟨k + 1, by omega, by go_num, HI', HB3⟩
        case measure => simp [intOf]; omega
      · have HF : Hid (findT b.tabs s = some x) := Lib.hid (HI.out.trans (by rw [HAT.out, if_pos hnm]))
        obtain ⟨W3, e3, HB3, j0, j1, j2, j3, j4, hw3⟩ : ∃ W3, wr.alloc (.cells #[.string ⟨x.name.toArray⟩, .int .i64 x.pol, .bool x.comp, .slice A1 x.ins.length c1, .slice A2 x.rules.length c2] 25) = W3 ∧ Hid (Below W1.heap.size W1 W3) ∧ W3.cell? ⟨wr.heap.size, 0, none⟩ = some (.string ⟨x.name.toArray⟩) ∧ W3.cell? ⟨wr.heap.size, 1, none⟩ = some (.int .i64 x.pol) ∧ W3.cell? ⟨wr.heap.size, 2, none⟩ = some (.bool x.comp) ∧ W3.cell? ⟨wr.heap.size, 3, none⟩ = some (.slice A1 x.ins.length c1) ∧ W3.cell? ⟨wr.heap.size, 4, none⟩ = some (.slice A2 x.rules.length c2) ∧ Hid (Below w.heap.size w W3) :=
          ⟨_, rfl, Lib.hid (HB.out.alloc HB.out.size _), World.cell?_alloc_new _ _ _ _, World.cell?_alloc_new _ _ _ _, World.cell?_alloc_new _ _ _ _, World.cell?_alloc_new _ _ _ _, World.cell?_alloc_new _ _ _ _, Lib.hid (hbw.alloc hbw.size _)⟩
        have y0 : W3.frozen? ⟨q4, 0, none⟩ = false := (HB3.out.frozen (p := ⟨q4, 0, none⟩) hs1).trans z0
        have y1 : W3.frozen? ⟨q4, 1, none⟩ = false := (HB3.out.frozen (p := ⟨q4, 1, none⟩) hs1).trans z1
        have y2 : W3.frozen? ⟨q4, 2, none⟩ = false := (HB3.out.frozen (p := ⟨q4, 2, none⟩) hs1).trans z2
        have y3 : W3.frozen? ⟨q4, 3, none⟩ = false := (HB3.out.frozen (p := ⟨q4, 3, none⟩) hs1).trans z3
        have y4 : W3.frozen? ⟨q4, 4, none⟩ = false := (HB3.out.frozen (p := ⟨q4, 4, none⟩) hs1).trans z4
        have p0 := (HB3.out.cell (p := ⟨q4, 0, none⟩) hs1).trans f0
        have p1 := (HB3.out.cell (p := ⟨q4, 1, none⟩) hs1).trans f1
        have p2 := (HB3.out.cell (p := ⟨q4, 2, none⟩) hs1).trans f2
        have p3 := (HB3.out.cell (p := ⟨q4, 3, none⟩) hs1).trans f3
        have p4 := (HB3.out.cell (p := ⟨q4, 4, none⟩) hs1).trans f4
        obtain ⟨W4, e4, hB4, n0, n1, n2, n3, n4⟩ := store5 (.string ⟨x.name.toArray⟩) (.int .i64 x.pol) (.bool x.comp) (.slice A1 x.ins.length c1) (.slice A2 x.rules.length c2) p0 p1 p2 p3 p4
        have HB4 := Lib.hid (hB4 _ hq5 _ hw3.out)
        clear hB4
        go_wp2
        refine bodyPost_ret (by simp [results, Try.results21, go_sem, n0, n1, n2, n3, n4]; rfl) rfl ?_
        exact ⟨_, S, by rw [HF.out]; rfl, by rw [HF.out]; exact Rd.below HR.out HB4.out, HB4.out⟩
    · have HF : Hid (findT b.tabs s = none) := Lib.hid (by rw [HI.out, List.drop_eq_nil_of_le (by omega)]; rfl)
      have y0 : wr.frozen? ⟨q4, 0, none⟩ = false := (HB.out.frozen (p := ⟨q4, 0, none⟩) hs1).trans z0
      have y1 : wr.frozen? ⟨q4, 1, none⟩ = false := (HB.out.frozen (p := ⟨q4, 1, none⟩) hs1).trans z1
      have y2 : wr.frozen? ⟨q4, 2, none⟩ = false := (HB.out.frozen (p := ⟨q4, 2, none⟩) hs1).trans z2
      have y3 : wr.frozen? ⟨q4, 3, none⟩ = false := (HB.out.frozen (p := ⟨q4, 3, none⟩) hs1).trans z3
      have y4 : wr.frozen? ⟨q4, 4, none⟩ = false := (HB.out.frozen (p := ⟨q4, 4, none⟩) hs1).trans z4
      have p0 := (HB.out.cell (p := ⟨q4, 0, none⟩) hs1).trans f0
      have p1 := (HB.out.cell (p := ⟨q4, 1, none⟩) hs1).trans f1
      have p2 := (HB.out.cell (p := ⟨q4, 2, none⟩) hs1).trans f2
      have p3 := (HB.out.cell (p := ⟨q4, 3, none⟩) hs1).trans f3
      have p4 := (HB.out.cell (p := ⟨q4, 4, none⟩) hs1).trans f4
      obtain ⟨W4, e4, hB4, n0, n1, n2, n3, n4⟩ := store5 (.string ⟨#[]⟩) (.int .i64 0) (.bool false) (.slice none 0 0) (.slice none 0 0) p0 p1 p2 p3 p4
      have HB4 := Lib.hid (hB4 _ hq5 _ hbw)
      clear hB4
      go_wp2
      refine bodyPost_ret (by simp [results, Try.results21, go_sem, n0, n1, n2, n3, n4]; rfl) rfl ?_
      exact ⟨_, fun _ => True, by rw [HF.out]; rfl, by rw [HF.out]; exact tb0_rel _, HB4.out⟩

end Go.Proofs.Ytlopccnehgolnab

namespace Go.Proofs.Ytlopccnehgolnab
open Go.RowKit Rb

theorem store3 {w : World} {q : Nat} {u0 u1 u2 : Value} (v0 v1 v2 : Value) (h0 : w.cell? ⟨q, 0, none⟩ = some u0) (h1 : w.cell? ⟨q, 1, none⟩ = some u1) (h2 : w.cell? ⟨q, 2, none⟩ = some u2) :
    ∃ W, ((w.setCell ⟨q, 0, none⟩ v0).setCell ⟨q, 1, none⟩ v1).setCell ⟨q, 2, none⟩ v2 = W ∧ (∀ B, B ≤ q → ∀ w0, Below B w0 w → Below B w0 W) ∧
      W.cell? ⟨q, 0, none⟩ = some v0 ∧ W.cell? ⟨q, 1, none⟩ = some v1 ∧ W.cell? ⟨q, 2, none⟩ = some v2 := by
  have o : ∀ (w : World) (i j : Nat) (v : Value), i ≠ j → (w.setCell ⟨q, i, none⟩ v).cell? ⟨q, j, none⟩ = w.cell? ⟨q, j, none⟩ := fun w i j v h => World.cell?_setCell_other _ _ _ _ (by simp <;> omega)
  refine ⟨_, rfl, fun B hB w0 hb => ((hb.setCell hB _).setCell hB _).setCell hB _, ?_, ?_, ?_⟩
  · rw [o _ 2 0 _ (by decide), o _ 1 0 _ (by decide)]
    exact World.cell?_setCell_same _ _ _ h0
  · rw [o _ 2 1 _ (by decide)]
    exact World.cell?_setCell_same _ _ _ ((o _ 0 1 _ (by decide)).trans h1)
  · exact World.cell?_setCell_same _ _ _ ((o _ 1 2 _ (by decide)).trans ((o _ 0 2 _ (by decide)).trans h2))

section
variable {w : World} {S : Nat → Prop} {A : Option Addr} {l : List Dm}
/-- A domain in a row of domains. -/
theorem Elems.dm (h : Elems rDm w S A l) {i : Nat} (hi : i < l.length) : ∃ b off x, A = some ⟨b, off, none⟩ ∧ b < w.heap.size ∧ l[i]? = some x ∧ (x.name.length ≤ 140737488355328 ∧ InI x.lo ∧ InI x.hi) ∧
    w.cell? ⟨b, off + i * 3, none⟩ = some (.string ⟨x.name.toArray⟩) ∧ w.cell? ⟨b, off + i * 3 + 1, none⟩ = some (.int .i64 x.lo) ∧ w.cell? ⟨b, off + i * 3 + 2, none⟩ = some (.int .i64 x.hi) := by
  obtain ⟨b, off, es, hA, hS, hb, ⟨rfl, hr⟩, hc⟩ := h i l[i] (List.getElem?_eq_getElem hi)
  exact ⟨b, off, l[i], hA, hb, List.getElem?_eq_getElem hi, hr, hc 0 _ rfl, hc 1 _ rfl, hc 2 _ rfl⟩
end

set_option maxRecDepth 100000 in
set_option maxHeartbeats 800000 in
theorem FindDomain_any {S : Nat → Prop} {cs : List Value} {b : Bk} (s : Txt) (w : World) (hl : rBk.rel w S cs b) (_hs : s.length ≤ 140737488355328) :
    Calls Try.prog 34 #[.agg cs.toArray, .string ⟨s.toArray⟩] w fun e w' => e = .returned (.tuple #[.agg #[.string ⟨(dmOf (findD b.doms s)).name.toArray⟩, .int .i64 (dmOf (findD b.doms s)).lo, .int .i64 (dmOf (findD b.doms s)).hi], .bool (findD b.doms s).isSome]) ∧ Below w.heap.size w w' := by
  obtain ⟨v, u, rfl, hd, ht⟩ := hl
  obtain ⟨A, c, rfl, _, _, hbt, hF⟩ := rSl.elems hd
  obtain ⟨B, d, rfl, _⟩ := rSl.elems ht
  have hlt5 : b.doms.length ≤ 4398046511104 := by simp only [rDm] at hbt; omega
  obtain ⟨W1, e1, hb1, k1, f0, f1, f2, z0, z1, z2, hs1⟩ : ∃ W1, (w.alloc (.cells #[.slice A b.doms.length c, .slice B b.tabs.length d] 46)).alloc (.cells #[.string ⟨#[]⟩, .int .i64 0, .int .i64 0] 55) = W1 ∧ Below w.heap.size w W1 ∧
      W1.cell? ⟨w.heap.size, 0, none⟩ = some (.slice A b.doms.length c) ∧ W1.cell? ⟨w.heap.size + 1, 0, none⟩ = some (.string ⟨#[]⟩) ∧ W1.cell? ⟨w.heap.size + 1, 1, none⟩ = some (.int .i64 0) ∧ W1.cell? ⟨w.heap.size + 1, 2, none⟩ = some (.int .i64 0) ∧
      W1.frozen? ⟨w.heap.size + 1, 0, none⟩ = false ∧ W1.frozen? ⟨w.heap.size + 1, 1, none⟩ = false ∧ W1.frozen? ⟨w.heap.size + 1, 2, none⟩ = false ∧ w.heap.size + 1 < W1.heap.size := by
    have e : (w.alloc (.cells #[.slice A b.doms.length c, .slice B b.tabs.length d] 46)).heap.size = w.heap.size + 1 := by simp
    refine ⟨_, rfl, ((Below.refl _ _).alloc (Nat.le_refl _) _).alloc (by simp) _, (World.cell?_alloc_lt _ _ _ (by simp)).trans (World.cell?_alloc_new _ _ _ _), ?_, ?_, ?_, ?_, ?_, ?_, by simp⟩ <;> rw [← e] <;> first | exact World.cell?_alloc_new _ _ _ _ | simp
  clear hd ht hbt
  go_enter Try.func34, Try.ntmps34
  go_wp2
  clear e1
  generalize hq4 : w.heap.size + 1 = q4 at *
  have hq5 : w.heap.size ≤ q4 := by omega
  clear hq4
  go_loopw [11] (fun i wr => ∃ k : Nat, k ≤ b.doms.length ∧ i = .int .i64 k ∧ Hid (findD b.doms s = (b.doms.drop k).find? fun t => t.name == s) ∧ Hid (Below W1.heap.size W1 wr)) (fun i _ => b.doms.length - (intOf i).toNat)
  case atStart => exact ⟨0, Nat.zero_le _, rfl, Lib.hid rfl, Lib.hid (Below.refl _ _)⟩
  case round =>
    obtain ⟨k, hk, rfl, HI, HB⟩ := hrel
    have hbw := hb1.trans (HB.out.mono hb1.size)
    by_cases hlt : k < b.doms.length
    · obtain ⟨bB, off, x, rfl, hbB, hx, hr, g0, g1, g2⟩ := hF.dm hlt
      rw [← hbw.cell (p := ⟨bB, _, none⟩) hbB] at g0 g1 g2
      have hik : (k : Int) < (b.doms.length : Int) := by omega
      have HAT := Lib.hid (find_at (p := fun t : Dm => t.name == s) hx)
      clear hx hr
      cases hnm : (x.name == s)
      · have HI' := Lib.hid (HI.out.trans (by rw [HAT.out, if_neg (by simp [hnm])]))
        obtain ⟨W3, e3, HB3, j0⟩ : ∃ W3, wr.alloc (.cells #[.string ⟨x.name.toArray⟩, .int .i64 x.lo, .int .i64 x.hi] 55) = W3 ∧ Hid (Below W1.heap.size W1 W3) ∧ W3.cell? ⟨wr.heap.size, 0, none⟩ = some (.string ⟨x.name.toArray⟩) :=
          ⟨_, rfl, Lib.hid (HB.out.alloc HB.out.size _), World.cell?_alloc_new _ _ _ _⟩
        go_wp2
        go_roundw
        case rel => exact ⟨k + 1, by omega, by go_num, HI', HB3⟩
        case measure => simp [intOf]; omega
      · have HF : Hid (findD b.doms s = some x) := Lib.hid (HI.out.trans (by rw [HAT.out, if_pos hnm]))
        obtain ⟨W3, e3, HB3, j0, j1, j2, hw3⟩ : ∃ W3, wr.alloc (.cells #[.string ⟨x.name.toArray⟩, .int .i64 x.lo, .int .i64 x.hi] 55) = W3 ∧ Hid (Below W1.heap.size W1 W3) ∧ W3.cell? ⟨wr.heap.size, 0, none⟩ = some (.string ⟨x.name.toArray⟩) ∧ W3.cell? ⟨wr.heap.size, 1, none⟩ = some (.int .i64 x.lo) ∧ W3.cell? ⟨wr.heap.size, 2, none⟩ = some (.int .i64 x.hi) ∧ Hid (Below w.heap.size w W3) :=
          ⟨_, rfl, Lib.hid (HB.out.alloc HB.out.size _), World.cell?_alloc_new _ _ _ _, World.cell?_alloc_new _ _ _ _, World.cell?_alloc_new _ _ _ _, Lib.hid (hbw.alloc hbw.size _)⟩
        have y0 : W3.frozen? ⟨q4, 0, none⟩ = false := (HB3.out.frozen (p := ⟨q4, 0, none⟩) hs1).trans z0
        have y1 : W3.frozen? ⟨q4, 1, none⟩ = false := (HB3.out.frozen (p := ⟨q4, 1, none⟩) hs1).trans z1
        have y2 : W3.frozen? ⟨q4, 2, none⟩ = false := (HB3.out.frozen (p := ⟨q4, 2, none⟩) hs1).trans z2
        have p0 := (HB3.out.cell (p := ⟨q4, 0, none⟩) hs1).trans f0
        have p1 := (HB3.out.cell (p := ⟨q4, 1, none⟩) hs1).trans f1
        have p2 := (HB3.out.cell (p := ⟨q4, 2, none⟩) hs1).trans f2
        obtain ⟨W4, e4, hB4, n0, n1, n2⟩ := store3 (.string ⟨x.name.toArray⟩) (.int .i64 x.lo) (.int .i64 x.hi) p0 p1 p2
        have HB4 := Lib.hid (hB4 _ hq5 _ hw3.out)
        clear hB4
        go_wp2
        refine bodyPost_ret (by simp [results, Try.results34, go_sem, n0, n1, n2]; rfl) rfl ?_
        exact ⟨by rw [HF.out]; rfl, HB4.out⟩
    · have HF : Hid (findD b.doms s = none) := Lib.hid (by rw [HI.out, List.drop_eq_nil_of_le (by omega)]; rfl)
      have y0 : wr.frozen? ⟨q4, 0, none⟩ = false := (HB.out.frozen (p := ⟨q4, 0, none⟩) hs1).trans z0
      have y1 : wr.frozen? ⟨q4, 1, none⟩ = false := (HB.out.frozen (p := ⟨q4, 1, none⟩) hs1).trans z1
      have y2 : wr.frozen? ⟨q4, 2, none⟩ = false := (HB.out.frozen (p := ⟨q4, 2, none⟩) hs1).trans z2
      have p0 := (HB.out.cell (p := ⟨q4, 0, none⟩) hs1).trans f0
      have p1 := (HB.out.cell (p := ⟨q4, 1, none⟩) hs1).trans f1
      have p2 := (HB.out.cell (p := ⟨q4, 2, none⟩) hs1).trans f2
      obtain ⟨W4, e4, hB4, n0, n1, n2⟩ := store3 (.string ⟨#[]⟩) (.int .i64 0) (.int .i64 0) p0 p1 p2
      have HB4 := Lib.hid (hB4 _ hq5 _ hbw)
      clear hB4
      go_wp2
      refine bodyPost_ret (by simp [results, Try.results34, go_sem, n0, n1, n2]; rfl) rfl ?_
      exact ⟨by rw [HF.out]; rfl, HB4.out⟩

end Go.Proofs.Ytlopccnehgolnab
