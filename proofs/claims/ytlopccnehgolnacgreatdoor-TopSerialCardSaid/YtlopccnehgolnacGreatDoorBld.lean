import Derived.Test.YtlopccnehgolnacGreatDoorGK47
import Derived.Great.BuildSlice
import Derived.Deep.RegionHeld3
namespace Go.Proofs.YtlopccnehgolnacGreatDoor
open Go.RowKit Rb
theorem Y4m {P : Program} {o : Oper} {a : Act} {w : World} {K : Act -> World -> Prop} {Q : Exit -> Act -> World -> Prop} {t e : TypeId} {s b : Nat} {z : Value} (hu : P.underlying t = some (.slice e)) (hi : (P.info? e).map (fun i => (i.zero, i.size, i.bytes)) = some (some z, s, b)) (hs : 0 < s) (hsm : s <= 1000) (p : Operand) (ho : o.op = .buildSlice t 1 #[(0, p)]) (l : List Value) (hv : a.eval p = .agg l.toArray) (hsz : l.length = s) (w2 : World) (hw : w.alloc (.cells l.toArray e) = w2)
  (h : K (a.put o.dst (.slice (some (zn w.heap.size 0)) 1 1)) w2) : o.wp P a w K Q := by
 obtain ⟨i, hi, hz, hsi, _⟩ : ∃ i, P.info? e = some i /\ i.zero = some z /\ i.size = s /\ i.bytes = b := by
  obtain ⟨i, hi, hzz⟩ := Option.map_eq_some_iff.1 hi
  simp only [Prod.mk.injEq] at hzz
  exact ⟨i, hi, hzz.1, hzz.2.1, hzz.2.2⟩
 subst hw
 refine wp_buildSlice t e 1 #[(0, p)] ho l.toArray i z hu hi hz (by rw [hsi]; omega) (by rw [hsi]; omega) ?_ h
 obtain ⟨r, h1, h2, h3⟩ := Great.fill_dense (s := s) hs [.agg l.toArray] 0 ((Array.range (1 * s)).map (z.cells[· % z.cells.size]!)) (by simp [Value.cells, hsz]) (by simp)
 rw [hsi]
 have e1 : ((#[(0, p)].map fun (i, x) => (i, a.eval x)).toList) = ((([Value.agg l.toArray] : List Value).zipIdx 0).map fun x => (x.2, x.1)) := by simp [hv]
 rw [e1, h1]
 congr 1
 apply Array.ext_getElem?
 intro k
 rw [h3 k]
 by_cases hk : k < s
 ·rw [if_pos (by simpa using hk)]
  simp [Nat.div_eq_of_lt hk, Nat.mod_eq_of_lt hk, Value.cells]
 rw [if_neg (by simpa using hk)]
 rw [L3f (by simp; omega), L3f (by simp; omega)]
theorem Z21 {P : Program} {ops : Array Oper} {o : Oper} {a : Act} {w : World} {K : Act -> World -> Prop} {Q : Exit -> Act -> World -> Prop} {E : Prop} {t e : TypeId} {s b : Nat} {z : Value} (hu : P.underlying t = some (.slice e)) (hi : (P.info? e).map (fun i => (i.zero, i.size, i.bytes)) = some (some z, s, b)) (hs : 0 < s) (hsm : s <= 1000) (hgd : o.guard = none) (p : Operand) (ho : o.op = .buildSlice t 1 #[(0, p)]) (l : List Value) (hv : a.eval p = .agg l.toArray) (hsz : l.length = s) (w2 : World) (hw : w.alloc (.cells l.toArray e) = w2)
  (h : K (a.put o.dst (.slice (some (zn w.heap.size 0)) 1 1)) w2) :
  if Region.wanted o (yielded ops a.tmps) = true then Oper.wp P o a w K Q else E := by
 rw [if_pos (by simp [Region.wanted, hgd])]
 exact Y4m hu hi hs hsm p ho l hv hsz w2 hw h
theorem tk {P : Program} {ops : Array Oper} {Q : Exit -> Act -> World -> Prop} {md : Region.Mode} {S : World -> Prop} {v : Value} {fuel : Nat} {listed : Array Bool} {a : Act} {w : World} (i : Nat) (oi : Oper) (hi : ops[i]? = some oi) (hS : S w) (hy : ∀ w, S w -> (execOp a.eval oi).run P w = .ok (.value v) w)
  (h : wpAnyH P md ops Q S fuel (listed.setIfInBounds i true) (a.put oi.dst v) w) (hs : Region.noSelect ops = true := by kernel_rfl) (hf : Region.free md ops listed i = true := by kernel_rfl) (hr : (Region.ready md ops listed).contains i = true := by kernel_rfl) (hQ : ∀ c a w, Q (.panic c) (a.put oi.dst v) w -> Q (.panic c) a w := by exact fun _ _ _ h => h)
  (hg : Region.wanted oi (yielded ops a.tmps) = true := by rfl) : wpAnyH P md ops Q S (fuel + 1) listed a w := wpAnyH_take hi hs hf hr hQ (.inl ⟨hg, hy⟩) hS h
theorem Y5a {k : Int} (h : k = 1) : (k == 1) = true /\ ¬ (1 : Int) < k /\ k < 6 /\ (k == 6) = false := by subst h; decide
theorem Y82 {k : Int} (h : k <= 0) : (k == 1) = false /\ ¬ (1 : Int) < k /\ k < 6 /\ (k == 6) = false := ⟨by simp; omega, by omega, by omega, by simp; omega⟩
theorem Y49 {k : Int} (h : 1 < k /\ k < 6) : (k == 1) = false /\ (1 : Int) < k /\ k < 6 /\ (k == 6) = false := ⟨by simp; omega, by omega, by omega, by simp; omega⟩
theorem Z9t {k : Int} (h : k = 6) : (k == 1) = false /\ (1 : Int) < k /\ ¬ k < 6 /\ (k == 6) = true := by subst h; decide
theorem Y83 {k : Int} (h : 6 < k) : (k == 1) = false /\ (1 : Int) < k /\ ¬ k < 6 /\ (k == 6) = false := ⟨by simp; omega, by omega, by omega, by simp; omega⟩
theorem Y6a : (Tryz.prog.info? 30).map (fun i => (i.zero, i.size, i.bytes)) = some (some (.agg #[.int .i64 0, .int .i64 0, .string ⟨#[]⟩, nl, nl]), 5, 80) := by kernel_rfl
theorem Y59 : (Tryz.prog.info? 24).map (fun i => (i.zero, i.size, i.bytes)) = some (some (.agg #[.int .i64 0, .int .i64 0, .string ⟨#[]⟩, .string ⟨#[]⟩, nl]), 5, 72) := by kernel_rfl
