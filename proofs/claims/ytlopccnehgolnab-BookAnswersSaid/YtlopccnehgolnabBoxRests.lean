
/- BoxRests: the plain law and the walk. -/
import Derived.Test.YtlopccnehgolnabRest
namespace Go.Proofs.Ytlopccnehgolnab
open Go.RowKit Rb

/-- What Rest must leave of an input: one box, or none. -/
def leftB (a : Bx) (l : List Bx) (ns : List Int) : Nat := if inBx a ns && !(l.any fun b => goodBx b (a.length : Int) && inBx b ns) then 1 else 0

theorem leftB_nil (a : Bx) (ns : List Int) : leftB a [] ns = if inBx a ns then 1 else 0 := by simp [leftB]
theorem leftB_take {a : Bx} {l : List Bx} {ns : List Int} {k : Nat} {x : Bx} (h : l[k]? = some x) :
    leftB a (l.take (k + 1)) ns = if goodBx x (a.length : Int) && inBx x ns then 0 else leftB a (l.take k) ns := by
  rw [take_getElem? h]
  unfold leftB
  simp only [List.any_append, List.any_cons, List.any_nil, Bool.or_false]
  cases (goodBx x (a.length : Int) && inBx x ns) <;> simp
theorem leftB_le (a : Bx) (l : List Bx) (ns : List Int) : leftB a l ns ≤ 1 := by unfold leftB; split <;> omega

/-- All boxes are good, of n sets. -/
def AllG (n : Nat) (out : List Bx) : Prop := ∀ x ∈ out, Sets x ∧ x.length = n

theorem flat_count {out : List Bx} {b : Bx} {n : Nat} (hn : n ≤ 3) (hg : AllG n out) (hb : goodBx b (n : Int) = true) (ns : List Int) :
    cntIn (out.flatMap (lessB · b)) ns = if inBx b ns then 0 else cntIn out ns := by
  induction out with
  | nil => simp [cntIn_nil]
  | cons x out ih =>
    obtain ⟨h1, h2⟩ := hg x (by simp)
    have hx : goodBx x (x.length : Int) = true := goodBx_of h1 rfl (by omega)
    rw [List.flatMap_cons, cntIn_append, cntIn_cons, ih fun y hy => hg y (by simp [hy]), lessB_count hx (by rw [h2]; exact hb)]
    cases inBx b ns <;> cases inBx x ns <;> simp

theorem flat_sum {out : List Bx} {b : Bx} {n : Nat} (hn : n ≤ 3) (hg : AllG n out) (hb : goodBx b (n : Int) = true) : sumSz (out.flatMap (lessB · b)) ≤ sumSz out := by
  induction out with
  | nil => simp
  | cons x out ih =>
    obtain ⟨h1, h2⟩ := hg x (by simp)
    have hx : goodBx x (x.length : Int) = true := goodBx_of h1 rfl (by omega)
    have h3 := lessB_sum hx (b := b) (by rw [h2]; exact hb)
    have h4 := ih fun y hy => hg y (by simp [hy])
    have h5 := sizeBx_bd (optBx (bothBx x b))
    have e : sumSz (x :: out) = sumSz [x] + sumSz out := by rw [← sumSz_append]; rfl
    have e2 : sumSz [x] = sizeBx x := by simp [sumSz]
    rw [List.flatMap_cons, sumSz_append, e, e2]
    split at h3 <;> omega

theorem flat_good {out : List Bx} {b : Bx} {n : Nat} (hn : n ≤ 3) (hg : AllG n out) (hb : goodBx b (n : Int) = true) : AllG n (out.flatMap (lessB · b)) := by
  intro y hy
  rw [List.mem_flatMap] at hy
  obtain ⟨x, hx, hy⟩ := hy
  obtain ⟨h1, h2⟩ := hg x hx
  have := lessB_good (goodBx_of h1 rfl (by omega)) (by rw [h2]; exact hb) y hy
  exact ⟨this.1, by rw [this.2, h2]⟩

theorem fold_law {n : Nat} (hn : n ≤ 3) (ns : List Int) : ∀ (l : List Bx) (out : List Bx) (c : Bool), AllG n out → cntIn out ns = (if c then 1 else 0) →
    AllG n (l.foldl (restStep n) out) ∧ sumSz (l.foldl (restStep n) out) ≤ sumSz out ∧ cntIn (l.foldl (restStep n) out) ns = if c && !(l.any fun b => goodBx b (n : Int) && inBx b ns) then 1 else 0 := by
  intro l
  induction l with
  | nil => intro out c hg hc; exact ⟨hg, Int.le_refl _, by simpa using hc⟩
  | cons b l ih =>
    intro out c hg hc
    rw [List.foldl_cons]
    cases hb : goodBx b (n : Int)
    · have hs : restStep n out b = out := by unfold restStep; rw [hb]; rfl
      rw [hs]
      have := ih out c hg hc
      simpa [hb] using this
    · have hs : restStep n out b = out.flatMap (lessB · b) := by unfold restStep; rw [hb]; rfl
      rw [hs]
      have h1 := ih (out.flatMap (lessB · b)) (c && !inBx b ns) (flat_good hn hg hb) (by rw [flat_count hn hg hb, hc]; cases c <;> cases inBx b ns <;> simp)
      refine ⟨h1.1, Int.le_trans h1.2.1 (flat_sum hn hg hb), ?_⟩
      rw [h1.2.2]
      simp only [List.any_cons, hb, Bool.true_and]
      cases c <;> cases inBx b ns <;> simp

theorem restB_law {a : Bx} (ha : goodBx a (a.length : Int) = true) (l : List Bx) (ns : List Int) :
    AllG a.length (restB a l) ∧ sumSz (restB a l) ≤ sizeBx a ∧ cntIn (restB a l) ns = leftB a l ns := by
  obtain ⟨h1, _, h3⟩ := goodBx_iff.1 ha
  have hf := fold_law (n := a.length) (by omega) ns l [a] (inBx a ns) (fun x hx => by rw [List.mem_singleton] at hx; rw [hx]; exact ⟨h1, rfl⟩) (by rw [cntIn_cons, cntIn_nil]; rfl)
  have e : restB a l = l.foldl (restStep a.length) [a] := by unfold restB; rw [ha]; rfl
  have e2 : sumSz [a] = sizeBx a := by simp [sumSz]
  rw [e]
  exact ⟨hf.1, by rw [← e2]; exact hf.2.1, hf.2.2⟩

theorem restStep_le (n : Nat) : ∀ (l out : List Bx), (l.foldl (restStep n) out).length ≤ 3 ^ l.length * out.length := by
  intro l
  induction l with
  | nil => intro out; simp
  | cons b l ih =>
    intro out
    rw [List.foldl_cons, List.length_cons, Nat.pow_succ]
    have h1 := ih (restStep n out b)
    have h2 := restStep_len n out b
    calc _ ≤ 3 ^ l.length * (restStep n out b).length := h1
      _ ≤ 3 ^ l.length * (3 * out.length) := Nat.mul_le_mul_left _ h2
      _ = 3 ^ l.length * 3 * out.length := by rw [Nat.mul_assoc]

theorem Rest_at {S T : Nat → Prop} {v u : Value} {a : Bx} {l L : List Bx} (w : World) (hl : rBx.rel w S [v] a) (hm : (rSl rBx).rel w T [u] l) (hl6 : l.length ≤ 6) (h : restB a l = L) :
    Calls Try.prog 29 #[v, u] w fun e w' => ∃ z S', e = .returned z ∧ (rSl rBx).rel w' S' [z] L ∧ Below w.heap.size w w' := h ▸ Rest_any w hl hm hl6

theorem Point_at {S : Nat → Prop} {v : Value} {b : Bx} {p : List Int} (w : World) (hl : rBx.rel w S [v] b) (h : pointBx b = p) :
    Calls Try.prog 43 #[v] w fun e w' => ∃ z, e = .returned z ∧ Own rInt 3 w' w.heap.size (fun _ => False) z p ∧ Below w.heap.size w w' := h ▸ Point_any w hl

end Go.Proofs.Ytlopccnehgolnab
