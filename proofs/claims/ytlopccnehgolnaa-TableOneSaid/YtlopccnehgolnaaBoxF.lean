/- Contracts of count and Rest. -/
import Derived.Test.YtlopccnehgolnaaBoxE
import Derived.Test.YtlopccnehgolnaaBoxMath
namespace Go.Proofs.Ytlopccnehgolnaa
open Go.RowKit Rb

theorem sumSz_nonneg (l : List Bx) : 0 ≤ sumSz l := by
  induction l with
  | nil => exact Int.le_refl _
  | cons b l ih =>
    have := (sizeBx_bd b).1
    show 0 ≤ sizeBx b + sumSz l
    omega
theorem sumSz_take {l : List Bx} {k : Nat} {x : Bx} (h : l[k]? = some x) : sumSz (l.take (k + 1)) = sumSz (l.take k) + sizeBx x ∧ sumSz (l.take (k + 1)) ≤ sumSz l := by
  have h1 : sumSz (l.take (k + 1)) = sumSz (l.take k) + sizeBx x := by rw [take_getElem? h, sumSz_append]; simp [sumSz]
  refine ⟨h1, ?_⟩
  have h2 := sumSz_append (l.take (k + 1)) (l.drop (k + 1))
  rw [List.take_append_drop] at h2
  have := sumSz_nonneg (l.drop (k + 1))
  omega
theorem cntIn_take {l : List Bx} {k : Nat} {x : Bx} (ns : List Int) (h : l[k]? = some x) : cntIn (l.take (k + 1)) ns = cntIn (l.take k) ns + (if inBx x ns then 1 else 0) := by
  rw [take_getElem? h, cntIn_append, cntIn_cons, cntIn_nil, Nat.add_zero]
theorem cntIn_le (l : List Bx) (ns : List Int) : cntIn l ns ≤ l.length := List.length_filter_le _ _

set_option maxRecDepth 100000 in
set_option maxHeartbeats 400000 in
theorem count_any {S T : Nat → Prop} {v u : Value} {l : List Bx} {ns : List Int} (w : World) (hl : (rSl rBx).rel w S [v] l) (hn : (rSl rInt).rel w T [u] ns) (hsz : sumSz l ≤ 9223372036854775807) :
    Calls Try.prog 47 #[v, u] w fun e w' => e = .returned (.tuple #[.int .i64 (cntIn l ns : Nat), .int .i64 (sumSz l)]) ∧ Below w.heap.size w w' := by
  have hll := rSl.lenle hl (by decide)
  obtain ⟨A, c, rfl, _, _, _, hE⟩ := rSl.elems hl
  obtain ⟨B, d, rfl, _⟩ := rSl.elems hn
  have HN := Lib.hid hn
  have HSZ := Lib.hid hsz
  clear hl hn hsz
  go_enter Try.func47, Try.ntmps47
  go_wp2
  go_loopw [6, 7, 12] (fun n m i wr => ∃ (k c : Nat) (z : Int), k ≤ l.length ∧ i = .int .i64 k ∧ n = .int .i64 c ∧ m = .int .i64 z ∧ c ≤ k ∧ Hid (cntIn (l.take k) ns = c ∧ sumSz (l.take k) = z) ∧ Below w.heap.size w wr) (fun _ _ i _ => l.length - (intOf i).toNat)
  case atStart => exact ⟨0, 0, 0, Nat.zero_le _, rfl, rfl, rfl, Nat.le_refl _, Lib.hid ⟨rfl, rfl⟩, Below.refl _ _⟩
  case round =>
    obtain ⟨k, cn, z, hk, rfl, rfl, rfl, hck, HK, hb⟩ := hrel
    by_cases hlt : k < l.length
    · obtain ⟨p, off, v, x, rfl, _, hp, hx, hs, h1⟩ := Elems.sl (R := rSl rRg) hE hlt
      rw [← hb.cell (p := ⟨p, _, none⟩) hp] at h1
      have hik : (k : Int) < (l.length : Int) := by omega
      have HB := Lib.hid (Rd.below hs hb)
      have hc := cntIn_take ns hx
      have hz := sumSz_take hx
      have hzz := sumSz_nonneg (l.take k)
      rw [HK.out.1] at hc
      rw [HK.out.2] at hz hzz
      have hbd := (sizeBx_bd x).1
      have hw : IntKind.i64.wrap (z + sizeBx x) = z + sizeBx x := IntWalk.i64_in _ (by have := HSZ.out; omega)
      have HZ := Lib.hid hz.1
      have HC := Lib.hid hc
      have HCs := Lib.hid fun w1 (hb1 : Below wr.heap.size wr w1) => BSize_any w1 (Rd.below HB.out hb1)
      have HCh := Lib.hid (BHas_any wr HB.out (Rd.below HN.out hb))
      obtain ⟨A2, c2, rfl, _⟩ := rSl.elems hs
      generalize sizeBx x = sx at *
      clear hx hs hc hz hE HK hzz hbd
      cases hh : inBx x ns
      · rw [hh] at HCh HC
        have HC2 := Lib.hid (show cntIn (l.take (k + 1)) ns = cn by rw [HC.out]; rfl)
        clear hh HC
        go_wp2_with (first | (go_at_call 40; refine HCh.out.mono ?_; rintro e w1 ⟨rfl, hb1⟩) | (go_at_call 42; refine (HCs.out _ hb1).mono ?_; rintro e w2 ⟨rfl, hb2⟩))
        go_roundw
        case rel => exact ⟨k + 1, cn, z + sx, by omega, by go_num, rfl, rfl, by omega, Lib.hid ⟨HC2.out, HZ.out⟩, (hb.trans (hb1.mono hb.size)).trans (hb2.mono (Nat.le_trans hb.size hb1.size))⟩
        case measure => simp [intOf]; omega
      · rw [hh] at HCh HC
        have HC2 := Lib.hid (show cntIn (l.take (k + 1)) ns = cn + 1 by rw [HC.out]; rfl)
        clear hh HC
        go_wp2_with (first | (go_at_call 40; refine HCh.out.mono ?_; rintro e w1 ⟨rfl, hb1⟩) | (go_at_call 42; refine (HCs.out _ hb1).mono ?_; rintro e w2 ⟨rfl, hb2⟩))
        go_roundw
        case rel => exact ⟨k + 1, cn + 1, z + sx, by omega, by go_num, by go_num, rfl, by omega, Lib.hid ⟨HC2.out, HZ.out⟩, (hb.trans (hb1.mono hb.size)).trans (hb2.mono (Nat.le_trans hb.size hb1.size))⟩
        case measure => simp [intOf]; omega
    · have HQ : Hid (cntIn l ns = cn ∧ sumSz l = z) := Lib.hid (by have := HK.out; rwa [List.take_of_length_le (by omega)] at this)
      go_wp2
      go_ret2
      exact ⟨by rw [HQ.out.1, HQ.out.2]; rfl, hb⟩

/-- What Rest leaves. -/
def restStep (n : Nat) (out : List Bx) (b : Bx) : List Bx := if goodBx b (n : Int) then out.flatMap (lessB · b) else out
def restB (a : Bx) (l : List Bx) : List Bx := if goodBx a (a.length : Int) then l.foldl (restStep a.length) [a] else []

theorem lessGo_len : ∀ (a b pre : Bx), (lessGo pre a b).length ≤ a.length
  | s :: a, t :: b, pre => by
    rw [lessGo, List.length_append]
    have := lessGo_len a b (pre ++ [bothS s t])
    split <;> split <;> simp <;> omega
  | [], [], _ => by simp [lessGo]
  | [], _ :: _, _ => by simp [lessGo]
  | _ :: _, [], _ => by simp [lessGo]
theorem lessB_len (a b : Bx) : (lessB a b).length ≤ 3 := by
  unfold lessB
  split
  · rename_i h
    simp only [Bool.and_eq_true] at h
    have := (goodBx_iff.1 h.1).2.2
    have := lessGo_len a b []
    omega
  · simp
theorem flatMap_len (out : List Bx) (b : Bx) : (out.flatMap (lessB · b)).length ≤ 3 * out.length := by
  induction out with
  | nil => simp
  | cons x t ih =>
    rw [List.flatMap_cons, List.length_append]
    have := lessB_len x b
    simp only [List.length_cons]
    omega

end Go.Proofs.Ytlopccnehgolnaa
