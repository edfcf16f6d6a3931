
/- TextBack returns true, for every table and domain. No condition beyond the card's own: the variables that the row lists begin as the program's text lays them (tied). -/
import Derived.Test.YtlopccnehgolnabDoorTextBack
import Derived.Test.YtlopccnehgolnabDoorLaidT
import Derived.Test.YtlopccnehgolnabDoorFrameX
import Derived.Test.YtlopccnehgolnabDoorOpenTb
import Derived.Test.YtlopccnehgolnabDoorOpenBk
import Derived.Test.YtlopccnehgolnabDoorFrameD
import Derived.Test.YtlopccnehgolnabDoorRows
import Derived.Test.YtlopccnehgolnabDoorTie
import Derived.Test.YtlopccnehgolnabDoorCards
import Derived.Lay
import Derived.MakeChecks
namespace Go.Proofs.YtlopccnehgolnabDoor
open Go.ChangeShapes Go.WideShapes Go.ChangeAt Go.RowKit Rb

theorem textBack_params : Tryd.f3.params.toList = [25, 27] := by kernel_rfl

/-- The variables that the row lists can be laid. -/
theorem textBack_door (os : Os) (args : Array Value) : laidMetH Tryd.prog Rows.textBackRow.laid ((World.laidAll Tryd.prog os Rows.textBackRow.laid).forCall (fun _ _ => 0) ⟨#[], args, []⟩).memory := by
  rw [Go.MakeChecks.laidMetH_plain _ _ _ (by kernel_rfl)]
  exact laidMet_laidAll args (by kernel_rfl) (by kernel_rfl)

set_option maxRecDepth 100000 in
theorem textBack_lifted (os : Os) (started : os.Started) (H : Type) (enc : TypeId × Value → H) :
    ReturnsInHanded {} Tryd.checked os 3 .any (fun w args => (Rows.textBackSpec.pre enc Tryd.prog Tryd.f3 [] false w args ∧ laidMetH Tryd.prog Rows.textBackRow.laid w) ∧ sizedMet enc Tryd.prog Tryd.f3 (OpenSpec.ofChange Rows.textBackSpec) false w args)
      (Rows.textBackSpec.post enc Tryd.prog Tryd.f3 false true false false) := by
  refine law_liftedXW (C := Tryd.checked) (X := fun w _ => laidMetH Tryd.prog Rows.textBackRow.laid w) (fun _ _ _ hh h => h.of_heap hh) (by kernel_rfl) started (by kernel_rfl) Tryd.func3 (by kernel_rfl) 4 Tryd.underlying4 (by kernel_rfl) rfl ?_ ?_
    (ChangeSpec.witness_shaped (enc := enc) (C := Tryd.checked) (os := os) (X := fun w _ => laidMetH Tryd.prog Rows.textBackRow.laid w) false (World.laidAll Tryd.prog os Rows.textBackRow.laid) #[.agg #[.string ⟨#[]⟩, .int .i64 0, .bool false, .slice none 0 0, .slice none 0 0], .agg #[.string ⟨#[]⟩, .int .i64 0, .int .i64 0]] 8 (World.laidAll_os _ _ _) (World.shaped_of_ZipB (by kernel_rfl) (by kernel_rfl)) (by kernel_rfl) (by kernel_rfl) (by kernel_rfl) (textBack_door os _)) ?_
  · rw [textBack_params]
    intro t ht
    simp only [List.mem_cons, List.not_mem_nil, or_false] at ht
    rcases ht with rfl | rfl <;> exact ⟨by kernel_rfl, of_decide_eq_true (by kernel_rfl)⟩
  · rw [textBack_params]
    intro ds hd
    match ds, hd with
    | [d0, d1], _ => rfl
  · intro W base args ds p hval hA hwt hx
    rw [textBack_params] at hA hwt
    have hpar : Tryd.f3.params = #[25, 27] := by kernel_rfl
    have hP : Tryd.checked.prog = Tryd.prog := rfl
    rw [hpar, hP] at hval
    rw [hP] at hA hwt
    rw [hP]
    clear hpar hP
    obtain ⟨v0, vs0, d0, ds0, p0, q0, hargs, rfl, rfl, h0, r0⟩ := trodAll_cons hA
    obtain ⟨v1, vs1, d1, ds1, p1, q1, rfl, rfl, rfl, h1, r1⟩ := trodAll_cons r0
    obtain ⟨rfl, rfl, rfl⟩ := trodAll_nil r1
    obtain rfl : args = #[v0, v1] := by cases args; simp_all
    obtain ⟨ca0, rfl, _⟩ := hval.struct tb_struct (j := 0) rfl rfl
    obtain ⟨cs0, rfl⟩ : ∃ l : List Value, ca0 = l.toArray := ⟨ca0.toList, by simp⟩
    obtain ⟨l0, g0⟩ := open_Tb.arg hwt (j := 0) rfl rfl h0
    obtain ⟨ca1, rfl, _⟩ := hval.struct dm_struct (j := 1) rfl rfl
    obtain ⟨cs1, rfl⟩ : ∃ l : List Value, ca1 = l.toArray := ⟨ca1.toList, by simp⟩
    obtain ⟨l1, g1⟩ := open_Dm.arg hwt (j := 1) rfl rfl h1
    rw [Go.MakeChecks.laidMetH_plain _ _ _ (by kernel_rfl)] at hx
    have e : Rows.textBackRow.laid = (("math/bits.deBruijn32tab", Rows.laid_math_bits_deBruijn32tab) :: ("math/bits.deBruijn64tab", Rows.laid_math_bits_deBruijn64tab) :: ("internal/strconv.uint64pow10", Lib.tabData .u64 Lib.pow10Tab) :: ("strconv.ErrRange", .iface "*errors.errorString" (.ptr (.agg [.lit (.string [118, 97, 108, 117, 101, 32, 111, 117, 116, 32, 111, 102, 32, 114, 97, 110, 103, 101])]))) :: ("strconv.ErrSyntax", .iface "*errors.errorString" (.ptr (.agg [.lit (.string [105, 110, 118, 97, 108, 105, 100, 32, 115, 121, 110, 116, 97, 120])]))) :: ("ratebook/text.policies", .agg (pols.map fun s => .lit (.string s))) :: []) := by kernel_rfl
    rw [e] at hx
    obtain ⟨hw, hp⟩ := libW_of_laid hx
    obtain ⟨rfl, hs, hlo, hhi⟩ := g1
    exact TextBack_walk l0 l1 W g0 hs hlo hhi hw hp

theorem textBack_row : Rows.TextBackSaid :=
  OpenClaim.holds_of_wide 3 Tryd.f3 rfl rfl rfl rfl rfl rfl rfl ⟨rfl, rfl, rfl, rfl, rfl⟩ rfl rfl rfl rfl rfl (by kernel_rfl) Tryd.func3 (by kernel_rfl)
    (of_decide_eq_true (by kernel_rfl)) (by unfold Func.isWrapper; rw [if_neg (of_decide_eq_false (by kernel_rfl))]; exact ⟨rfl, rfl⟩)
    (fun os started H enc _ => textBack_lifted os started H enc)

theorem textBack_holds : Rows.TextBackCardSaid :=
  Claim7.holds_tied_plain_at .later [] Rows.textBackCard.laidKinds true Rows.textBackCard.stood.harness Rows.textBackCard.stood.looks
    textBack_row (fun _ h => by cases h) (by kernel_rfl) (fun _ h => by cases h) textBack_row_tie rfl ⟨rfl, rfl⟩ (by kernel_rfl) rfl
    (fun f fn hf hfn => by
      obtain rfl : f = 3 := Option.some.inj ((show Tryd.prog.funcNamed "ratebook/ratebookkeep.TextBack" = some 3 by kernel_rfl).symm.trans hf) |>.symm
      obtain rfl : fn = Tryd.f3 := (Option.some.inj (Tryd.func3.symm.trans hfn)).symm
      exact ⟨by kernel_rfl, fun j t ht => by
        have hm : t ∈ Tryd.f3.params.toList := by simpa using Array.mem_of_getElem? ht
        rw [textBack_params] at hm
        have hall : ([25, 27].all fun u => !Tryd.prog.wantsStandIn u) = true := by kernel_rfl
        exact (show Tryd.prog.wantsStandIn t = false by simpa using List.all_eq_true.1 hall t hm)⟩)
    (by kernel_rfl)
#print axioms textBack_holds
end Go.Proofs.YtlopccnehgolnabDoor
