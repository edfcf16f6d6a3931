
/- TextOnce returns true, for every text. No condition beyond the card's own: the variables that the row lists begin as the program's text lays them (tied). -/
import Derived.Test.YtlopccnehgolnabDoorTextOnce
import Derived.Test.YtlopccnehgolnabDoorLaidT
import Derived.Test.YtlopccnehgolnabDoorFrameX
import Derived.Test.YtlopccnehgolnabDoorOpenTb
import Derived.Test.YtlopccnehgolnabDoorOpenBk
import Derived.Test.YtlopccnehgolnabDoorFrameD
import Derived.Test.YtlopccnehgolnabDoorRows
import Derived.Test.YtlopccnehgolnabDoorTie
import Derived.Test.YtlopccnehgolnabDoorCards
import Derived.Lay
import Derived.MakeChecks
namespace Go.Proofs.YtlopccnehgolnabDoor
open Go.ChangeShapes Go.WideShapes Go.ChangeAt Go.RowKit Rb

theorem textOnce_params : Tryd.f4.params.toList = [9] := by kernel_rfl

/-- The variables that the row lists can be laid. -/
theorem textOnce_door (os : Os) (args : Array Value) : laidMetH Tryd.prog Rows.textOnceRow.laid ((World.laidAll Tryd.prog os Rows.textOnceRow.laid).forCall (fun _ _ => 0) ⟨#[], args, []⟩).memory := by
  rw [Go.MakeChecks.laidMetH_plain _ _ _ (by kernel_rfl)]
  exact laidMet_laidAll args (by kernel_rfl) (by kernel_rfl)

set_option maxRecDepth 100000 in
theorem textOnce_lifted (os : Os) (started : os.Started) (H : Type) (enc : TypeId × Value → H) :
    ReturnsInHanded {} Tryd.checked os 4 .any (fun w args => (Rows.textOnceSpec.pre enc Tryd.prog Tryd.f4 [] false w args ∧ laidMetH Tryd.prog Rows.textOnceRow.laid w) ∧ sizedMet enc Tryd.prog Tryd.f4 (OpenSpec.ofChange Rows.textOnceSpec) false w args)
      (Rows.textOnceSpec.post enc Tryd.prog Tryd.f4 false true false false) := by
  refine law_liftedXW (C := Tryd.checked) (X := fun w _ => laidMetH Tryd.prog Rows.textOnceRow.laid w) (fun _ _ _ hh h => h.of_heap hh) (by kernel_rfl) started (by kernel_rfl) Tryd.func4 (by kernel_rfl) 4 Tryd.underlying4 (by kernel_rfl) rfl ?_ ?_
    (ChangeSpec.witness_shaped (enc := enc) (C := Tryd.checked) (os := os) (X := fun w _ => laidMetH Tryd.prog Rows.textOnceRow.laid w) false (World.laidAll Tryd.prog os Rows.textOnceRow.laid) #[.string ⟨#[]⟩] 8 (World.laidAll_os _ _ _) (World.shaped_of_ZipB (by kernel_rfl) (by kernel_rfl)) (by kernel_rfl) (by kernel_rfl) (by kernel_rfl) (textOnce_door os _)) ?_
  · rw [textOnce_params]
    intro t ht
    simp only [List.mem_cons, List.not_mem_nil, or_false] at ht
    subst ht; exact ⟨by kernel_rfl, of_decide_eq_true (by kernel_rfl)⟩
  · rw [textOnce_params]
    intro ds hd
    match ds, hd with
    | [d0], _ => rfl
  · intro W base args ds p hval hA hwt hx
    rw [textOnce_params] at hA hwt
    have hpar : Tryd.f4.params = #[9] := by kernel_rfl
    have hP : Tryd.checked.prog = Tryd.prog := rfl
    rw [hpar, hP] at hval
    rw [hP] at hA hwt
    rw [hP]
    clear hpar hP
    obtain ⟨v0, vs0, d0, ds0, p0, q0, hargs, rfl, rfl, h0, r0⟩ := trodAll_cons hA
    obtain ⟨rfl, rfl, rfl⟩ := trodAll_nil r0
    obtain rfl : args = #[v0] := by cases args; simp_all
    obtain ⟨s0, rfl⟩ := hval.str Tryd.underlying9 (j := 0) rfl rfl
    obtain ⟨l0, g0⟩ := open_Txt.arg hwt (j := 0) rfl rfl h0
    obtain ⟨e0, hs0⟩ := g0
    have f0 : Value.string s0 = .string ⟨l0.toArray⟩ := by
      have := congrArg List.head? e0
      simpa [Value.cells] using this
    rw [f0]
    rw [Go.MakeChecks.laidMetH_plain _ _ _ (by kernel_rfl)] at hx
    have e : Rows.textOnceRow.laid = (("math/bits.deBruijn32tab", Rows.laid_math_bits_deBruijn32tab) :: ("math/bits.deBruijn64tab", Rows.laid_math_bits_deBruijn64tab) :: ("internal/strconv.uint64pow10", Lib.tabData .u64 Lib.pow10Tab) :: ("strconv.ErrRange", .iface "*errors.errorString" (.ptr (.agg [.lit (.string [118, 97, 108, 117, 101, 32, 111, 117, 116, 32, 111, 102, 32, 114, 97, 110, 103, 101])]))) :: ("strconv.ErrSyntax", .iface "*errors.errorString" (.ptr (.agg [.lit (.string [105, 110, 118, 97, 108, 105, 100, 32, 115, 121, 110, 116, 97, 120])]))) :: ("ratebook/text.policies", .agg (pols.map fun s => .lit (.string s))) :: []) := by kernel_rfl
    rw [e] at hx
    obtain ⟨hw, hp⟩ := libW_of_laid hx
    exact TextOnce_walk l0 W hs0 hw hp

theorem textOnce_row : Rows.TextOnceSaid :=
  OpenClaim.holds_of_wide 4 Tryd.f4 rfl rfl rfl rfl rfl rfl rfl ⟨rfl, rfl, rfl, rfl, rfl⟩ rfl rfl rfl rfl rfl (by kernel_rfl) Tryd.func4 (by kernel_rfl)
    (of_decide_eq_true (by kernel_rfl)) (by unfold Func.isWrapper; rw [if_neg (of_decide_eq_false (by kernel_rfl))]; exact ⟨rfl, rfl⟩)
    (fun os started H enc _ => textOnce_lifted os started H enc)

theorem textOnce_holds : Rows.TextOnceCardSaid :=
  Claim7.holds_tied_plain_at .later [] Rows.textOnceCard.laidKinds true Rows.textOnceCard.stood.harness Rows.textOnceCard.stood.looks
    textOnce_row (fun _ h => by cases h) (by kernel_rfl) (fun _ h => by cases h) textOnce_row_tie rfl ⟨rfl, rfl⟩ (by kernel_rfl) rfl
    (fun f fn hf hfn => by
      obtain rfl : f = 4 := Option.some.inj ((show Tryd.prog.funcNamed "ratebook/ratebookkeep.TextOnce" = some 4 by kernel_rfl).symm.trans hf) |>.symm
      obtain rfl : fn = Tryd.f4 := (Option.some.inj (Tryd.func4.symm.trans hfn)).symm
      exact ⟨by kernel_rfl, fun j t ht => by
        have hm : t ∈ Tryd.f4.params.toList := by simpa using Array.mem_of_getElem? ht
        rw [textOnce_params] at hm
        have hall : ([9].all fun u => !Tryd.prog.wantsStandIn u) = true := by kernel_rfl
        exact (show Tryd.prog.wantsStandIn t = false by simpa using List.all_eq_true.1 hall t hm)⟩)
    (by kernel_rfl)
#print axioms textOnce_holds
end Go.Proofs.YtlopccnehgolnabDoor
