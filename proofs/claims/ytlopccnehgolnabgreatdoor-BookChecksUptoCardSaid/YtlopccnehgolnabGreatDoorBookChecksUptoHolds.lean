
/- BookChecks returns true, for every book of bulk at most 1048576. No condition beyond that and the card's own: the variables that the row lists begin as the program's text lays them (tied). -/
import Derived.Test.YtlopccnehgolnabGreatDoorBookChecks
import Derived.Test.YtlopccnehgolnabGreatDoorOpenBk
import Derived.Test.YtlopccnehgolnabGreatDoorGrZ
import Derived.Test.YtlopccnehgolnabGreatDoorFrameU
import Derived.Test.YtlopccnehgolnabGreatDoorRows
import Derived.Test.YtlopccnehgolnabGreatDoorTie
import Derived.Test.YtlopccnehgolnabGreatDoorCards
namespace Go.Proofs.YtlopccnehgolnabGreatDoor
open Go.ChangeShapes Go.WideShapes Go.ChangeAt Go.RowKit Rb

theorem bookChecks_params : Tryz.f6.params.toList = [33] := by kernel_rfl

/-- The variables that the row lists can be laid. -/
theorem bookChecks_laid (os : Os) : laidMet Tryz.prog Rows.bookChecksUptoRow.laid ((World.laidAll Tryz.prog os Rows.bookChecksUptoRow.laid).forCall (fun _ _ => 0) ⟨#[], #[.agg #[.slice none 0 0, .slice none 0 0]], []⟩).memory :=
  laidMet_laidAll #[.agg #[.slice none 0 0, .slice none 0 0]] (by kernel_rfl) (by kernel_rfl)
theorem bookChecks_reads (os : Os) {H : Type} (enc : TypeId × Value → H) : ∃ places, DataW.whole enc Tryz.prog ((World.laidAll Tryz.prog os Rows.bookChecksUptoRow.laid).forCall (fun _ _ => 0) ⟨#[], #[.agg #[.slice none 0 0, .slice none 0 0]], []⟩).memory Tryz.f6.params.toList Rows.bookChecksSpec.vars false (#[.agg #[.slice none 0 0, .slice none 0 0]] : Array Value).toList 8 = some ([.agg [.nil, .nil]], [], places) :=
  ⟨[], by kernel_rfl⟩

set_option maxRecDepth 100000 in
theorem bookChecks_lifted (os : Os) (started : os.Started) (H : Type) (enc : TypeId × Value → H) (F : Stop.Interp) :
    ReturnsInHanded {} Tryz.checked os 6 .any ((Rows.OpenSpec.upto Rows.bookChecksSpec).preRow enc Tryz.prog Tryz.f6 Rows.bookChecksUptoRow.domain false Rows.bookChecksUptoRow.laid) (((Rows.OpenSpec.upto Rows.bookChecksSpec).at F).post enc Tryz.prog Tryz.f6 false true false false) := by
  obtain ⟨places, hx⟩ := bookChecks_reads os enc
  refine law_liftedC (C := Tryz.checked) (s := Rows.bookChecksSpec) (c := some Rows.uptoSmall) (by kernel_rfl) started (by kernel_rfl) Tryz.func6 (by kernel_rfl) 4 Tryz.underlying4 (by kernel_rfl) rfl ?_ ?_
    (witness_row_atRef (enc := enc) (C := Tryz.checked) false (World.laidAll Tryz.prog os Rows.bookChecksUptoRow.laid) #[.agg #[.slice none 0 0, .slice none 0 0]] (World.laidAll_os _ _ _) (by kernel_rfl) (by kernel_rfl) (by kernel_rfl)
      (OpenSpec.preRow_of_cond 8 hx (by kernel_rfl) (fun k hk => by cases hk; kernel_rfl) (by kernel_rfl) (bookChecks_laid os))) ?_
  · rw [bookChecks_params]
    intro t ht
    simp only [List.mem_cons, List.not_mem_nil, or_false] at ht
    subst ht; exact ⟨by kernel_rfl, of_decide_eq_true (by kernel_rfl)⟩
  · rw [bookChecks_params]
    intro ds hd
    match ds, hd with
    | [d0], _ => rfl
  · intro W base args ds p hval hA hwt hcond hL
    rw [bookChecks_params] at hA hwt
    have hpar : Tryz.f6.params = #[33] := by kernel_rfl
    have hP : Tryz.checked.prog = Tryz.prog := rfl
    rw [hpar, hP] at hval
    rw [hP] at hA hwt hL
    rw [hP]
    clear hpar hP
    obtain ⟨v0, vs0, d0, ds0, p0, q0, hargs, rfl, rfl, h0, r0⟩ := trodAll_cons hA
    obtain ⟨rfl, rfl, rfl⟩ := trodAll_nil r0
    obtain rfl : args = #[v0] := by cases args; simp_all
    have hk := hcond _ rfl
    obtain ⟨ca0, rfl, _⟩ := hval.struct bk_struct (j := 0) rfl rfl
    obtain ⟨cs0, rfl⟩ : ∃ l : List Value, ca0 = l.toArray := ⟨ca0.toList, by simp⟩
    obtain ⟨l0, g0⟩ := open_Bk.arg hwt (j := 0) rfl rfl h0
    exact BookChecks_walk W g0 (fits_of_bulkB h0 g0 (by simp) hk)

theorem bookChecks_row : Rows.BookChecksUptoSaid :=
  OpenClaim.holds_of_cond 6 Tryz.f6 rfl rfl rfl rfl rfl rfl rfl ⟨rfl, rfl, rfl, rfl, rfl⟩ rfl rfl rfl rfl rfl (by kernel_rfl) Tryz.func6 (by kernel_rfl)
    (of_decide_eq_true (by kernel_rfl)) (by unfold Func.isWrapper; rw [if_neg (of_decide_eq_false (by kernel_rfl))]; exact ⟨rfl, rfl⟩)
    (fun os started H enc _ F => by rw [OpenClaim.pre_eq_preRow]; exact bookChecks_lifted os started H enc F)

theorem bookChecks_holds : Rows.BookChecksUptoCardSaid :=
  Claim7.holds_tied_plain_at .later [] Rows.bookChecksUptoCard.laidKinds true Rows.bookChecksUptoCard.stood.harness Rows.bookChecksUptoCard.stood.looks
    bookChecks_row (fun _ h => by cases h) (by kernel_rfl) (fun _ h => by cases h) bookChecksUpto_row_tie rfl ⟨rfl, rfl⟩ (by kernel_rfl) rfl
    (fun f fn hf hfn => by
      obtain rfl : f = 6 := Option.some.inj ((show Tryz.prog.funcNamed "ratebook/ratebooklaw.BookChecks" = some 6 by kernel_rfl).symm.trans hf) |>.symm
      obtain rfl : fn = Tryz.f6 := (Option.some.inj (Tryz.func6.symm.trans hfn)).symm
      exact ⟨by kernel_rfl, fun j t ht => by
        have hm : t ∈ Tryz.f6.params.toList := by simpa using Array.mem_of_getElem? ht
        rw [bookChecks_params] at hm
        have hall : ([33].all fun u => !Tryz.prog.wantsStandIn u) = true := by kernel_rfl
        exact (show Tryz.prog.wantsStandIn t = false by simpa using List.all_eq_true.1 hall t hm)⟩)
    (by kernel_rfl)
#print axioms bookChecks_holds
end Go.Proofs.YtlopccnehgolnabGreatDoor
