
/- BookAsks returns true, for every book and input that are together of bulk at most 1048576. No condition beyond that and the card's own: the variables that the row lists begin as the program's text lays them (tied). -/
import Derived.Test.YtlopccnehgolnabGreatDoorBookAsks
import Derived.Test.YtlopccnehgolnabGreatDoorOpenBk
import Derived.Test.YtlopccnehgolnabGreatDoorGrZ
import Derived.Test.YtlopccnehgolnabGreatDoorFrameU
import Derived.Test.YtlopccnehgolnabGreatDoorRows
import Derived.Test.YtlopccnehgolnabGreatDoorTie
import Derived.Test.YtlopccnehgolnabGreatDoorCards
namespace Go.Proofs.YtlopccnehgolnabGreatDoor
open Go.ChangeShapes Go.WideShapes Go.ChangeAt Go.RowKit Rb

theorem bookAsks_params : Tryz.f7.params.toList = [33, 23] := by kernel_rfl

/-- The variables that the row lists can be laid. -/
theorem bookAsks_laid (os : Os) : laidMet Tryz.prog Rows.bookAsksUptoRow.laid ((World.laidAll Tryz.prog os Rows.bookAsksUptoRow.laid).forCall (fun _ _ => 0) ⟨#[], #[.agg #[.slice none 0 0, .slice none 0 0], .slice none 0 0], []⟩).memory :=
  laidMet_laidAll #[.agg #[.slice none 0 0, .slice none 0 0], .slice none 0 0] (by kernel_rfl) (by kernel_rfl)
theorem bookAsks_reads (os : Os) {H : Type} (enc : TypeId × Value → H) : ∃ places, DataW.whole enc Tryz.prog ((World.laidAll Tryz.prog os Rows.bookAsksUptoRow.laid).forCall (fun _ _ => 0) ⟨#[], #[.agg #[.slice none 0 0, .slice none 0 0], .slice none 0 0], []⟩).memory Tryz.f7.params.toList Rows.bookAsksSpec.vars false (#[.agg #[.slice none 0 0, .slice none 0 0], .slice none 0 0] : Array Value).toList 8 = some ([.agg [.nil, .nil], .nil], [], places) :=
  ⟨[], by kernel_rfl⟩

set_option maxRecDepth 100000 in
theorem bookAsks_lifted (os : Os) (started : os.Started) (H : Type) (enc : TypeId × Value → H) (F : Stop.Interp) :
    ReturnsInHanded {} Tryz.checked os 7 .any ((Rows.OpenSpec.upto Rows.bookAsksSpec).preRow enc Tryz.prog Tryz.f7 Rows.bookAsksUptoRow.domain false Rows.bookAsksUptoRow.laid) (((Rows.OpenSpec.upto Rows.bookAsksSpec).at F).post enc Tryz.prog Tryz.f7 false true false false) := by
  obtain ⟨places, hx⟩ := bookAsks_reads os enc
  refine law_liftedC (C := Tryz.checked) (s := Rows.bookAsksSpec) (c := some Rows.uptoSmall) (by kernel_rfl) started (by kernel_rfl) Tryz.func7 (by kernel_rfl) 4 Tryz.underlying4 (by kernel_rfl) rfl ?_ ?_
    (witness_row_atRef (enc := enc) (C := Tryz.checked) false (World.laidAll Tryz.prog os Rows.bookAsksUptoRow.laid) #[.agg #[.slice none 0 0, .slice none 0 0], .slice none 0 0] (World.laidAll_os _ _ _) (by kernel_rfl) (by kernel_rfl) (by kernel_rfl)
      (OpenSpec.preRow_of_cond 8 hx (by kernel_rfl) (fun k hk => by cases hk; kernel_rfl) (by kernel_rfl) (bookAsks_laid os))) ?_
  · rw [bookAsks_params]
    intro t ht
    simp only [List.mem_cons, List.not_mem_nil, or_false] at ht
    rcases ht with rfl | rfl <;> exact ⟨by kernel_rfl, of_decide_eq_true (by kernel_rfl)⟩
  · rw [bookAsks_params]
    intro ds hd
    match ds, hd with
    | [d0, d1], _ => rfl
  · intro W base args ds p hval hA hwt hcond hL
    rw [bookAsks_params] at hA hwt
    have hpar : Tryz.f7.params = #[33, 23] := by kernel_rfl
    have hP : Tryz.checked.prog = Tryz.prog := rfl
    rw [hpar, hP] at hval
    rw [hP] at hA hwt hL
    rw [hP]
    clear hpar hP
    obtain ⟨v0, vs0, d0, ds0, p0, q0, hargs, rfl, rfl, h0, r0⟩ := trodAll_cons hA
    obtain ⟨v1, vs1, d1, ds1, p1, q1, rfl, rfl, rfl, h1, r1⟩ := trodAll_cons r0
    obtain ⟨rfl, rfl, rfl⟩ := trodAll_nil r1
    obtain rfl : args = #[v0, v1] := by cases args; simp_all
    have hk := hcond _ rfl
    obtain ⟨ca0, rfl, _⟩ := hval.struct bk_struct (j := 0) rfl rfl
    obtain ⟨cs0, rfl⟩ : ∃ l : List Value, ca0 = l.toArray := ⟨ca0.toList, by simp⟩
    obtain ⟨l0, g0⟩ := open_Bk.arg hwt (j := 0) rfl rfl h0
    obtain ⟨a1, u1, c1, rfl⟩ := hval.slice Tryz.underlying23 (j := 1) rfl rfl
    obtain ⟨l1, g1⟩ := open_Ints.arg hwt (j := 1) rfl rfl h1
    exact BookAsks_walk W g0 g1 (fits_of_bulkB h0 g0 (by simp) hk)

theorem bookAsks_row : Rows.BookAsksUptoSaid :=
  OpenClaim.holds_of_cond 7 Tryz.f7 rfl rfl rfl rfl rfl rfl rfl ⟨rfl, rfl, rfl, rfl, rfl⟩ rfl rfl rfl rfl rfl (by kernel_rfl) Tryz.func7 (by kernel_rfl)
    (of_decide_eq_true (by kernel_rfl)) (by unfold Func.isWrapper; rw [if_neg (of_decide_eq_false (by kernel_rfl))]; exact ⟨rfl, rfl⟩)
    (fun os started H enc _ F => by rw [OpenClaim.pre_eq_preRow]; exact bookAsks_lifted os started H enc F)

theorem bookAsks_holds : Rows.BookAsksUptoCardSaid :=
  Claim7.holds_tied_plain_at .later [] Rows.bookAsksUptoCard.laidKinds true Rows.bookAsksUptoCard.stood.harness Rows.bookAsksUptoCard.stood.looks
    bookAsks_row (fun _ h => by cases h) (by kernel_rfl) (fun _ h => by cases h) bookAsksUpto_row_tie rfl ⟨rfl, rfl⟩ (by kernel_rfl) rfl
    (fun f fn hf hfn => by
      obtain rfl : f = 7 := Option.some.inj ((show Tryz.prog.funcNamed "ratebook/ratebooklaw.BookAsks" = some 7 by kernel_rfl).symm.trans hf) |>.symm
      obtain rfl : fn = Tryz.f7 := (Option.some.inj (Tryz.func7.symm.trans hfn)).symm
      exact ⟨by kernel_rfl, fun j t ht => by
        have hm : t ∈ Tryz.f7.params.toList := by simpa using Array.mem_of_getElem? ht
        rw [bookAsks_params] at hm
        have hall : ([33, 23].all fun u => !Tryz.prog.wantsStandIn u) = true := by kernel_rfl
        exact (show Tryz.prog.wantsStandIn t = false by simpa using List.all_eq_true.1 hall t hm)⟩)
    (by kernel_rfl)
#print axioms bookAsks_holds
end Go.Proofs.YtlopccnehgolnabGreatDoor
