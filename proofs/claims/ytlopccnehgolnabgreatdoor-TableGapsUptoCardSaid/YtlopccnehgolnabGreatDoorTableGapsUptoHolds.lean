
/- TableGaps returns true, for every table and box that are together of bulk at most 1048576. No condition beyond that and the card's own: the variables that the row lists begin as the program's text lays them (tied). -/
import Derived.Test.YtlopccnehgolnabGreatDoorTableGaps
import Derived.Test.YtlopccnehgolnabGreatDoorOpenTb
import Derived.Test.YtlopccnehgolnabGreatDoorOpenBx
import Derived.Test.YtlopccnehgolnabGreatDoorBulk
import Derived.Test.YtlopccnehgolnabGreatDoorFrameU
import Derived.Test.YtlopccnehgolnabGreatDoorRows
import Derived.Test.YtlopccnehgolnabGreatDoorTie
import Derived.Test.YtlopccnehgolnabGreatDoorCards
namespace Go.Proofs.YtlopccnehgolnabGreatDoor
open Go.ChangeShapes Go.WideShapes Go.ChangeAt Go.RowKit Rb

theorem tableGaps_params : Tryz.f5.params.toList = [42, 59] := by kernel_rfl

/-- The variables that the row lists can be laid. -/
theorem tableGaps_laid (os : Os) : laidMet Tryz.prog Rows.tableGapsUptoRow.laid ((World.laidAll Tryz.prog os Rows.tableGapsUptoRow.laid).forCall (fun _ _ => 0) ⟨#[], #[.agg #[.string ⟨#[]⟩, .int .i64 0, .bool false, .slice none 0 0, .slice none 0 0], .slice none 0 0], []⟩).memory :=
  laidMet_laidAll #[.agg #[.string ⟨#[]⟩, .int .i64 0, .bool false, .slice none 0 0, .slice none 0 0], .slice none 0 0] (by kernel_rfl) (by kernel_rfl)
theorem tableGaps_reads (os : Os) {H : Type} (enc : TypeId × Value → H) : ∃ places, DataW.whole enc Tryz.prog ((World.laidAll Tryz.prog os Rows.tableGapsUptoRow.laid).forCall (fun _ _ => 0) ⟨#[], #[.agg #[.string ⟨#[]⟩, .int .i64 0, .bool false, .slice none 0 0, .slice none 0 0], .slice none 0 0], []⟩).memory Tryz.f5.params.toList Rows.tableGapsSpec.vars false (#[.agg #[.string ⟨#[]⟩, .int .i64 0, .bool false, .slice none 0 0, .slice none 0 0], .slice none 0 0] : Array Value).toList 8 = some ([.agg [.lit (.string []), .lit (.int .i64 0), .lit (.bool false), .nil, .nil], .nil], [], places) :=
  ⟨[], by kernel_rfl⟩

set_option maxRecDepth 100000 in
theorem tableGaps_lifted (os : Os) (started : os.Started) (H : Type) (enc : TypeId × Value → H) (F : Stop.Interp) :
    ReturnsInHanded {} Tryz.checked os 5 .any ((Rows.OpenSpec.upto Rows.tableGapsSpec).preRow enc Tryz.prog Tryz.f5 Rows.tableGapsUptoRow.domain false Rows.tableGapsUptoRow.laid) (((Rows.OpenSpec.upto Rows.tableGapsSpec).at F).post enc Tryz.prog Tryz.f5 false true false false) := by
  obtain ⟨places, hx⟩ := tableGaps_reads os enc
  refine law_liftedC (C := Tryz.checked) (s := Rows.tableGapsSpec) (c := some Rows.uptoSmall) (by kernel_rfl) started (by kernel_rfl) Tryz.func5 (by kernel_rfl) 4 Tryz.underlying4 (by kernel_rfl) rfl ?_ ?_
    (witness_row_atRef (enc := enc) (C := Tryz.checked) false (World.laidAll Tryz.prog os Rows.tableGapsUptoRow.laid) #[.agg #[.string ⟨#[]⟩, .int .i64 0, .bool false, .slice none 0 0, .slice none 0 0], .slice none 0 0] (World.laidAll_os _ _ _) (by kernel_rfl) (by kernel_rfl) (by kernel_rfl)
      (OpenSpec.preRow_of_cond 8 hx (by kernel_rfl) (fun k hk => by cases hk; kernel_rfl) (by kernel_rfl) (tableGaps_laid os))) ?_
  · rw [tableGaps_params]
    intro t ht
    simp only [List.mem_cons, List.not_mem_nil, or_false] at ht
    rcases ht with rfl | rfl <;> exact ⟨by kernel_rfl, of_decide_eq_true (by kernel_rfl)⟩
  · rw [tableGaps_params]
    intro ds hd
    match ds, hd with
    | [d0, d1], _ => rfl
  · intro W base args ds p hval hA hwt hcond hL
    rw [tableGaps_params] at hA hwt
    have hpar : Tryz.f5.params = #[42, 59] := by kernel_rfl
    have hP : Tryz.checked.prog = Tryz.prog := rfl
    rw [hpar, hP] at hval
    rw [hP] at hA hwt hL
    rw [hP]
    clear hpar hP
    obtain ⟨v0, vs0, d0, ds0, p0, q0, hargs, rfl, rfl, h0, r0⟩ := trodAll_cons hA
    obtain ⟨v1, vs1, d1, ds1, p1, q1, rfl, rfl, rfl, h1, r1⟩ := trodAll_cons r0
    obtain ⟨rfl, rfl, rfl⟩ := trodAll_nil r1
    obtain rfl : args = #[v0, v1] := by cases args; simp_all
    have hk := hcond _ rfl
    obtain ⟨ca0, rfl, _⟩ := hval.struct tb_struct (j := 0) rfl rfl
    obtain ⟨cs0, rfl⟩ : ∃ l : List Value, ca0 = l.toArray := ⟨ca0.toList, by simp⟩
    obtain ⟨l0, g0⟩ := open_Tb.arg hwt (j := 0) rfl rfl h0
    obtain ⟨a1, u1, c1, rfl⟩ := hval.slice Tryz.underlying59 (j := 1) rfl rfl
    obtain ⟨l1, g1⟩ := open_Bx.arg hwt (j := 1) rfl rfl h1
    exact TableGaps_walk W g0 g1 (fits_of_bulk h0 g0 (by simp) hk)

theorem tableGaps_row : Rows.TableGapsUptoSaid :=
  OpenClaim.holds_of_cond 5 Tryz.f5 rfl rfl rfl rfl rfl rfl rfl ⟨rfl, rfl, rfl, rfl, rfl⟩ rfl rfl rfl rfl rfl (by kernel_rfl) Tryz.func5 (by kernel_rfl)
    (of_decide_eq_true (by kernel_rfl)) (by unfold Func.isWrapper; rw [if_neg (of_decide_eq_false (by kernel_rfl))]; exact ⟨rfl, rfl⟩)
    (fun os started H enc _ F => by rw [OpenClaim.pre_eq_preRow]; exact tableGaps_lifted os started H enc F)

theorem tableGaps_holds : Rows.TableGapsUptoCardSaid :=
  Claim7.holds_tied_plain_at .later [] Rows.tableGapsUptoCard.laidKinds true Rows.tableGapsUptoCard.stood.harness Rows.tableGapsUptoCard.stood.looks
    tableGaps_row (fun _ h => by cases h) (by kernel_rfl) (fun _ h => by cases h) tableGapsUpto_row_tie rfl ⟨rfl, rfl⟩ (by kernel_rfl) rfl
    (fun f fn hf hfn => by
      obtain rfl : f = 5 := Option.some.inj ((show Tryz.prog.funcNamed "ratebook/ratebooklaw.TableGaps" = some 5 by kernel_rfl).symm.trans hf) |>.symm
      obtain rfl : fn = Tryz.f5 := (Option.some.inj (Tryz.func5.symm.trans hfn)).symm
      exact ⟨by kernel_rfl, fun j t ht => by
        have hm : t ∈ Tryz.f5.params.toList := by simpa using Array.mem_of_getElem? ht
        rw [tableGaps_params] at hm
        have hall : ([42, 59].all fun u => !Tryz.prog.wantsStandIn u) = true := by kernel_rfl
        exact (show Tryz.prog.wantsStandIn t = false by simpa using List.all_eq_true.1 hall t hm)⟩)
    (by kernel_rfl)
#print axioms tableGaps_holds
end Go.Proofs.YtlopccnehgolnabGreatDoor
