
/- TableAreas returns true, for every table and box. No condition beyond the card's own: the variables that the row lists begin as the program's text lays them (tied). -/
import Derived.Test.YtlopccnehgolnabDoorTableAreas
import Derived.Test.YtlopccnehgolnabDoorOpenX
import Derived.Test.YtlopccnehgolnabDoorOpenBx
import Derived.Test.YtlopccnehgolnabDoorFrameD
import Derived.Test.YtlopccnehgolnabDoorRows
import Derived.Test.YtlopccnehgolnabDoorTie
import Derived.Test.YtlopccnehgolnabDoorCards
import Derived.Lay
import Derived.MakeChecks
namespace Go.Proofs.YtlopccnehgolnabDoor
open Go.ChangeShapes Go.WideShapes Go.ChangeAt Go.RowKit Rb

theorem tableAreas_params : Tryd.f5.params.toList = [25, 39] := by kernel_rfl

/-- The variables that the row lists can be laid. -/
theorem tableAreas_door (os : Os) (args : Array Value) : laidMetH Tryd.prog Rows.tableAreasRow.laid ((World.laidAll Tryd.prog os Rows.tableAreasRow.laid).forCall (fun _ _ => 0) ⟨#[], args, []⟩).memory := by
  rw [Go.MakeChecks.laidMetH_plain _ _ _ (by kernel_rfl)]
  exact laidMet_laidAll args (by kernel_rfl) (by kernel_rfl)

set_option maxRecDepth 100000 in
theorem tableAreas_lifted (os : Os) (started : os.Started) (H : Type) (enc : TypeId × Value → H) :
    ReturnsInHanded {} Tryd.checked os 5 .any (fun w args => (Rows.tableAreasSpec.pre enc Tryd.prog Tryd.f5 [] false w args ∧ laidMetH Tryd.prog Rows.tableAreasRow.laid w) ∧ sizedMet enc Tryd.prog Tryd.f5 (OpenSpec.ofChange Rows.tableAreasSpec) false w args)
      (Rows.tableAreasSpec.post enc Tryd.prog Tryd.f5 false true false false) := by
  refine law_liftedX (C := Tryd.checked) (X := fun w _ => laidMetH Tryd.prog Rows.tableAreasRow.laid w) (fun _ _ _ hh h => h.of_heap hh) (by kernel_rfl) started (by kernel_rfl) Tryd.func5 (by kernel_rfl) 4 Tryd.underlying4 (by kernel_rfl) rfl ?_ ?_
    (ChangeSpec.witness_shaped (enc := enc) (C := Tryd.checked) (os := os) (X := fun w _ => laidMetH Tryd.prog Rows.tableAreasRow.laid w) false (World.laidAll Tryd.prog os Rows.tableAreasRow.laid) #[.agg #[.string ⟨#[]⟩, .int .i64 0, .bool false, .slice none 0 0, .slice none 0 0], .slice none 0 0] 8 (World.laidAll_os _ _ _) (World.shaped_of_ZipB (by kernel_rfl) (by kernel_rfl)) (by kernel_rfl) (by kernel_rfl) (by kernel_rfl) (tableAreas_door os _)) ?_
  · rw [tableAreas_params]
    intro t ht
    simp only [List.mem_cons, List.not_mem_nil, or_false] at ht
    rcases ht with rfl | rfl <;> exact ⟨by kernel_rfl, of_decide_eq_true (by kernel_rfl)⟩
  · rw [tableAreas_params]
    intro ds hd
    match ds, hd with
    | [d0, d1], _ => rfl
  · intro W base args ds p hval hA hwt
    rw [tableAreas_params] at hA hwt
    have hpar : Tryd.f5.params = #[25, 39] := by kernel_rfl
    have hP : Tryd.checked.prog = Tryd.prog := rfl
    rw [hpar, hP] at hval
    rw [hP] at hA hwt
    rw [hP]
    clear hpar hP
    obtain ⟨v0, vs0, d0, ds0, p0, q0, hargs, rfl, rfl, h0, r0⟩ := trodAll_cons hA
    obtain ⟨v1, vs1, d1, ds1, p1, q1, rfl, rfl, rfl, h1, r1⟩ := trodAll_cons r0
    obtain ⟨rfl, rfl, rfl⟩ := trodAll_nil r1
    obtain rfl : args = #[v0, v1] := by cases args; simp_all
    obtain ⟨ca0, rfl, _⟩ := hval.struct tb_struct (j := 0) rfl rfl
    obtain ⟨cs0, rfl⟩ : ∃ l : List Value, ca0 = l.toArray := ⟨ca0.toList, by simp⟩
    obtain ⟨l0, g0⟩ := open_Tb.arg hwt (j := 0) rfl rfl h0
    obtain ⟨a1, u1, c1, rfl⟩ := hval.slice Tryd.underlying39 (j := 1) rfl rfl
    obtain ⟨l1, g1⟩ := open_Bx.arg hwt (j := 1) rfl rfl h1
    exact TableAreas_walk W g0 g1

theorem tableAreas_row : Rows.TableAreasSaid :=
  OpenClaim.holds_of_wide 5 Tryd.f5 rfl rfl rfl rfl rfl rfl rfl ⟨rfl, rfl, rfl, rfl, rfl⟩ rfl rfl rfl rfl rfl (by kernel_rfl) Tryd.func5 (by kernel_rfl)
    (of_decide_eq_true (by kernel_rfl)) (by unfold Func.isWrapper; rw [if_neg (of_decide_eq_false (by kernel_rfl))]; exact ⟨rfl, rfl⟩)
    (fun os started H enc _ => tableAreas_lifted os started H enc)

theorem tableAreas_holds : Rows.TableAreasCardSaid :=
  Claim7.holds_tied_plain_at .later [] Rows.tableAreasCard.laidKinds true Rows.tableAreasCard.stood.harness Rows.tableAreasCard.stood.looks
    tableAreas_row (fun _ h => by cases h) (by kernel_rfl) (fun _ h => by cases h) tableAreas_row_tie rfl ⟨rfl, rfl⟩ (by kernel_rfl) rfl
    (fun f fn hf hfn => by
      obtain rfl : f = 5 := Option.some.inj ((show Tryd.prog.funcNamed "ratebook/ratebooklaw.TableAreas" = some 5 by kernel_rfl).symm.trans hf) |>.symm
      obtain rfl : fn = Tryd.f5 := (Option.some.inj (Tryd.func5.symm.trans hfn)).symm
      exact ⟨by kernel_rfl, fun j t ht => by
        have hm : t ∈ Tryd.f5.params.toList := by simpa using Array.mem_of_getElem? ht
        rw [tableAreas_params] at hm
        have hall : ([25, 39].all fun u => !Tryd.prog.wantsStandIn u) = true := by kernel_rfl
        exact (show Tryd.prog.wantsStandIn t = false by simpa using List.all_eq_true.1 hall t hm)⟩)
    (by kernel_rfl)
#print axioms tableAreas_holds
end Go.Proofs.YtlopccnehgolnabDoor
