
/- TableTells returns true, for every table, input and number that are together of bulk at most 1048576. No condition beyond that and the card's own: the variables that the row lists begin as the program's text lays them (tied). -/
import Derived.Test.YtlopccnehgolnaaDoorTableTells
import Derived.Test.YtlopccnehgolnaaDoorOpenX
import Derived.Test.YtlopccnehgolnaaDoorBulk
import Derived.Test.YtlopccnehgolnaaDoorFrameU
import Derived.Test.YtlopccnehgolnaaDoorRows
import Derived.Test.YtlopccnehgolnaaDoorTie
import Derived.Test.YtlopccnehgolnaaDoorCards
namespace Go.Proofs.YtlopccnehgolnaaDoor
open Go.ChangeShapes Go.WideShapes Go.ChangeAt Go.RowKit Rb

theorem tableTells_params : Tryd.f3.params.toList = [25, 26, 3] := by kernel_rfl

/-- The variables that the row lists can be laid. -/
theorem tableTells_laid (os : Os) : laidMet Tryd.prog Rows.tableTellsUptoRow.laid ((World.laidAll Tryd.prog os Rows.tableTellsUptoRow.laid).forCall (fun _ _ => 0) ⟨#[], #[.agg #[.string ⟨#[]⟩, .int .i64 0, .bool false, .slice none 0 0, .slice none 0 0], .slice none 0 0, .int .i64 0], []⟩).memory :=
  laidMet_laidAll #[.agg #[.string ⟨#[]⟩, .int .i64 0, .bool false, .slice none 0 0, .slice none 0 0], .slice none 0 0, .int .i64 0] (by kernel_rfl) (by kernel_rfl)
theorem tableTells_reads (os : Os) {H : Type} (enc : TypeId × Value → H) : ∃ places, DataW.whole enc Tryd.prog ((World.laidAll Tryd.prog os Rows.tableTellsUptoRow.laid).forCall (fun _ _ => 0) ⟨#[], #[.agg #[.string ⟨#[]⟩, .int .i64 0, .bool false, .slice none 0 0, .slice none 0 0], .slice none 0 0, .int .i64 0], []⟩).memory Tryd.f3.params.toList Rows.tableTellsSpec.vars false (#[.agg #[.string ⟨#[]⟩, .int .i64 0, .bool false, .slice none 0 0, .slice none 0 0], .slice none 0 0, .int .i64 0] : Array Value).toList 8 = some ([.agg [.lit (.string []), .lit (.int .i64 0), .lit (.bool false), .nil, .nil], .nil, .lit (.int .i64 0)], [], places) :=
  ⟨[], by kernel_rfl⟩

set_option maxRecDepth 100000 in
theorem tableTells_lifted (os : Os) (started : os.Started) (H : Type) (enc : TypeId × Value → H) (F : Stop.Interp) :
    ReturnsInHanded {} Tryd.checked os 3 .any ((Rows.OpenSpec.upto Rows.tableTellsSpec).preRow enc Tryd.prog Tryd.f3 Rows.tableTellsUptoRow.domain false Rows.tableTellsUptoRow.laid) (((Rows.OpenSpec.upto Rows.tableTellsSpec).at F).post enc Tryd.prog Tryd.f3 false true false false) := by
  obtain ⟨places, hx⟩ := tableTells_reads os enc
  refine law_liftedC (C := Tryd.checked) (s := Rows.tableTellsSpec) (c := some Rows.uptoSmall) (by kernel_rfl) started (by kernel_rfl) Tryd.func3 (by kernel_rfl) 4 Tryd.underlying4 (by kernel_rfl) rfl ?_ ?_
    (witness_row_atRef (enc := enc) (C := Tryd.checked) false (World.laidAll Tryd.prog os Rows.tableTellsUptoRow.laid) #[.agg #[.string ⟨#[]⟩, .int .i64 0, .bool false, .slice none 0 0, .slice none 0 0], .slice none 0 0, .int .i64 0] (World.laidAll_os _ _ _) (by kernel_rfl) (by kernel_rfl) (by kernel_rfl)
      (OpenSpec.preRow_of_cond 8 hx (by kernel_rfl) (fun k hk => by cases hk; kernel_rfl) (by kernel_rfl) (tableTells_laid os))) ?_
  · rw [tableTells_params]
    intro t ht
    simp only [List.mem_cons, List.not_mem_nil, or_false] at ht
    rcases ht with rfl | rfl | rfl <;> exact ⟨by kernel_rfl, of_decide_eq_true (by kernel_rfl)⟩
  · rw [tableTells_params]
    intro ds hd
    match ds, hd with
    | [d0, d1, d2], _ => rfl
  · intro W base args ds p hval hA hwt hcond hL
    rw [tableTells_params] at hA hwt
    have hpar : Tryd.f3.params = #[25, 26, 3] := by kernel_rfl
    have hP : Tryd.checked.prog = Tryd.prog := rfl
    rw [hpar, hP] at hval
    rw [hP] at hA hwt hL
    rw [hP]
    clear hpar hP
    obtain ⟨v0, vs0, d0, ds0, p0, q0, hargs, rfl, rfl, h0, r0⟩ := trodAll_cons hA
    obtain ⟨v1, vs1, d1, ds1, p1, q1, rfl, rfl, rfl, h1, r1⟩ := trodAll_cons r0
    obtain ⟨v2, vs2, d2, ds2, p2, q2, rfl, rfl, rfl, h2, r2⟩ := trodAll_cons r1
    obtain ⟨rfl, rfl, rfl⟩ := trodAll_nil r2
    obtain rfl : args = #[v0, v1, v2] := by cases args; simp_all
    have hk := hcond _ rfl
    obtain ⟨ca0, rfl, _⟩ := hval.struct tb_struct (j := 0) rfl rfl
    obtain ⟨cs0, rfl⟩ : ∃ l : List Value, ca0 = l.toArray := ⟨ca0.toList, by simp⟩
    obtain ⟨l0, g0⟩ := open_Tb.arg hwt (j := 0) rfl rfl h0
    obtain ⟨a1, u1, c1, rfl⟩ := hval.slice Tryd.underlying26 (j := 1) rfl rfl
    obtain ⟨l1, g1⟩ := open_Ints.arg hwt (j := 1) rfl rfl h1
    obtain ⟨n2, rfl, rfl, rfl, i2⟩ := hval.int Tryd.underlying3 (j := 2) rfl rfl h2
    exact TableTells_walk n2 W g0 g1 (fits_of_bulk h0 g0 (by simp) hk)

theorem tableTells_row : Rows.TableTellsUptoSaid :=
  OpenClaim.holds_of_cond 3 Tryd.f3 rfl rfl rfl rfl rfl rfl rfl ⟨rfl, rfl, rfl, rfl, rfl⟩ rfl rfl rfl rfl rfl (by kernel_rfl) Tryd.func3 (by kernel_rfl)
    (of_decide_eq_true (by kernel_rfl)) (by unfold Func.isWrapper; rw [if_neg (of_decide_eq_false (by kernel_rfl))]; exact ⟨rfl, rfl⟩)
    (fun os started H enc _ F => by rw [OpenClaim.pre_eq_preRow]; exact tableTells_lifted os started H enc F)

theorem tableTells_holds : Rows.TableTellsUptoCardSaid :=
  Claim7.holds_tied_plain_at .later [] Rows.tableTellsUptoCard.laidKinds true Rows.tableTellsUptoCard.stood.harness Rows.tableTellsUptoCard.stood.looks
    tableTells_row (fun _ h => by cases h) (by kernel_rfl) (fun _ h => by cases h) tableTellsUpto_row_tie rfl ⟨rfl, rfl⟩ (by kernel_rfl) rfl
    (fun f fn hf hfn => by
      obtain rfl : f = 3 := Option.some.inj ((show Tryd.prog.funcNamed "ratebook/ratebooklaw.TableTells" = some 3 by kernel_rfl).symm.trans hf) |>.symm
      obtain rfl : fn = Tryd.f3 := (Option.some.inj (Tryd.func3.symm.trans hfn)).symm
      exact ⟨by kernel_rfl, fun j t ht => by
        have hm : t ∈ Tryd.f3.params.toList := by simpa using Array.mem_of_getElem? ht
        rw [tableTells_params] at hm
        have hall : ([25, 26, 3].all fun u => !Tryd.prog.wantsStandIn u) = true := by kernel_rfl
        exact (show Tryd.prog.wantsStandIn t = false by simpa using List.all_eq_true.1 hall t hm)⟩)
    (by kernel_rfl)
#print axioms tableTells_holds
end Go.Proofs.YtlopccnehgolnaaDoor
