/- TopPromises returns true, for every list of acts and every input. No condition beyond the card's own: the variables that the row lists begin as the program's text lays them (tied). -/
import Derived.Test.YtlopccnehgolnabGreatDoorGPromises50
import Derived.Test.YtlopccnehgolnabGreatDoorGPromises52
import Derived.Handed
import Derived.LaidMore
import Derived.Test.YtlopccnehgolnabGreatDoorRows
import Derived.Test.YtlopccnehgolnabGreatDoorTie
import Derived.Test.YtlopccnehgolnabGreatDoorCards
import Derived.Lay
import Derived.MakeChecks
namespace Go.Proofs.YtlopccnehgolnabGreatDoor
open Go.ChangeShapes Go.WideShapes Go.ChangeAt Go.RowKit Rb
open Go.World renaming laidAll -> jA
set_option maxRecDepth 100000
theorem topPromises_params : Tryz.f3.params.toList = [22, 23] := by kernel_rfl
theorem topPromises_door (os : Os) (args : Array Value) : laidMetH Tryz.prog Rows.topPromisesRow.laid ((jA Tryz.prog os Rows.topPromisesRow.laid).forCall (fun _ _ => 0) ⟨#[], args, []⟩).memory := by
 rw [Go.MakeChecks.laidMetH_plain _ _ _ (by kernel_rfl)]
 exact laidMet_laidAll args (by kernel_rfl) (by kernel_rfl)
theorem topPromises_lifted (os : Os) (started : os.Started) (H : Type) (enc : TypeId × Value -> H) :
  ReturnsInHanded {} Tryz.checked os 3 .any (fun w args => (Rows.topPromisesSpec.pre enc Tryz.prog Tryz.f3 [] false w args /\ laidMetH Tryz.prog Rows.topPromisesRow.laid w) /\ sizedMet enc Tryz.prog Tryz.f3 (OpenSpec.ofChange Rows.topPromisesSpec) false w args)
   (Rows.topPromisesSpec.post enc Tryz.prog Tryz.f3 false true false false) := by
 refine Y3p (C := Tryz.checked) (X := fun w _ => laidMetH Tryz.prog Rows.topPromisesRow.laid w) (fun _ _ _ hh h => h.of_heap hh) (by kernel_rfl) started (by kernel_rfl) Tryz.func3 (by kernel_rfl) 4 Tryz.underlying4 (by kernel_rfl) rfl ?_ ?_
  (ChangeSpec.witness_shaped (enc := enc) (C := Tryz.checked) (os := os) (X := fun w _ => laidMetH Tryz.prog Rows.topPromisesRow.laid w) false (jA Tryz.prog os Rows.topPromisesRow.laid) #[.slice none 0 0, .slice none 0 0] 8 (World.laidAll_os _ _ _) (World.shaped_of_ZipB (by kernel_rfl) (by kernel_rfl)) (by kernel_rfl) (by kernel_rfl) (by kernel_rfl) (topPromises_door os _)) ?_
 ·rw [topPromises_params]
  intro t ht
  simp only [List.mem_cons, List.not_mem_nil, or_false] at ht
  rcases ht with rfl | rfl <;> exact ⟨by kernel_rfl, of_decide_eq_true (by kernel_rfl)⟩
 ·rw [topPromises_params]
  intro ds hd
  match ds, hd with
  | [d0, d1], _ => rfl
 ·intro W base args ds p hval hA hwt hx
  rw [topPromises_params] at hA hwt
  have hpar : Tryz.f3.params = #[22, 23] := by kernel_rfl
  have hP : Tryz.checked.prog = Tryz.prog := rfl
  rw [hpar, hP] at hval
  rw [hP] at hA hwt
  rw [hP]
  clear hpar hP
  obtain ⟨v0, vs0, d0, ds0, p0, q0, hargs, rfl, rfl, h0, r0⟩ := trodAll_cons hA
  obtain ⟨v1, vs1, d1, ds1, p1, q1, rfl, rfl, rfl, h1, r1⟩ := trodAll_cons r0
  obtain ⟨rfl, rfl, rfl⟩ := trodAll_nil r1
  obtain rfl : args = #[v0, v1] := by cases args; simp_all
  obtain ⟨a0, u0, c0, rfl⟩ := hval.slice Tryz.underlying22 (j := 0) rfl rfl
  obtain ⟨l0, g0⟩ := open_Acs.arg hwt (j := 0) rfl rfl h0
  obtain ⟨a1, u1, c1, rfl⟩ := hval.slice Tryz.underlying23 (j := 1) rfl rfl
  obtain ⟨l1, g1⟩ := open_Ints.arg hwt (j := 1) rfl rfl h1
  rw [Go.MakeChecks.laidMetH_plain _ _ _ (by kernel_rfl)] at hx
  have e : Rows.topPromisesRow.laid = (("math/bits.deBruijn32tab", Rows.laid_math_bits_deBruijn32tab) :: ("math/bits.deBruijn64tab", Rows.laid_math_bits_deBruijn64tab) :: ("internal/strconv.uint64pow10", Lib.tabData .u64 Lib.pow10Tab) :: ("strconv.ErrRange", .iface "*errors.errorString" (.ptr (.agg [.lit (.string [118, 97, 108, 117, 101, 32, 111, 117, 116, 32, 111, 102, 32, 114, 97, 110, 103, 101])]))) :: ("strconv.ErrSyntax", .iface "*errors.errorString" (.ptr (.agg [.lit (.string [105, 110, 118, 97, 108, 105, 100, 32, 115, 121, 110, 116, 97, 120])]))) :: ("ratebook/text.policies", .agg (pols.map fun s => .lit (.string s))) :: []) := by kernel_rfl
  rw [e] at hx
  obtain ⟨hw, hp⟩ := Y3r hx
  exact Z8f W (X0w g0) (fun _ h => h) g1 hw hp
theorem topPromises_row : Rows.TopPromisesSaid :=
 OpenClaim.holds_of_wide 3 Tryz.f3 rfl rfl rfl rfl rfl rfl rfl ⟨rfl, rfl, rfl, rfl, rfl⟩ rfl rfl rfl rfl rfl (by kernel_rfl) Tryz.func3 (by kernel_rfl)
  (of_decide_eq_true (by kernel_rfl)) (by unfold Func.isWrapper; rw [if_neg (of_decide_eq_false (by kernel_rfl))]; exact ⟨rfl, rfl⟩)
  (fun os started H enc _ => topPromises_lifted os started H enc)
theorem topPromises_holds : Rows.TopPromisesCardSaid :=
 Claim7.holds_tied_plain_at .later [] Rows.topPromisesCard.laidKinds true Rows.topPromisesCard.stood.harness Rows.topPromisesCard.stood.looks
  topPromises_row (fun _ h => by cases h) (by kernel_rfl) (fun _ h => by cases h) topPromises_row_tie rfl ⟨rfl, rfl⟩ (by kernel_rfl) rfl
  (fun f fn hf hfn => by
   obtain rfl : f = 3 := Option.some.inj ((show Tryz.prog.funcNamed "ratebook/ratebooktop.TopPromises" = some 3 by kernel_rfl).symm.trans hf) |>.symm
   obtain rfl : fn = Tryz.f3 := (Option.some.inj (Tryz.func3.symm.trans hfn)).symm
   exact ⟨by kernel_rfl, fun j t ht => by
    have hm : t ∈ Tryz.f3.params.toList := by simpa using Array.mem_of_getElem? ht
    rw [topPromises_params] at hm
    have hall : ([22, 23].all fun u => !Tryz.prog.wantsStandIn u) = true := by kernel_rfl
    exact (show Tryz.prog.wantsStandIn t = false by simpa using List.all_eq_true.1 hall t hm)⟩)
  (by kernel_rfl)
#print axioms topPromises_holds
