/- TopRuns returns true, for every list of acts and every number. No condition beyond the card's own: the variables that the row lists begin as the program's text lays them (tied). -/
import Derived.Test.YtlopccnehgolnadGreatDoorGRuns49
import Derived.Test.YtlopccnehgolnadGreatDoorGRuns51
import Derived.Handed
import Derived.LaidMore
import Derived.Test.YtlopccnehgolnadGreatDoorRows
import Derived.Test.YtlopccnehgolnadGreatDoorTie
import Derived.Test.YtlopccnehgolnadGreatDoorCards
import Derived.Lay
import Derived.MakeChecks
namespace Go.Proofs.YtlopccnehgolnadGreatDoor
open Go.ChangeShapes Go.WideShapes Go.ChangeAt Go.RowKit Rb
open Go.World renaming laidAll -> jA
set_option maxRecDepth 100000
theorem topRuns_params : Tryz.f3.params.toList = [22, 3] := by kernel_rfl
theorem topRuns_door (os : Os) (args : Array Value) : laidMetH Tryz.prog Rows.topRunsRow.laid ((jA Tryz.prog os Rows.topRunsRow.laid).forCall (fun _ _ => 0) ⟨#[], args, []⟩).memory := by
 rw [Go.MakeChecks.laidMetH_plain _ _ _ (by kernel_rfl)]
 exact laidMet_laidAll args (by kernel_rfl) (by kernel_rfl)
theorem topRuns_lifted (os : Os) (started : os.Started) (H : Type) (enc : TypeId × Value -> H) :
  ReturnsInHanded {} Tryz.checked os 3 .any (fun w args => (Rows.topRunsSpec.pre enc Tryz.prog Tryz.f3 [] false w args /\ laidMetH Tryz.prog Rows.topRunsRow.laid w) /\ sizedMet enc Tryz.prog Tryz.f3 (OpenSpec.ofChange Rows.topRunsSpec) false w args)
   (Rows.topRunsSpec.post enc Tryz.prog Tryz.f3 false true false false) := by
 refine Y1y (C := Tryz.checked) (X := fun w _ => laidMetH Tryz.prog Rows.topRunsRow.laid w) (fun _ _ _ hh h => h.of_heap hh) (by kernel_rfl) started (by kernel_rfl) Tryz.func3 (by kernel_rfl) 4 Tryz.underlying4 (by kernel_rfl) rfl ?_ ?_
  (ChangeSpec.witness_shaped (enc := enc) (C := Tryz.checked) (os := os) (X := fun w _ => laidMetH Tryz.prog Rows.topRunsRow.laid w) false (jA Tryz.prog os Rows.topRunsRow.laid) #[.slice none 0 0, .int .i64 0] 8 (World.laidAll_os _ _ _) (World.shaped_of_ZipB (by kernel_rfl) (by kernel_rfl)) (by kernel_rfl) (by kernel_rfl) (by kernel_rfl) (topRuns_door os _)) ?_
 ·rw [topRuns_params]
  intro t ht
  simp only [List.mem_cons, List.not_mem_nil, or_false] at ht
  rcases ht with rfl | rfl <;> exact ⟨by kernel_rfl, of_decide_eq_true (by kernel_rfl)⟩
 ·rw [topRuns_params]
  intro ds hd
  match ds, hd with
  | [d0, d1], _ => rfl
 ·intro W base args ds p hval hA hwt hx
  rw [topRuns_params] at hA hwt
  have hpar : Tryz.f3.params = #[22, 3] := by kernel_rfl
  have hP : Tryz.checked.prog = Tryz.prog := rfl
  rw [hpar, hP] at hval
  rw [hP] at hA hwt
  rw [hP]
  clear hpar hP
  obtain ⟨v0, vs0, d0, ds0, p0, q0, hargs, rfl, rfl, h0, r0⟩ := trodAll_cons hA
  obtain ⟨v1, vs1, d1, ds1, p1, q1, rfl, rfl, rfl, h1, r1⟩ := trodAll_cons r0
  obtain ⟨rfl, rfl, rfl⟩ := trodAll_nil r1
  obtain rfl : args = #[v0, v1] := by cases args; simp_all
  obtain ⟨a0, u0, c0, rfl⟩ := hval.slice Tryz.underlying22 (j := 0) rfl rfl
  obtain ⟨l0, g0⟩ := open_Acs.arg hwt (j := 0) rfl rfl h0
  obtain ⟨n1, rfl, rfl, rfl, i1⟩ := hval.int Tryz.underlying3 (j := 1) rfl rfl h1
  rw [Go.MakeChecks.laidMetH_plain _ _ _ (by kernel_rfl)] at hx
  have e : Rows.topRunsRow.laid = (("math/bits.deBruijn32tab", Rows.laid_math_bits_deBruijn32tab) :: ("math/bits.deBruijn64tab", Rows.laid_math_bits_deBruijn64tab) :: ("internal/strconv.uint64pow10", Lib.tabData .u64 Lib.pow10Tab) :: ("strconv.ErrRange", .iface "*errors.errorString" (.ptr (.agg [.lit (.string [118, 97, 108, 117, 101, 32, 111, 117, 116, 32, 111, 102, 32, 114, 97, 110, 103, 101])]))) :: ("strconv.ErrSyntax", .iface "*errors.errorString" (.ptr (.agg [.lit (.string [105, 110, 118, 97, 108, 105, 100, 32, 115, 121, 110, 116, 97, 120])]))) :: ("ratebook/text.policies", .agg (pols.map fun s => .lit (.string s))) :: []) := by kernel_rfl
  rw [e] at hx
  obtain ⟨hw, hp⟩ := Y10 hx
  exact Y00 W (Y73 g0) (fun _ h => h) (by simp only [Lit.wf, Bool.and_eq_true, decide_eq_true_eq, IntKind.min, IntKind.max, IntKind.signed, IntKind.bits] at i1; unfold InI; simp at i1; omega) hw hp
theorem topRuns_row : Rows.TopRunsSaid :=
 OpenClaim.holds_of_wide 3 Tryz.f3 rfl rfl rfl rfl rfl rfl rfl ⟨rfl, rfl, rfl, rfl, rfl⟩ rfl rfl rfl rfl rfl (by kernel_rfl) Tryz.func3 (by kernel_rfl)
  (of_decide_eq_true (by kernel_rfl)) (by unfold Func.isWrapper; rw [if_neg (of_decide_eq_false (by kernel_rfl))]; exact ⟨rfl, rfl⟩)
  (fun os started H enc _ => topRuns_lifted os started H enc)
theorem topRuns_holds : Rows.TopRunsCardSaid :=
 Claim7.holds_tied_plain_at .later [] Rows.topRunsCard.laidKinds true Rows.topRunsCard.stood.harness Rows.topRunsCard.stood.looks
  topRuns_row (fun _ h => by cases h) (by kernel_rfl) (fun _ h => by cases h) topRuns_row_tie rfl ⟨rfl, rfl⟩ (by kernel_rfl) rfl
  (fun f fn hf hfn => by
   obtain rfl : f = 3 := Option.some.inj ((show Tryz.prog.funcNamed "ratebook/ratebooktop.TopRuns" = some 3 by kernel_rfl).symm.trans hf) |>.symm
   obtain rfl : fn = Tryz.f3 := (Option.some.inj (Tryz.func3.symm.trans hfn)).symm
   exact ⟨by kernel_rfl, fun j t ht => by
    have hm : t ∈ Tryz.f3.params.toList := by simpa using Array.mem_of_getElem? ht
    rw [topRuns_params] at hm
    have hall : ([22, 3].all fun u => !Tryz.prog.wantsStandIn u) = true := by kernel_rfl
    exact (show Tryz.prog.wantsStandIn t = false by simpa using List.all_eq_true.1 hall t hm)⟩)
  (by kernel_rfl)
#print axioms topRuns_holds
