/- TopSerial returns true, for every list of acts. No condition beyond the card's own: the variables that the row lists begin as the program's text lays them (tied). -/
import Derived.Test.YtlopccnehgolnacGreatDoorTopSerial
import Derived.Test.YtlopccnehgolnacGreatDoorGK52
import Derived.Handed
import Derived.LaidMore
import Derived.Test.YtlopccnehgolnacGreatDoorRows
import Derived.Test.YtlopccnehgolnacGreatDoorTie
import Derived.Test.YtlopccnehgolnacGreatDoorCards
import Derived.Lay
import Derived.MakeChecks
namespace Go.Proofs.YtlopccnehgolnacGreatDoor
open Go.ChangeShapes Go.WideShapes Go.ChangeAt Go.RowKit Rb
open Go.World renaming laidAll -> jA
set_option maxRecDepth 100000
theorem topSerial_params : Tryz.f4.params.toList = [44] := by kernel_rfl
theorem topSerial_door (os : Os) (args : Array Value) : laidMetH Tryz.prog Rows.topSerialRow.laid ((jA Tryz.prog os Rows.topSerialRow.laid).forCall (fun _ _ => 0) ⟨#[], args, []⟩).memory := by
 rw [Go.MakeChecks.laidMetH_plain _ _ _ (by kernel_rfl)]
 exact laidMet_laidAll args (by kernel_rfl) (by kernel_rfl)
theorem topSerial_lifted (os : Os) (started : os.Started) (H : Type) (enc : TypeId × Value -> H) :
  ReturnsInHanded {} Tryz.checked os 4 .any (fun w args => (Rows.topSerialSpec.pre enc Tryz.prog Tryz.f4 [] false w args /\ laidMetH Tryz.prog Rows.topSerialRow.laid w) /\ sizedMet enc Tryz.prog Tryz.f4 (OpenSpec.ofChange Rows.topSerialSpec) false w args)
   (Rows.topSerialSpec.post enc Tryz.prog Tryz.f4 false true false false) := by
 refine Y3v (C := Tryz.checked) (X := fun w _ => laidMetH Tryz.prog Rows.topSerialRow.laid w) (fun _ _ _ hh h => h.of_heap hh) (by kernel_rfl) started (by kernel_rfl) Tryz.func4 (by kernel_rfl) 4 Tryz.underlying4 (by kernel_rfl) rfl ?_ ?_
  (ChangeSpec.witness_shaped (enc := enc) (C := Tryz.checked) (os := os) (X := fun w _ => laidMetH Tryz.prog Rows.topSerialRow.laid w) false (jA Tryz.prog os Rows.topSerialRow.laid) #[.slice none 0 0] 8 (World.laidAll_os _ _ _) (World.shaped_of_ZipB (by kernel_rfl) (by kernel_rfl)) (by kernel_rfl) (by kernel_rfl) (by kernel_rfl) (topSerial_door os _)) ?_
 ·rw [topSerial_params]
  intro t ht
  simp only [List.mem_cons, List.not_mem_nil, or_false] at ht
  subst ht; exact ⟨by kernel_rfl, of_decide_eq_true (by kernel_rfl)⟩
 ·rw [topSerial_params]
  intro ds hd
  match ds, hd with
  | [d0], _ => rfl
 ·intro W base args ds p hval hA hwt hx
  rw [topSerial_params] at hA hwt
  have hpar : Tryz.f4.params = #[44] := by kernel_rfl
  have hP : Tryz.checked.prog = Tryz.prog := rfl
  rw [hpar, hP] at hval
  rw [hP] at hA hwt
  rw [hP]
  clear hpar hP
  obtain ⟨v0, vs0, d0, ds0, p0, q0, hargs, rfl, rfl, h0, r0⟩ := trodAll_cons hA
  obtain ⟨rfl, rfl, rfl⟩ := trodAll_nil r0
  obtain rfl : args = #[v0] := by cases args; simp_all
  obtain ⟨a0, u0, c0, rfl⟩ := hval.slice Tryz.underlying44 (j := 0) rfl rfl
  obtain ⟨l0, g0⟩ := open_Acs.arg hwt (j := 0) rfl rfl h0
  rw [Go.MakeChecks.laidMetH_plain _ _ _ (by kernel_rfl)] at hx
  have e : Rows.topSerialRow.laid = (("math/bits.deBruijn32tab", Rows.laid_math_bits_deBruijn32tab) :: ("math/bits.deBruijn64tab", Rows.laid_math_bits_deBruijn64tab) :: ("internal/strconv.uint64pow10", Lib.tabData .u64 Lib.pow10Tab) :: ("strconv.ErrRange", .iface "*errors.errorString" (.ptr (.agg [.lit (.string [118, 97, 108, 117, 101, 32, 111, 117, 116, 32, 111, 102, 32, 114, 97, 110, 103, 101])]))) :: ("strconv.ErrSyntax", .iface "*errors.errorString" (.ptr (.agg [.lit (.string [105, 110, 118, 97, 108, 105, 100, 32, 115, 121, 110, 116, 97, 120])]))) :: ("ratebook/text.policies", .agg (pols.map fun s => .lit (.string s))) :: []) := by kernel_rfl
  rw [e] at hx
  obtain ⟨hw, hp⟩ := Y3x hx
  exact Y0h W (X08 g0) (fun _ h => h) hw hp
theorem topSerial_row : Rows.TopSerialSaid :=
 OpenClaim.holds_of_wide 4 Tryz.f4 rfl rfl rfl rfl rfl rfl rfl ⟨rfl, rfl, rfl, rfl, rfl⟩ rfl rfl rfl rfl rfl (by kernel_rfl) Tryz.func4 (by kernel_rfl)
  (of_decide_eq_true (by kernel_rfl)) (by unfold Func.isWrapper; rw [if_neg (of_decide_eq_false (by kernel_rfl))]; exact ⟨rfl, rfl⟩)
  (fun os started H enc _ => topSerial_lifted os started H enc)
theorem topSerial_holds : Rows.TopSerialCardSaid :=
 Claim7.holds_tied_plain_at .later [] Rows.topSerialCard.laidKinds true Rows.topSerialCard.stood.harness Rows.topSerialCard.stood.looks
  topSerial_row (fun _ h => by cases h) (by kernel_rfl) (fun _ h => by cases h) topSerial_row_tie rfl ⟨rfl, rfl⟩ (by kernel_rfl) rfl
  (fun f fn hf hfn => by
   obtain rfl : f = 4 := Option.some.inj ((show Tryz.prog.funcNamed "ratebook/ratebooktop.TopSerial" = some 4 by kernel_rfl).symm.trans hf) |>.symm
   obtain rfl : fn = Tryz.f4 := (Option.some.inj (Tryz.func4.symm.trans hfn)).symm
   exact ⟨by kernel_rfl, fun j t ht => by
    have hm : t ∈ Tryz.f4.params.toList := by simpa using Array.mem_of_getElem? ht
    rw [topSerial_params] at hm
    have hall : ([44].all fun u => !Tryz.prog.wantsStandIn u) = true := by kernel_rfl
    exact (show Tryz.prog.wantsStandIn t = false by simpa using List.all_eq_true.1 hall t hm)⟩)
  (by kernel_rfl)
#print axioms topSerial_holds
