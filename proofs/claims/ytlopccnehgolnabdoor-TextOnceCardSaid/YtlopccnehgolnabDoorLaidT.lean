
/- What the listed variables of the text laws give: the library's and the policies' state. -/
import Derived.Test.YtlopccnehgolnabDoorTextBack
import Derived.Lib.LaidU8
import Derived.LaidLaws
import Derived.Stop.LaidErr
import Derived.OpenShut
namespace Go.Proofs.YtlopccnehgolnabDoor
open Go.RowKit Rb

theorem err_of_reads {w : World} {n nm : String} {d : DataW Unit} (h : Lib.VarReads Tryd.prog w n (.iface nm d)) {g : Nat} {ms : Array (String × TypeId)} {t : TypeId} (hg : Tryd.prog.globalNamed n = some g) (ht : (Tryd.prog.globals[g]?).map (·.type) = some t) (hu : Tryd.prog.underlying t = some (.interface ms)) :
    ∃ tp p, w.var? Tryd.prog n = some #[.iface tp p] := by
  obtain ⟨g', t', cs, fuel, p, h1, h2, h3, h4⟩ := h
  obtain rfl := Option.some.inj (hg.symm.trans h1)
  obtain rfl := Option.some.inj (ht.symm.trans h2)
  obtain ⟨f1, u, v, e, _⟩ := iface_of_trod hu h4
  refine ⟨u, v, ?_⟩
  rw [h3]
  have : cs = #[.iface u v] := by
    obtain ⟨l⟩ := cs
    exact congrArg List.toArray e
  rw [this]
theorem polW_of_reads {w : World} (h : Lib.VarReads Tryd.prog w "ratebook/text.policies" (.agg (pols.map fun s => .lit (.string s)))) : PolW w := by
  obtain ⟨g', t', cs, fuel, p, h1, h2, h3, h4⟩ := h
  have hg : Tryd.prog.globalNamed "ratebook/text.policies" = some 0 := by kernel_rfl
  have ht : (Tryd.prog.globals[0]?).map (·.type) = some 49 := by kernel_rfl
  obtain rfl := Option.some.inj (hg.symm.trans h1)
  obtain rfl := Option.some.inj (ht.symm.trans h2)
  have hu : Tryd.prog.underlying 49 = some (.array 8 9) := by kernel_rfl
  have hc : Tryd.prog.cellsOf 9 = 1 := by kernel_rfl
  have key : ∀ (i : Nat) (s : Txt), pols[i]? = some s → cs[i]? = some (.string ⟨s.toArray⟩) := by
    intro i s hs
    have hi : i < 8 := (List.getElem?_eq_some_iff.1 hs).1
    obtain ⟨f, d, q, hd, hr⟩ := Lib.array_elem hu h4 i hi
    rw [List.getElem?_map, hs] at hd
    obtain rfl := Option.some.inj hd
    rw [hc, Nat.mul_one] at hr
    obtain ⟨b, e1, e2, _⟩ := DataW.trod_string Tryd.underlying9 hr
    have e3 : s = b.data.toList := by
      have := congrArg Prod.fst e2
      simpa using this
    have e4 : (⟨s.toArray⟩ : ByteArray) = b := by subst e3; simp
    have h5 : cs.toList[i]? = some (.string b) := by
      have := congrArg (·[0]?) e1
      simpa [List.getElem?_take, List.getElem?_drop] using this
    rw [e4]
    simpa using h5
  have h0 := World.var?_cell hg h3
  refine ⟨?_, fun i s hs => (h0 i).trans (key i s hs)⟩
  exact World.block_lt_of_cell? _ _ ((h0 0).trans (key 0 [] rfl))
theorem libW_of_laid {w : World} {x y : String × DataW Unit} {s1 s2 : String} {d1 d2 : DataW Unit} {r : List (String × DataW Unit)}
    (h : laidMet Tryd.prog (x :: y :: ("internal/strconv.uint64pow10", Lib.tabData .u64 Lib.pow10Tab) :: ("strconv.ErrRange", .iface s1 d1) :: ("strconv.ErrSyntax", .iface s2 d2) :: ("ratebook/text.policies", .agg (pols.map fun s => .lit (.string s))) :: r) w) : LibW w ∧ PolW w := by
  have hm := fun {n : String} {d : DataW Unit} => Lib.laidMet.reads h (n := n) (d := d)
  refine ⟨⟨?_, ?_, ?_⟩, ?_⟩
  · exact Lib.tabIs_of_head (g := 2) (t := 145) (e := 118) (n := 20) (by kernel_rfl) (by kernel_rfl) (by kernel_rfl) (by kernel_rfl) (by kernel_rfl) (by kernel_rfl) h.tail.tail
  · exact err_of_reads (hm (.tail _ (.tail _ (.tail _ (.tail _ (.head _)))))) (g := 3) (t := 90) (by kernel_rfl) (by kernel_rfl) Tryd.underlying90
  · exact err_of_reads (hm (.tail _ (.tail _ (.tail _ (.head _))))) (g := 4) (t := 90) (by kernel_rfl) (by kernel_rfl) Tryd.underlying90
  · exact polW_of_reads (hm (.tail _ (.tail _ (.tail _ (.tail _ (.tail _ (.head _)))))))

end Go.Proofs.YtlopccnehgolnabDoor
