/- The contract of Ask. The plain law of Ask: what each table says follows from what the others say. The reference's SameAnswers, of two equal lists. Contracts of books: a closed book that is asked. -/
import Derived.Test.YtlopccnehgolnabGreatDoorCheck
import Derived.Test.YtlopccnehgolnabGreatDoorSays
import Derived.Test.YtlopccnehgolnabGreatDoorOrdLaw
import Derived.Test.YtlopccnehgolnabGreatDoorGrT
import Derived.Test.YtlopccnehgolnabGreatDoorGrG
import Derived.BigQuiet
import Derived.Deep.QuietTactic
namespace Go.Proofs.YtlopccnehgolnabGreatDoor
open Go.RowKit Rb

def rAn : Rd An where
  k := 3
  bytes := 32
  rel _ _ cs x := cs = [.string ⟨x.name.toArray⟩, .bool x.found, .int .i64 x.n] ∧ x.name.length ≤ 140737488355328 ∧ InI x.n
  len h := by obtain ⟨rfl, _⟩ := h; rfl
  keep h _ := h
  mono h _ := h
  one h u hu := by
    obtain ⟨rfl, _⟩ := h
    simp at hu
    rcases hu with rfl | rfl | rfl <;> rfl
theorem el_An : ElemOf Tryz.prog rAn 35 46 := .mk' Tryz.underlying35 (z := .agg #[.string ⟨#[]⟩, .bool false, .int .i64 0]) (k := 3) (b := 32) (by kernel_rfl) rfl rfl rfl (by decide) (by decide)

def putA (m : Txt → Option An) (s : Txt) (a : An) : Txt → Option An := fun t => if t = s then some a else m t
theorem MapA.put {w : World} {b n : Nat} {m : Txt → Option An} {s : Txt} {a : An} (h : SMap Tryz.prog 9 w b n (putM (fun s => (m s).map ansV) s (ansV a))) (hm : ∀ s, InI (atM m s).n) (ha : InI a.n) : MapA w b n (putA m s a) := by
  refine ⟨h.congr fun t => ?_, fun t => ?_⟩
  · unfold putM putA
    split <;> rfl
  · have := hm t
    unfold atM putA at *
    split
    · exact ha
    · exact this
theorem MapA.made (w : World) : MapA (w.alloc (.map #[] 0)) w.heap.size 0 (fun _ => none) := ⟨SMap.made _ _ _, fun _ => by show InI 0; unfold InI; decide⟩
theorem MapA.mono {w : World} {b n n' : Nat} {m : Txt → Option An} (h : MapA w b n m) (hn : n ≤ n') : MapA w b n' m := ⟨h.1.mono hn, h.2⟩

/-- What the numbers for the first k domains say. -/
def knownTo (l : List Dm) (ns : List Int) : Nat → (Txt → Option An)
  | 0 => fun _ => none
  | k + 1 => match l[k]? with | some d => putA (knownTo l ns k) d.name ⟨[], true, (ns[k]?).getD 0⟩ | none => knownTo l ns k
def inOk (l : List Dm) (ns : List Int) (k : Nat) : Bool := match l[k]? with | some d => decide (d.lo ≤ (ns[k]?).getD 0) && decide ((ns[k]?).getD 0 ≤ d.hi) | none => true
def insOk (l : List Dm) (ns : List Int) : Bool := (List.range l.length).all (inOk l ns)
theorem insOk_no {l : List Dm} {ns : List Int} {k : Nat} (hk : k < l.length) (h : inOk l ns k = false) : insOk l ns = false := all_range_false hk h
def stepM (b : Bk) (m : Txt → Option An) (s : Txt) : Txt → Option An := putA m s (saysA m (tbOf (findT b.tabs s)))
/-- What is known when the first k tables in order have been asked. -/
def askedTo (b : Bk) (ns : List Int) (o : List Txt) (k : Nat) : Txt → Option An := (o.take k).foldl (stepM b) (knownTo b.doms ns b.doms.length)
def asked (b : Bk) (ns : List Int) (o : List Txt) : Txt → Option An := o.foldl (stepM b) (knownTo b.doms ns b.doms.length)
def answerOf (m : Txt → Option An) (t : Tb) : An := ⟨t.name, (atM m t.name).found, (atM m t.name).n⟩
def askB (b : Bk) (ns : List Int) : List An × Int :=
  if (checkB b).2.2 ≠ 0 then ([], (checkB b).2.2)
  else if ns.length ≠ b.doms.length then ([], 1)
  else if insOk b.doms ns = false then ([], 2)
  else (b.tabs.map (answerOf (asked b ns ((orderB b).getD []))), 0)
theorem askedTo_succ {b : Bk} {ns : List Int} {o : List Txt} {k : Nat} {s : Txt} (h : o[k]? = some s) : askedTo b ns o (k + 1) = putA (askedTo b ns o k) s (saysA (askedTo b ns o k) (tbOf (findT b.tabs s))) := by
  unfold askedTo
  rw [take_getElem? h, List.foldl_append]
  rfl

theorem saysA_in {m : Txt → Option An} {t : Tb} (h : ∀ ns, InI (saysT t ns).1) : InI (saysA m t).n := by
  unfold saysA
  split
  · show InI 0; unfold InI; decide
  · exact h _
theorem checkB_le {b : Bk} (h : (checkB b).2.2 = 0) : b.doms.length ≤ 4 ∧ b.tabs.length ≤ 4 := by
  unfold checkB at h
  split at h
  · cases h
  · omega
theorem checkB_tabs {b : Bk} (h : (checkB b).2.2 = 0) : domsOk b.doms = true ∧ tabsOk b = true := by
  unfold checkB at h
  split at h
  · cases h
  · split at h
    · cases h
    · split at h
      · cases h
      · rename_i h1 h2
        exact ⟨by simpa using h1, by simpa using h2⟩

theorem Check_at {S : Nat → Prop} {bs : List Value} {b : Bk} {nm : Txt} {l : List Int} {r : Int} (w : World) (hl : rBk.rel w S bs b) (h : checkB b = (nm, l, r)) :
    Calls Tryz.prog 28 #[.agg bs.toArray] w fun e w' => ∃ A c S', e = .returned (.tuple #[.string ⟨nm.toArray⟩, .slice A l.length c, .int .i64 r]) ∧ (rSl rInt).rel w' S' [.slice A l.length c] l ∧ Below w.heap.size w w' := by
  refine (Check_any w hl).mono ?_
  rintro e w' ⟨z, S', he, hz, hb⟩
  rw [h] at he hz
  obtain ⟨A, c, rfl, _⟩ := rSl.elems hz
  exact ⟨A, c, S', he, hz, hb⟩
theorem says_at {S : Nat → Prop} {cs : List Value} {t : Tb} {mb mn : Nat} {m : Txt → Option An} {a : An} (w : World) (hl : rTb.rel w S cs t) (hm : MapA w mb mn m) (h : saysA m t = a) :
    Calls Tryz.prog 41 #[.agg cs.toArray, .map (some mb)] w fun e w' => e = .returned (.agg #[.string ⟨a.name.toArray⟩, .bool a.found, .int .i64 a.n]) ∧ Below w.heap.size w w' := h ▸ says_any w hl hm

theorem drewB {B : Nat} {a w : World} (h : Below B a w) : Below B a w.drew := ⟨h.os, h.tape, h.output, h.size, h.block⟩
theorem goodT_tabs {b : Bk} (h : tabsOk b = true) {t : Tb} (ht : t ∈ b.tabs) : goodT t = true := tabsOk_good h t ht
theorem sayLoop_bd {pol : Int} : ∀ (l : List Int) (n B : Int), 0 ≤ B → -B ≤ n → n ≤ B → (∀ x ∈ l, -1000000 ≤ x ∧ x ≤ 1000000) → 1000000 ≤ B → -(B + 1000000 * l.length) ≤ (sayLoop pol n l).1 ∧ (sayLoop pol n l).1 ≤ B + 1000000 * l.length
  | [], n, B, h0, h1, h2, _, _ => by simp only [sayLoop, List.length_nil]; omega
  | o :: t, n, B, h0, h1, h2, h, hB => by
    have ho := h o (by simp)
    have ht : ∀ x ∈ t, -1000000 ≤ x ∧ x ≤ 1000000 := fun x hx => h x (by simp [hx])
    have k := fun n' (a1 : -(B + 1000000) ≤ n') (a2 : n' ≤ B + 1000000) => sayLoop_bd (pol := pol) t n' (B + 1000000) (by omega) (by omega) (by omega) ht (by omega)
    rw [List.length_cons]
    unfold sayLoop
    split
    · dsimp only; omega
    · split
      · split
        · dsimp only; omega
        · have := k n (by omega) (by omega); push_cast; omega
      · split
        · have := k (min n o) (by omega) (by omega); push_cast; omega
        · split
          · have := k (max n o) (by omega) (by omega); push_cast; omega
          · split
            · have := k (n + o) (by omega) (by omega); push_cast; omega
            · have := k n (by omega) (by omega); push_cast; omega
theorem saysT_in0 (ms : List Int) : InI (saysT (tbOf none) ms).1 := by
  unfold saysT
  rw [if_neg (fun h => by have := (goodT_head h.1).1; simp [tbOf, tb0] at this)]
  show InI 0; unfold InI; decide
theorem saysT_in {t : Tb} (hg : goodT t = true) (ms : List Int) : InI (saysT t ms).1 := by
  have h6 := goodT_head hg
  have hml : (matchesL t.rules ms).length ≤ 6 := Nat.le_trans (matchesTo_len _ _ _) h6.2.2.2.2.2
  unfold saysT
  split
  · unfold sayL
    split
    · show InI _; unfold InI; omega
    · split
      · show InI 0; unfold InI; decide
      · rename_i o os he
        have hall : ∀ x ∈ o :: os, -1000000 ≤ x ∧ x ≤ 1000000 := by
          rw [← he]
          intro x hx
          rw [List.mem_map] at hx
          obtain ⟨i, hi, rfl⟩ := hx
          obtain ⟨k, rfl, hk⟩ := matchesL_lt hi
          unfold outAt
          rw [Int.toNat_natCast, List.getElem?_eq_getElem hk]
          exact goodT_out hg (List.getElem_mem hk)
        have hl : (o :: os).length ≤ 6 := by rw [← he, List.length_map]; exact hml
        rw [List.length_cons] at hl
        have := sayLoop_bd (pol := t.pol) os o 1000000 (by omega) (hall o (by simp)).1 (hall o (by simp)).2 (fun x hx => hall x (by simp [hx])) (by omega)
        show InI _; unfold InI; omega
  · show InI 0; unfold InI; decide
theorem Own.flat_set {α : Type} {R : Rd α} {e : TypeId} {w : World} {base : Nat} {S0 : Nat → Prop} {v : Value} {xs : List α} (h : Own R e w base S0 v xs) (hF : Flat R) {a : Addr} (ha : ∀ g, v.ownBlock = some g → g ≠ a.block) (u : Value) : Own R e (w.setCell a u) base (fun _ => False) v xs := by
  obtain ⟨S, ⟨cells, h1, h2, h3, h4⟩, h5⟩ := h.flat hF
  have hg : w.grownBy (w.setCell a u) (some a.block) := ⟨rfl, rfl, rfl, by simp [World.setCell], fun i _ hi => Below.heap_setCell w a u i (fun e => hi (by rw [e]))⟩
  refine ⟨fun _ => False, ⟨cells, h1.kept hg ?_, fun _ _ h => h, h3, fun i x hx => hF _ _ _ _ _ _ (h4 i x hx)⟩, fun _ h => h.elim⟩
  cases hv : v.ownBlock with
  | none => exact .inl rfl
  | some g => exact .inr (fun e => ha g hv (by injection e))

def askPost (b : Bk) (ns : List Int) (w : World) (e : Ending) (w' : World) : Prop := ∃ z S', e = .returned (.tuple #[z, .int .i64 (askB b ns).2]) ∧ (rSl rAn).rel w' S' [z] (askB b ns).1 ∧ Below w.heap.size w w'
theorem ans_nil (w : World) : (rSl rAn).rel w (fun _ => True) [.slice none 0 0] [] := ⟨none, 0, rfl, Nat.le_refl _, by decide, by simp, fun i x hx => by simp at hx⟩

set_option maxRecDepth 100000 in
set_option maxHeartbeats 1600000 in
theorem Ask_any {S T : Nat → Prop} {bs : List Value} {b : Bk} {u : Value} {ns : List Int} (w : World) (hl : rBk.rel w S bs b) (hn : (rSl rInt).rel w T [u] ns) :
    Calls Tryz.prog 12 #[.agg bs.toArray, u] w fun e w' => askPost b ns w e w' := by
  have hl' := hl
  obtain ⟨v0, u0, rfl, hd, htb⟩ := hl
  obtain ⟨A, c, rfl, _, _, hbd, hD⟩ := rSl.elems hd
  obtain ⟨B, d, rfl, _, _, hbt, hF⟩ := rSl.elems htb
  obtain ⟨C, g, rfl, _, _, hbn, hN⟩ := rSl.elems hn
  have hld : b.doms.length ≤ 4398046511104 := by simp only [rDm] at hbd; omega
  have hlt5 : b.tabs.length ≤ 1759218604441 := by simp only [rTb] at hbt; omega
  have hln : ns.length ≤ 17592186044416 := by simp only [rInt] at hbn; omega
  obtain ⟨W0, e0, HB0, c0, c1, hs0, HBK⟩ : ∃ W0, w.alloc (.cells #[.slice A b.doms.length c, .slice B b.tabs.length d] 33) = W0 ∧ Hid (Below w.heap.size w W0) ∧ W0.cell? ⟨w.heap.size, 0, none⟩ = some (.slice A b.doms.length c) ∧ W0.cell? ⟨w.heap.size, 1, none⟩ = some (.slice B b.tabs.length d) ∧ w.heap.size < W0.heap.size ∧ Hid (rBk.rel W0 S [.slice A b.doms.length c, .slice B b.tabs.length d] b) :=
    ⟨_, rfl, Lib.hid ((Below.refl _ _).alloc (Nat.le_refl _) _), World.cell?_alloc_new _ _ _ _, World.cell?_alloc_new _ _ _ _, by simp, Lib.hid (Rd.alloc hl' _)⟩
  have HD := Lib.hid hD
  have HF := Lib.hid hF
  have HN := Lib.hid hN
  clear hl' hd htb hbd hbt hbn hn hD hF hN
  have HZ : Hid (∀ (e : Ending) (w' : World) (r : Int), askB b ns = ([], r) → e = .returned (.tuple #[.slice none 0 0, .int .i64 r]) → Below W0.heap.size W0 w' → askPost b ns w e w') := Lib.hid (by
    rintro e w' r h rfl h2
    exact ⟨_, _, by rw [h], by rw [h]; exact ans_nil _, HB0.out.trans (h2.mono HB0.out.size)⟩)
  obtain ⟨⟨nm, at_, er⟩, hck⟩ : ∃ x, checkB b = x := ⟨_, rfl⟩
  have HCK := Lib.hid hck
  have hmm := @run_makeMap Tryz.prog
  go_enter Tryz.func12, Tryz.ntmps12
  by_cases her : er = 0
  · subst her
    have HC0 : Hid ((checkB b).2.2 = 0) := Lib.hid (by rw [hck])
    have HL := Lib.hid (checkB_le HC0.out)
    have HTO := Lib.hid (checkB_tabs HC0.out)
    have HA1 : Hid (askB b ns = if ns.length ≠ b.doms.length then ([], 1) else if insOk b.doms ns = false then ([], 2) else (b.tabs.map (answerOf (asked b ns ((orderB b).getD []))), 0)) := Lib.hid (by unfold askB; rw [if_neg (by rw [HC0.out]; simp)])
    clear hck
    by_cases hne : ns.length = b.doms.length
    · have HNE := Lib.hid hne
      have hq1 : ((ns.length : Int) == (b.doms.length : Int)) = true := by simp [hne]
      have hq2 : (ns.length == b.doms.length) = true := by simp [hne]
      have HA2 := Lib.hid (HA1.out.trans (if_neg (by rw [hne]; simp)))
      clear hne HA1
      go_wp2_with (first | (go_at_call 28; go_must ((with_reducible refine (Check_at W0 HBK.out HCK.out).mono ?_); rintro e w1 ⟨Ak, ck, Sk, rfl, _, hb1⟩; have HB1 := Lib.hid hb1; have d0 := (hb1.cell (p := ⟨w.heap.size, 0, none⟩) hs0).trans c0; have d1 := (hb1.cell (p := ⟨w.heap.size, 1, none⟩) hs0).trans c1; clear hb1; obtain ⟨WM, eM, HBM, HMA, m0, HMb⟩ : ∃ WM, w1.alloc (.map #[] 0) = WM ∧ Hid (Below W0.heap.size W0 WM) ∧ Hid (MapA WM w1.heap.size 0 (knownTo b.doms ns 0)) ∧ WM.cell? ⟨w.heap.size, 0, none⟩ = some (.slice A b.doms.length c) ∧ Hid (W0.heap.size ≤ w1.heap.size) := ⟨_, rfl, Lib.hid (HB1.out.alloc HB1.out.size _), Lib.hid (MapA.made _), (World.cell?_alloc_lt _ _ _ (Nat.lt_of_lt_of_le hs0 HB1.out.size)).trans d0, Lib.hid HB1.out.size⟩)))
      clear d0 d1 m0 eM hq1 hq2 e0
      generalize hmb : w1.heap.size = mb at *
      clear hmb
      go_loopw [41] (fun i wr => ∃ (k n : Nat), k ≤ b.doms.length ∧ i = .int .i64 k ∧ Hid (MapA wr mb n (knownTo b.doms ns k)) ∧ Hid (n ≤ k) ∧ Hid (∀ j, j < k → inOk b.doms ns j = true) ∧ Hid (Below W0.heap.size W0 wr)) (fun i _ => b.doms.length - (intOf i).toNat)
      case atStart => exact ⟨0, 0, Nat.zero_le _, rfl, HMA, Lib.hid (Nat.le_refl _), Lib.hid (by omega), HBM⟩
      case round =>
        obtain ⟨k, n, hk, rfl, HM, Hn, HK, HB⟩ := hrel
        by_cases hlt : k < b.doms.length
        · obtain ⟨bB, off, x, rfl, hbB, hx, ⟨hxl, hxi⟩, g0, g1, g2⟩ := HD.out.dm hlt
          obtain ⟨q, off', v, rfl, _, hq, hy, hyi, h3⟩ := HN.out.intAt (show k < ns.length by rw [HNE.out]; exact hlt)
          have hbw := HB0.out.trans (HB.out.mono HB0.out.size)
          rw [← hbw.cell (p := ⟨bB, _, none⟩) hbB] at g0 g1 g2
          rw [← hbw.cell (p := ⟨q, _, none⟩) hq] at h3
          have hik : (k : Int) < (b.doms.length : Int) := by omega
          have hin : (k : Int) < (ns.length : Int) := by rw [HNE.out]; exact hik
          have HIK : Hid (inOk b.doms ns k = (decide (x.lo ≤ v) && decide (v ≤ x.hi))) := Lib.hid (by unfold inOk; rw [hx, hy]; rfl)
          have HKN : Hid (knownTo b.doms ns (k + 1) = putA (knownTo b.doms ns k) x.name ⟨[], true, v⟩) := Lib.hid (by rw [knownTo, hx, hy]; rfl)
          obtain ⟨W3, e3, HB3, j0, j1, j2, h4, hqs, hws, HM3⟩ : ∃ W3, wr.alloc (.cells #[.string ⟨x.name.toArray⟩, .int .i64 x.lo, .int .i64 x.hi] 44) = W3 ∧ Hid (Below W0.heap.size W0 W3) ∧ W3.cell? ⟨wr.heap.size, 0, none⟩ = some (.string ⟨x.name.toArray⟩) ∧ W3.cell? ⟨wr.heap.size, 1, none⟩ = some (.int .i64 x.lo) ∧ W3.cell? ⟨wr.heap.size, 2, none⟩ = some (.int .i64 x.hi) ∧ W3.cell? ⟨q, off' + k, none⟩ = some (.int .i64 v) ∧ q < W3.heap.size ∧ wr.heap.size < W3.heap.size ∧ Hid (MapA W3 mb n (knownTo b.doms ns k)) :=
            ⟨_, rfl, Lib.hid (HB.out.alloc HB.out.size _), World.cell?_alloc_new _ _ _ _, World.cell?_alloc_new _ _ _ _, World.cell?_alloc_new _ _ _ _, (World.cell?_alloc_lt _ _ _ (Nat.lt_of_lt_of_le hq hbw.size)).trans h3, Nat.lt_of_lt_of_le (Nat.lt_of_lt_of_le hq hbw.size) (by simp), by simp, Lib.hid (HM.out.alloc _)⟩
          have HYI := Lib.hid hyi
          clear hx hy hyi hbw hq
          by_cases h1 : v < x.lo
          · have hd1 : decide (v < x.lo) = true := decide_eq_true h1
            have HC : Hid (askB b ns = ([], 2)) := Lib.hid (by rw [HA2.out, if_pos (insOk_no hlt (by rw [HIK.out, decide_eq_false (by omega)]; rfl))])
            clear h1
            go_wp2
            refine wp_region_quiet_below (by kernel_rfl) (by kernel_rfl) ?_
            repeat (go_big_quiet_step (fail))
            refine wpQuiet_nil ?_
            intro _ hw'
            obtain ⟨⟨dq, osq⟩, hw''⟩ := hw'
            subst hw''
            go_wp2
            go_ret2
            exact HZ.out _ _ _ HC.out rfl (HB3.out.trans ((below_regrown _ _ _).mono HB3.out.size))
          · by_cases h2 : x.hi < v
            · have hd1 : decide (v < x.lo) = false := decide_eq_false h1
              have hd2 : decide (x.hi < v) = true := decide_eq_true h2
              have HC : Hid (askB b ns = ([], 2)) := Lib.hid (by rw [HA2.out, if_pos (insOk_no hlt (by rw [HIK.out, decide_eq_false (show ¬ v ≤ x.hi by omega)]; simp))])
              clear h1 h2
              go_wp2
              refine wp_region_quiet_below (by kernel_rfl) (by kernel_rfl) ?_
              repeat (go_big_quiet_step (fail))
              refine wpQuiet_nil ?_
              intro _ hw'
              obtain ⟨⟨dq, osq⟩, hw''⟩ := hw'
              subst hw''
              go_wp2
              go_ret2
              exact HZ.out _ _ _ HC.out rfl (HB3.out.trans ((below_regrown _ _ _).mono HB3.out.size))
            · have hd1 : decide (v < x.lo) = false := decide_eq_false h1
              have hd2 : decide (x.hi < v) = false := decide_eq_false h2
              have HS := Lib.hid (upto_step HK.out (by rw [HIK.out, decide_eq_true (show x.lo ≤ v by omega), decide_eq_true (show v ≤ x.hi by omega)]; rfl))
              clear h1 h2
              go_wp2
              refine wp_region_quiet_below (by kernel_rfl) (by kernel_rfl) ?_
              repeat (go_big_quiet_step (fail))
              refine wpQuiet_nil ?_
              intro _ hw'
              obtain ⟨⟨dq, osq⟩, hw''⟩ := hw'
              subst hw''
              obtain ⟨W4, e4, HB4, a0, a4, HM4⟩ : ∃ W4, Go.Sort.grow (redrawn W3 dq) osq = W4 ∧ Hid (Below W0.heap.size W0 W4) ∧ W4.cell? ⟨wr.heap.size, 0, none⟩ = some (.string ⟨x.name.toArray⟩) ∧ W4.cell? ⟨q, off' + k, none⟩ = some (.int .i64 v) ∧ Hid (MapA W4 mb n (knownTo b.doms ns k)) :=
                ⟨_, rfl, Lib.hid (HB3.out.trans ((below_regrown _ _ _).mono HB3.out.size)), ((below_regrown W3 dq osq).cell (p := ⟨wr.heap.size, 0, none⟩) hws).trans j0, ((below_regrown W3 dq osq).cell (p := ⟨q, _, none⟩) hqs).trans h4, Lib.hid (HM3.out.below (below_regrown _ _ _))⟩
              obtain ⟨W5, e5, hM5, hb5, hg5⟩ := SMap.update (B := W0.heap.size) (t := 87) HM4.out.1.drew Tryz.underlying87 Tryz.underlying9 (by have := Hn.out; unfold maxLen; omega) hxl (.agg #[.string ⟨#[]⟩, .bool true, .int .i64 v]) HMb.out
              have HM5 : Hid (MapA W5 mb (n + 1) (knownTo b.doms ns (k + 1))) := Lib.hid (by rw [HKN.out]; exact MapA.put hM5 HM4.out.2 HYI.out)
              have HB5 := Lib.hid ((drewB HB4.out).trans hb5)
              clear hM5 hb5 hg5
              rw [e4]
              go_wp2
              go_region
              all_goals
                go_wp2
                go_roundw
                case rel => exact ⟨k + 1, n + 1, by omega, by go_num, HM5, Lib.hid (by have := Hn.out; omega), HS, HB5⟩
                case measure => simp [intOf]; omega
        · have HIO : Hid (insOk b.doms ns = true) := Lib.hid (all_range_true hlt HK.out)
          have HA3 := Lib.hid (HA2.out.trans (if_neg (by rw [HIO.out]; decide)))
          obtain rfl : k = b.doms.length := by omega
          clear HK HA2 hk
          obtain ⟨w2, hw2⟩ : ∃ x, x = wr := ⟨_, rfl⟩
          subst hw2
          have f0 := (HB.out.cell (p := ⟨w.heap.size, 0, none⟩) hs0).trans c0
          have f1 := (HB.out.cell (p := ⟨w.heap.size, 1, none⟩) hs0).trans c1
          have HBK2 := Lib.hid (Rd.below HBK.out HB.out)
          obtain ⟨oo, hoo⟩ : ∃ o, orderB b = o := ⟨_, rfl⟩
          have HOO := Lib.hid hoo
          obtain ⟨o, ho⟩ : ∃ x, oo.getD [] = x := ⟨_, rfl⟩
          have HO := Lib.hid ho
          clear hoo ho
          go_wp2_with (first | (go_at_call 34; go_must ((with_reducible refine (Order_at w2 HBK2.out HOO.out).mono ?_); rintro e wo ⟨zo, rfl, hzo, hbo⟩; obtain ⟨HB9, HM9, HR9⟩ : Hid (Below W0.heap.size W0 wo) ∧ Hid (MapA wo mb n (knownTo b.doms ns b.doms.length)) ∧ Hid ((rSl rStr).rel wo (Up (fun _ => False) w2.heap.size) [zo] o) := ⟨Lib.hid (HB.out.trans (hbo.mono HB.out.size)), Lib.hid (HM.out.below hbo), Lib.hid (by rw [← HO.out]; exact hzo)⟩; clear hzo hbo; have hro := HR9.out; obtain ⟨Ao, co, rfl, _, _, hbyo, _⟩ := rSl.elems hro; clear hro)))
          clear f0 f1 hlt
          have hlo : o.length ≤ 8796093022208 := by simp only [rStr] at hbyo; omega
          clear hbyo
          have Hmb := Lib.hid (show mb < w2.heap.size from HM.out.1.lt)
          generalize hN2 : w2.heap.size = N2 at *
          clear hN2
          go_loopw [78] (fun i wr => ∃ (k n : Nat), k ≤ o.length ∧ i = .int .i64 k ∧ Hid (MapA wr mb n (askedTo b ns o k)) ∧ Hid (n ≤ k + 4) ∧ Hid ((rSl rStr).rel wr (Up (fun _ => False) N2) [.slice Ao o.length co] o) ∧ Hid (Below W0.heap.size W0 wr)) (fun i _ => o.length - (intOf i).toNat)
          case atStart => exact ⟨0, n, Nat.zero_le _, rfl, HM9, Lib.hid (by have := Hn.out; have := HL.out.1; omega), HR9, HB9⟩
          case round =>
            obtain ⟨k, n', hk, rfl, HM, Hn', HR, HB⟩ := hrel
            by_cases hlt : k < o.length
            · obtain ⟨_, _, hA0, _, _, _, hE⟩ := rSl.elems HR.out
              obtain ⟨rfl, rfl⟩ : Ao = _ ∧ co = _ := by injection hA0 with h1 h2 h3; exact ⟨h1, h3⟩
              obtain ⟨q, off, s, rfl, hSq, hq, hx, hxl, g0⟩ := hE.str hlt
              have hik : (k : Int) < (o.length : Int) := by omega
              have HST := Lib.hid (askedTo_succ (b := b) (ns := ns) hx)
              obtain ⟨tb, htb⟩ : ∃ x, tbOf (findT b.tabs s) = x := ⟨_, rfl⟩
              obtain ⟨ft, hft⟩ : ∃ x, (findT b.tabs s).isSome = x := ⟨_, rfl⟩
              have HT := Lib.hid htb
              have HF2 := Lib.hid hft
              obtain ⟨a, ha⟩ : ∃ a, saysA (askedTo b ns o k) tb = a := ⟨_, rfl⟩
              have HSA := Lib.hid ha
              have HAI : Hid (InI a.n) := Lib.hid (by
                rw [← ha]
                refine saysA_in fun ms => ?_
                rw [← htb]
                cases hf : findT b.tabs s with
                | none => exact saysT_in0 _
                | some t => exact saysT_in (goodT_tabs HTO.out.2 (List.mem_of_find?_eq_some hf)) _)
              have f0 := (HB.out.cell (p := ⟨w.heap.size, 0, none⟩) hs0).trans c0
              have f1 := (HB.out.cell (p := ⟨w.heap.size, 1, none⟩) hs0).trans c1
              have HBK2 := Lib.hid (Rd.below HBK.out HB.out)
              clear hx hE hA0 htb hft ha
              go_wp2_with (first | (go_at_call 40; go_must ((with_reducible refine (FindTable_at wr HBK2.out hxl HT.out HF2.out).mono ?_); rintro e w4 ⟨A5, c5, B5, d5, S5, rfl, hr5, hb4⟩; obtain ⟨W5, e5, HB5, j50, j51, j52, j53, j54, HR5, HM5, HO5⟩ : ∃ W5, w4.alloc (.cells #[.string ⟨tb.name.toArray⟩, .int .i64 tb.pol, .bool tb.comp, .slice A5 tb.ins.length c5, .slice B5 tb.rules.length d5] 42) = W5 ∧ Hid (Below W0.heap.size W0 W5) ∧ W5.cell? ⟨w4.heap.size, 0, none⟩ = some (.string ⟨tb.name.toArray⟩) ∧ W5.cell? ⟨w4.heap.size, 1, none⟩ = some (.int .i64 tb.pol) ∧ W5.cell? ⟨w4.heap.size, 2, none⟩ = some (.bool tb.comp) ∧ W5.cell? ⟨w4.heap.size, 3, none⟩ = some (.slice A5 tb.ins.length c5) ∧ W5.cell? ⟨w4.heap.size, 4, none⟩ = some (.slice B5 tb.rules.length d5) ∧ Hid (rTb.rel W5 S5 [.string ⟨tb.name.toArray⟩, .int .i64 tb.pol, .bool tb.comp, .slice A5 tb.ins.length c5, .slice B5 tb.rules.length d5] tb) ∧ Hid (MapA W5 mb n' (askedTo b ns o k)) ∧ Hid ((rSl rStr).rel W5 (Up (fun _ => False) N2) [.slice (some ⟨q, off, none⟩) o.length co] o) := ⟨_, rfl, Lib.hid ((HB.out.trans (hb4.mono HB.out.size)).alloc (Nat.le_trans HB.out.size hb4.size) _), World.cell?_alloc_new _ _ _ _, World.cell?_alloc_new _ _ _ _, World.cell?_alloc_new _ _ _ _, World.cell?_alloc_new _ _ _ _, World.cell?_alloc_new _ _ _ _, Lib.hid (Rd.alloc hr5 _), Lib.hid ((HM.out.below hb4).alloc _), Lib.hid (Rd.alloc (Rd.below HR.out hb4) _)⟩; clear hr5 hb4))| (go_at_call 41; go_must ((with_reducible refine (says_at W5 HR5.out HM5.out HSA.out).mono ?_); rintro e w6 ⟨rfl, hb6⟩; have HM6 := Lib.hid (HM5.out.below hb6); have HB6 := Lib.hid (HB5.out.trans (hb6.mono HB5.out.size)); have HO6 := Lib.hid (Rd.below HO5.out hb6); clear hb6))| (at_mapUpdate; go_must (refine wpList_update_txt (B := W0.heap.size) rfl (.tmp 88) (.tmp 89) (.tmp 92) 87 rfl Tryz.underlying87 Tryz.underlying9 rfl HM6.out.1 (by have := Hn'.out; unfold maxLen; omega) rfl hxl rfl HMb.out ?_); intro w7 hM7 hb7 hg7))
              have HM7 : Hid (MapA w7 mb (n' + 1) (askedTo b ns o (k + 1))) := Lib.hid (by rw [HST.out, HT.out, HSA.out]; exact MapA.put hM7 HM6.out.2 HAI.out)
              have HO7 := Lib.hid ((rSl rStr).keep HO6.out (.grown hg7 fun g hg h => by cases hg; rcases h with h | h; exact h; have := Hmb.out; omega))
              go_roundw
              case rel => exact ⟨k + 1, n' + 1, by omega, by go_num, HM7, Lib.hid (by have := Hn'.out; omega), HO7, Lib.hid (HB6.out.trans hb7)⟩
              case measure => simp [intOf]; omega
            · have HAS : Hid (askedTo b ns o k = asked b ns o) := Lib.hid (by unfold askedTo asked; rw [List.take_of_length_le (by omega)])
              rw [HAS.out] at HM
              have HA4 : Hid (askB b ns = (b.tabs.map (answerOf (asked b ns o)), 0)) := Lib.hid (by rw [HA3.out, HOO.out, HO.out])
              clear HA3 hk
              generalize asked b ns o = m at *
              obtain ⟨w3, hw3⟩ : ∃ x, x = wr := ⟨_, rfl⟩
              subst hw3
              have f1 := (HB.out.cell (p := ⟨w.heap.size, 1, none⟩) hs0).trans c1
              go_wp2
              clear f1 hlt
              have HMs := HM
              have HBs := HB
              go_loopw [18, 97] (fun ov i wr => ∃ (k : Nat) (out : List An), k ≤ b.tabs.length ∧ i = .int .i64 k ∧ Own rAn 46 wr w3.heap.size (fun _ => False) ov out ∧ Hid (out = (b.tabs.take k).map (answerOf m)) ∧ Hid (Below w3.heap.size w3 wr)) (fun _ i _ => b.tabs.length - (intOf i).toNat)
              case atStart => exact ⟨0, [], Nat.zero_le _, rfl, Own.nil _ _ _ _ _, Lib.hid rfl, Lib.hid (Below.refl _ _)⟩
              case round =>
                obtain ⟨k, out, hk, rfl, hown, HO2, HB⟩ := hrel
                have HBW := Lib.hid (HBs.out.trans (HB.out.mono HBs.out.size))
                by_cases hlt : k < b.tabs.length
                · obtain ⟨bB, off, x, A1, ca, A2, cb, rfl, hbB, hx, hr, g0, g1, g2, g3, g4⟩ := HF.out.tb hlt
                  have hbw := HB0.out.trans (HBW.out.mono HB0.out.size)
                  rw [← hbw.cell (p := ⟨bB, _, none⟩) hbB] at g0 g1 g2 g3 g4
                  have hik : (k : Int) < (b.tabs.length : Int) := by omega
                  have hxl : x.name.length ≤ 140737488355328 := by obtain ⟨_, _, _, h, _⟩ := hr; exact h
                  obtain ⟨⟨nm', fd, nn⟩, ha⟩ : ∃ a, atM m x.name = a := ⟨_, rfl⟩
                  have HV : Hid (((m x.name).map ansV).getD (ansV an0) = .agg #[.string ⟨nm'.toArray⟩, .bool fd, .int .i64 nn]) := Lib.hid (by rw [MapA.getD, ha]; rfl)
                  have HNN : Hid (InI nn) := Lib.hid (by have := HMs.out.2 x.name; rw [ha] at this; exact this)
                  have HOS : Hid (out ++ [⟨x.name, fd, nn⟩] = (b.tabs.take (k + 1)).map (answerOf m)) := Lib.hid (by rw [take_getElem? hx, List.map_append, ← HO2.out]; simp [answerOf, ha])
                  have HOL : Hid (out.length ≤ 4) := Lib.hid (by rw [HO2.out, List.length_map, List.length_take]; have := HL.out.2; omega)
                  have HBY : Hid ((out.length + 1) * rAn.bytes ≤ 140737488355328) := Lib.hid (by have := HOL.out; show (_ + 1) * 32 ≤ _; omega)
                  obtain ⟨W3, e3, HB3, j0, HM3, HOW3, hw3s⟩ : ∃ W3, wr.alloc (.cells #[.string ⟨x.name.toArray⟩, .int .i64 x.pol, .bool x.comp, .slice A1 x.ins.length ca, .slice A2 x.rules.length cb] 42) = W3 ∧ Hid (Below w3.heap.size w3 W3) ∧ W3.cell? ⟨wr.heap.size, 0, none⟩ = some (.string ⟨x.name.toArray⟩) ∧ Hid (MapA W3 mb n' m) ∧ Hid (Own rAn 46 W3 w3.heap.size (fun _ => False) u18 out) ∧ wr.heap.size < W3.heap.size :=
                    ⟨_, rfl, Lib.hid (HB.out.alloc HB.out.size _), World.cell?_alloc_new _ _ _ _, Lib.hid ((HMs.out.below HB.out).alloc _), Lib.hid (hown.alloc _), by simp⟩
                  obtain ⟨W4, e4, HB4, k0, k1, k2, z0, hk0, hw4s, HOW4⟩ : ∃ W4, W3.alloc (.cells #[.string ⟨nm'.toArray⟩, .bool fd, .int .i64 nn] 46) = W4 ∧ Hid (Below w3.heap.size w3 W4) ∧ W4.cell? ⟨W3.heap.size, 0, none⟩ = some (.string ⟨nm'.toArray⟩) ∧ W4.cell? ⟨W3.heap.size, 1, none⟩ = some (.bool fd) ∧ W4.cell? ⟨W3.heap.size, 2, none⟩ = some (.int .i64 nn) ∧ W4.frozen? ⟨W3.heap.size, 0, none⟩ = false ∧ W4.cell? ⟨wr.heap.size, 0, none⟩ = some (.string ⟨x.name.toArray⟩) ∧ Hid (W3.heap.size < W4.heap.size) ∧ Hid (Own rAn 46 W4 w3.heap.size (fun _ => False) u18 out) :=
                    ⟨_, rfl, Lib.hid (HB3.out.alloc HB3.out.size _), World.cell?_alloc_new _ _ _ _, World.cell?_alloc_new _ _ _ _, World.cell?_alloc_new _ _ _ _, by simp, (World.cell?_alloc_lt _ _ _ hw3s).trans j0, Lib.hid (by simp), Lib.hid (HOW3.out.alloc _)⟩
                  obtain ⟨W5, e5, HB5, l0, l1, l2, HOW5⟩ : ∃ W5, W4.setCell ⟨W3.heap.size, 0, none⟩ (.string ⟨x.name.toArray⟩) = W5 ∧ Hid (Below w3.heap.size w3 W5) ∧ W5.cell? ⟨W3.heap.size, 0, none⟩ = some (.string ⟨x.name.toArray⟩) ∧ W5.cell? ⟨W3.heap.size, 1, none⟩ = some (.bool fd) ∧ W5.cell? ⟨W3.heap.size, 2, none⟩ = some (.int .i64 nn) ∧ Hid (Own rAn 46 W5 w3.heap.size (fun _ => False) u18 out) :=
                    ⟨_, rfl, Lib.hid (HB4.out.setCell HB3.out.size _), World.cell?_setCell_same _ _ _ k0, (World.cell?_setCell_other _ _ _ _ (by simp)).trans k1, (World.cell?_setCell_other _ _ _ _ (by simp)).trans k2, Lib.hid (HOW4.out.flat_set (fun _ _ _ _ _ _ h => h) (fun g hg => by have := HOW3.out.lt g hg; show g ≠ W3.heap.size; omega) _)⟩
                  clear hx hr hbw hown ha
                  go_wp2_with (first | (at_lookup; go_must (refine wpList_lookup_txt rfl (.tmp 101) (.tmp 103) 87 rfl Tryz.underlying87 Tryz.underlying9 (zeroA _) rfl HM3.out.1 rfl hxl HV.out ?_)) | (at_builtin; go_must (refine wpList_append_new (R := rAn) (x := ⟨x.name, fd, nn⟩) el_An rfl (.tmp 108) (.tmp 110) rfl rfl HOW5.out [.string ⟨x.name.toArray⟩, .bool fd, .int .i64 nn] rfl rfl (fun _ => False) ⟨rfl, hxl, HNN.out⟩ (fun _ h => h.elim) HBY.out HB5.out.size ?_); intro v9 w9 hown9 hb9 _ _))
                  go_roundw
                  case rel => exact ⟨k + 1, out ++ [⟨x.name, fd, nn⟩], by omega, by go_num, hown9, HOS, Lib.hid (HB5.out.trans hb9)⟩
                  case measure => simp [intOf]; omega
                · have HC : Hid (askB b ns = (out, 0)) := Lib.hid (by rw [HA4.out, HO2.out, List.take_of_length_le (by omega)])
                  obtain ⟨A9, l9, rfl⟩ := hown.value
                  go_wp2
                  go_ret2
                  exact ⟨_, _, by rw [HC.out]; rfl, by rw [HC.out]; exact hown.rel (by decide), HB0.out.trans (HBW.out.mono HB0.out.size)⟩
    · have HA3 : Hid (askB b ns = ([], 1)) := Lib.hid (by rw [HA1.out, if_pos hne])
      have hq1 : ((ns.length : Int) == (b.doms.length : Int)) = false := beq_eq_false_iff_ne.2 (by omega)
      have hq2 : (ns.length == b.doms.length) = false := beq_eq_false_iff_ne.2 hne
      clear hne
      go_wp2_with (first | (go_at_call 28; go_must ((with_reducible refine (Check_at W0 HBK.out HCK.out).mono ?_); rintro e w1 ⟨Ak, ck, Sk, rfl, _, hb1⟩; have HB1 := Lib.hid hb1; have d0 := (hb1.cell (p := ⟨w.heap.size, 0, none⟩) hs0).trans c0; have d1 := (hb1.cell (p := ⟨w.heap.size, 1, none⟩) hs0).trans c1; clear hb1)))
      go_ret2
      exact HZ.out _ _ _ HA3.out rfl HB1.out
  · have HA3 : Hid (askB b ns = ([], er)) := Lib.hid (by unfold askB; rw [hck]; exact if_pos her)
    have hq1 : (er == 0) = false := by simpa using her
    clear hck her
    go_wp2_with (first | (go_at_call 28; go_must ((with_reducible refine (Check_at W0 HBK.out HCK.out).mono ?_); rintro e w1 ⟨Ak, ck, Sk, rfl, _, hb1⟩; have HB1 := Lib.hid hb1; have d0 := (hb1.cell (p := ⟨w.heap.size, 0, none⟩) hs0).trans c0; have d1 := (hb1.cell (p := ⟨w.heap.size, 1, none⟩) hs0).trans c1; clear hb1)))
    go_ret2
    exact HZ.out _ _ _ HA3.out rfl HB1.out

end Go.Proofs.YtlopccnehgolnabGreatDoor

namespace Go.Proofs.YtlopccnehgolnabGreatDoor
open Go.RowKit Rb

theorem bytesLess_irrefl : ∀ a : Txt, Op.bytesLess a a = false
  | [] => rfl
  | a :: l => by simp [Op.bytesLess, bytesLess_irrefl l]
theorem bytesLess_trans : ∀ {a b c : Txt}, Op.bytesLess a b = true → Op.bytesLess b c = true → Op.bytesLess a c = true
  | _, _, [], _, h => by simp [Op.bytesLess] at h
  | [], _, _ :: _, _, _ => rfl
  | a :: x, [], _ :: _, h, _ => by simp [Op.bytesLess] at h
  | a :: x, b :: y, c :: z, h1, h2 => by
    simp only [Op.bytesLess, Bool.or_eq_true, decide_eq_true_iff, Bool.and_eq_true, beq_iff_eq] at h1 h2 ⊢
    rcases h1 with h1 | ⟨rfl, h1⟩
    · rcases h2 with h2 | ⟨rfl, h2⟩
      · exact .inl (UInt8.lt_trans h1 h2)
      · exact .inl h1
    · rcases h2 with h2 | ⟨rfl, h2⟩
      · exact .inl h2
      · exact .inr ⟨rfl, bytesLess_trans h1 h2⟩
theorem rise_nodup {α : Type} {f : α → Txt} {l : List α} (h : ∀ k (hk : k + 1 < l.length), Op.bytesLess (f l[k]) (f l[k + 1]) = true) : (l.map f).Nodup := by
  have key : ∀ (j i : Nat) (hij : i < j) (hj : j < l.length), Op.bytesLess (f (l[i]'(by omega))) (f l[j]) = true := by
    intro j
    induction j with
    | zero => intro i hi; omega
    | succ j ih =>
      intro i hij hj
      rcases Nat.lt_succ_iff_lt_or_eq.1 hij with h1 | rfl
      · exact bytesLess_trans (ih i h1 (by omega)) (h j hj)
      · exact h i hj
  show List.Pairwise _ _
  rw [List.pairwise_iff_getElem]
  intro i j hi hj hij e
  rw [List.getElem_map, List.getElem_map] at e
  rw [List.length_map] at hj
  have := key j i hij hj
  rw [e, bytesLess_irrefl] at this
  cases this
theorem find_name {α : Type} {f : α → Txt} : ∀ {l : List α}, (l.map f).Nodup → ∀ {x : α}, x ∈ l → l.find? (fun y => f y == f x) = some x
  | a :: l, h, x, hx => by
    rw [List.map_cons, List.nodup_cons] at h
    rw [List.find?_cons]
    rcases List.mem_cons.1 hx with rfl | hx
    · simp
    · have : (f a == f x) = false := by
        rw [beq_eq_false_iff_ne]
        intro e
        exact h.1 (List.mem_map.2 ⟨x, hx, e.symm⟩)
      rw [this]
      exact find_name h.2 hx

structure CheckOk (b : Bk) : Prop where
  dl : b.doms.length ≤ 4
  tl : b.tabs.length ≤ 4
  doms : domsOk b.doms = true
  tabs : tabsOk b = true
  box : ∀ t ∈ b.tabs, someBx (boxOf b t) = true
  ord : (orderB b).isSome = true
  clash : ∀ t ∈ b.tabs, (clashB t (bxOf b t)).length = 0 ∧ (t.comp = true → (gapB t (bxOf b t)).length = 0)

theorem clashGap_ok {b : Bk} : ∀ {l : List Tb}, (clashGap b l).2.2 = 0 → ∀ t ∈ l, (clashB t (bxOf b t)).length = 0 ∧ (t.comp = true → (gapB t (bxOf b t)).length = 0)
  | [], _, t, ht => by cases ht
  | a :: l, h, t, ht => by
    rw [clashGap] at h
    split at h
    · cases h
    · rename_i h1
      split at h
      · cases h
      · rename_i h2
        rcases List.mem_cons.1 ht with rfl | ht
        · exact ⟨by omega, fun hc => by
            rcases Nat.eq_zero_or_pos (gapB t (bxOf b t)).length with h3 | h3
            · exact h3
            · exact absurd ⟨h3, hc⟩ h2⟩
        · exact clashGap_ok h t ht

theorem checkOk {b : Bk} (h : (checkB b).2.2 = 0) : CheckOk b := by
  have hl := checkB_le h
  have hd := checkB_tabs h
  unfold checkB at h
  rw [if_neg (by omega), if_neg (by rw [hd.1]; decide), if_neg (by rw [hd.2]; decide)] at h
  split at h
  · cases h
  · rename_i hf
    rw [List.find?_eq_none] at hf
    split at h
    · cases h
    · rename_i ho
      exact ⟨hl.1, hl.2, hd.1, hd.2, fun t ht => by simpa using hf t ht, by revert ho; cases (orderB b).isSome <;> simp, clashGap_ok h⟩

section
variable {b : Bk} (h : CheckOk b)
include h
theorem CheckOk.domAt {i : Nat} {d : Dm} (hd : b.doms[i]? = some d) : goodD d = true := by
  obtain ⟨hi, _⟩ := List.getElem?_eq_some_iff.1 hd
  have := List.all_eq_true.1 h.doms i (List.mem_range.2 hi)
  unfold domOk at this
  rw [hd] at this
  simp only [Bool.and_eq_true] at this
  exact this.1
theorem CheckOk.domNames : (b.doms.map (·.name)).Nodup := rise_nodup fun k hk => by
  have := List.all_eq_true.1 h.doms (k + 1) (List.mem_range.2 hk)
  unfold domOk at this
  rw [List.getElem?_eq_getElem hk] at this
  simp only [Bool.and_eq_true, Bool.or_eq_true, decide_eq_true_iff] at this
  rcases this.2 with h1 | h1
  · omega
  · rw [show k + 1 - 1 = k by omega] at h1
    simpa [nameD, List.getElem?_eq_getElem (show k < b.doms.length by omega)] using h1
theorem CheckOk.tabNames : (b.tabs.map (·.name)).Nodup := rise_nodup fun k hk => by
  have := List.all_eq_true.1 h.tabs (k + 1) (List.mem_range.2 hk)
  unfold tabOk at this
  rw [List.getElem?_eq_getElem hk] at this
  simp only [Bool.and_eq_true, Bool.or_eq_true, decide_eq_true_iff] at this
  rcases this.2 with h1 | h1
  · omega
  · rw [show k + 1 - 1 = k by omega] at h1
    simpa [nameT, List.getElem?_eq_getElem (show k < b.tabs.length by omega)] using h1
theorem CheckOk.apart {t : Tb} (ht : t ∈ b.tabs) : findD b.doms t.name = none := by
  obtain ⟨i, hi, rfl⟩ := List.getElem_of_mem ht
  have := List.all_eq_true.1 h.tabs i (List.mem_range.2 hi)
  unfold tabOk at this
  rw [List.getElem?_eq_getElem hi] at this
  simp only [Bool.and_eq_true, Bool.not_eq_true', Option.isSome_eq_false_iff, Option.isNone_iff_eq_none] at this
  exact this.1.2
theorem CheckOk.good {t : Tb} (ht : t ∈ b.tabs) : goodT t = true := tabsOk_good h.tabs t ht
theorem CheckOk.findT {t : Tb} (ht : t ∈ b.tabs) : findT b.tabs t.name = some t := find_name h.tabNames ht
theorem CheckOk.findD {d : Dm} (hd : d ∈ b.doms) : findD b.doms d.name = some d := find_name h.domNames hd
end

def SameA (a c : An) : Prop := a.found = c.found ∧ a.n = c.n
theorem gotM_congr {m m' : Txt → Option An} : ∀ {l : List Txt}, (∀ s ∈ l, SameA (atM m s) (atM m' s)) → gotM m l = gotM m' l
  | [], _ => rfl
  | s :: l, h => by
    rw [gotM, gotM, gotM_congr fun s hs => h s (by simp [hs]), (h s (by simp)).1, (h s (by simp)).2]
theorem gotM_eq (m : Txt → Option An) : ∀ l : List Txt, gotM m l = if l.all (fun s => (atM m s).found) then some (l.map fun s => (atM m s).n) else none
  | [] => rfl
  | s :: l => by
    rw [gotM, gotM_eq m l, List.all_cons, List.map_cons]
    cases (atM m s).found
    · simp
    · cases l.all fun s => (atM m s).found <;> simp
theorem saysA_congr {m m' : Txt → Option An} {t : Tb} (h : ∀ s ∈ t.ins, SameA (atM m s) (atM m' s)) : saysA m t = saysA m' t := by
  unfold saysA
  rw [gotM_congr h]
theorem knownTo_no {l : List Dm} {cs : List Int} {s : Txt} : ∀ {n : Nat}, (∀ d ∈ l, d.name ≠ s) → knownTo l cs n s = none
  | 0, _ => rfl
  | n + 1, h => by
    unfold knownTo
    cases hd : l[n]? with
    | some d =>
      dsimp only
      unfold putA
      rw [if_neg fun e => h d (List.mem_of_getElem? hd) e.symm]
      exact knownTo_no h
    | none => exact knownTo_no h
theorem knownTo_at {l : List Dm} {cs : List Int} (hn : (l.map (·.name)).Nodup) {i : Nat} {d : Dm} (hd : l[i]? = some d) : ∀ {n : Nat}, i < n → knownTo l cs n d.name = some ⟨[], true, (cs[i]?).getD 0⟩
  | n + 1, hi => by
    unfold knownTo
    rcases Nat.lt_succ_iff_lt_or_eq.1 hi with h1 | rfl
    · cases hd' : l[n]? with
      | some d' =>
        dsimp only
        unfold putA
        rw [if_neg]
        · exact knownTo_at hn hd h1
        · intro e
          have h2 : (l.map (·.name))[i]? = some d.name := by rw [List.getElem?_map, hd]; rfl
          have h3 : (l.map (·.name))[n]? = some d.name := by rw [List.getElem?_map, hd', e]; rfl
          have := nodup_at hn h2 h3
          omega
      | none => exact knownTo_at hn hd h1
    · rw [hd]
      simp [putA]
theorem askedTo_other {b : Bk} {cs : List Int} {o : List Txt} {s : Txt} : ∀ {k : Nat}, (∀ j, j < k → o[j]? ≠ some s) → askedTo b cs o k s = knownTo b.doms cs b.doms.length s
  | 0, _ => rfl
  | k + 1, h => by
    cases hx : o[k]? with
    | none =>
      have : askedTo b cs o (k + 1) = askedTo b cs o k := by
        unfold askedTo
        rw [List.getElem?_eq_none_iff] at hx
        rw [List.take_of_length_le (by omega), List.take_of_length_le hx]
      rw [this]
      exact askedTo_other fun j hj => h j (by omega)
    | some x =>
      rw [askedTo_succ hx]
      unfold putA
      rw [if_neg fun e => h k (by omega) (by rw [hx, e])]
      exact askedTo_other fun j hj => h j (by omega)
theorem askedTo_at {b : Bk} {cs : List Int} {o : List Txt} (hn : o.Nodup) {j : Nat} {s : Txt} (hs : o[j]? = some s) : ∀ {k : Nat}, j < k → askedTo b cs o k s = some (saysA (askedTo b cs o j) (tbOf (findT b.tabs s)))
  | k + 1, hj => by
    rcases Nat.lt_succ_iff_lt_or_eq.1 hj with h1 | rfl
    · cases hx : o[k]? with
      | none =>
        have : askedTo b cs o (k + 1) = askedTo b cs o k := by
          unfold askedTo
          rw [List.getElem?_eq_none_iff] at hx
          rw [List.take_of_length_le (by omega), List.take_of_length_le hx]
        rw [this]
        exact askedTo_at hn hs h1
      | some x =>
        rw [askedTo_succ hx]
        unfold putA
        rw [if_neg]
        · exact askedTo_at hn hs h1
        · intro e
          have := nodup_at hn hs (hx.trans (by rw [e]))
          omega
    · rw [askedTo_succ hs]
      simp [putA]
theorem asked_eq (b : Bk) (cs : List Int) (o : List Txt) : asked b cs o = askedTo b cs o o.length := by
  unfold asked askedTo
  rw [List.take_length]

theorem gotM_len {m : Txt → Option An} {l : List Txt} {own : List Int} (h : gotM m l = some own) : own.length = l.length := by
  rw [gotM_eq] at h
  split at h
  · injection h with h
    rw [← h, List.length_map]
  · cases h
theorem gotM_found {m : Txt → Option An} {l : List Txt} {own : List Int} (h : gotM m l = some own) : (∀ s ∈ l, (atM m s).found = true) ∧ own = l.map fun s => (atM m s).n := by
  rw [gotM_eq] at h
  split at h
  · rename_i h1
    rw [List.all_eq_true] at h1
    injection h with h
    exact ⟨h1, h.symm⟩
  · cases h
theorem boxGo_some {b : Bk} : ∀ {l : List Txt} {x : Bx}, boxGo b l = some x → x = l.map (fun s => [allR b s]) ∧ ∀ s ∈ l, okIn b s = true
  | [], x, h => by
    rw [boxGo] at h
    injection h with h
    exact ⟨h.symm, fun s hs => by cases hs⟩
  | s :: l, x, h => by
    rw [boxGo] at h
    split at h
    · rename_i h1
      rw [Option.map_eq_some_iff] at h
      obtain ⟨y, hy, rfl⟩ := h
      obtain ⟨rfl, h3⟩ := boxGo_some hy
      exact ⟨rfl, fun s' hs' => by
        rcases List.mem_cons.1 hs' with rfl | hs'
        · exact h1
        · exact h3 s' hs'⟩
    · cases h

theorem ord_names {b : Bk} {o : List Txt} (ho : orderB b = some o) {i : Nat} {s : Txt} (hs : o[i]? = some s) : ∃ t ∈ b.tabs, t.name = s := by
  obtain ⟨I, _⟩ := orderGo_I b.tabs.length (OrdI.nil b) ho
  obtain ⟨t, ht, hn, _⟩ := I.each i s hs
  exact ⟨t, ht, hn⟩
section
variable {b : Bk} {cs : List Int} {o : List Txt} (h : CheckOk b) (hin : insOk b.doms cs = true) (ho : orderB b = some o)
include ho
theorem asked_other {s : Txt} (hs : ∀ t ∈ b.tabs, t.name ≠ s) (k : Nat) : askedTo b cs o k s = knownTo b.doms cs b.doms.length s :=
  askedTo_other fun j _ hj => by
    obtain ⟨t, ht, hn⟩ := ord_names ho hj
    exact hs t ht hn
include h
/-- Each table's answer follows from the others'. -/
theorem asked_says {t : Tb} (ht : t ∈ b.tabs) : atM (asked b cs o) t.name = saysA (asked b cs o) t := by
  have hd : ∀ t ∈ b.tabs, ∀ u ∈ b.tabs, t.name = u.name → t = u := names_inj h.tabNames
  obtain ⟨hn, hl, hp⟩ := order_law hd ho
  obtain ⟨i, hi, hj⟩ := hp t ht
  have hil := (List.getElem?_eq_some_iff.1 hi).1
  rw [asked_eq]
  have h1 : askedTo b cs o o.length t.name = some (saysA (askedTo b cs o i) t) := by
    rw [askedTo_at hn hi hil, h.findT ht]
    rfl
  unfold atM
  rw [h1]
  show saysA (askedTo b cs o i) t = _
  refine saysA_congr fun s hs => ?_
  by_cases hm : (findT b.tabs s).isSome = true
  · obtain ⟨j, hji, hoj⟩ := hj s hs hm
    have h2 : askedTo b cs o i s = askedTo b cs o o.length s := by rw [askedTo_at hn hoj hji, askedTo_at hn hoj (by omega)]
    unfold atM
    rw [h2]
    exact ⟨rfl, rfl⟩
  · have hno : ∀ t ∈ b.tabs, t.name ≠ s := fun t ht e => hm (by rw [← e, h.findT ht]; rfl)
    unfold atM
    rw [asked_other ho hno, asked_other ho hno]
    exact ⟨rfl, rfl⟩
include hin
theorem asked_dom {i : Nat} {d : Dm} (hd : b.doms[i]? = some d) : atM (asked b cs o) d.name = ⟨[], true, (cs[i]?).getD 0⟩ ∧ d.lo ≤ (cs[i]?).getD 0 ∧ (cs[i]?).getD 0 ≤ d.hi := by
  obtain ⟨hi, _⟩ := List.getElem?_eq_some_iff.1 hd
  have hno : ∀ t ∈ b.tabs, t.name ≠ d.name := fun t ht e => by
    have h1 := h.apart ht
    rw [e, h.findD (List.mem_of_getElem? hd)] at h1
    cases h1
  refine ⟨?_, ?_⟩
  · unfold atM
    rw [asked_eq, asked_other ho hno, knownTo_at h.domNames hd hi]
    rfl
  · have := List.all_eq_true.1 hin i (List.mem_range.2 hi)
    unfold inOk at this
    rw [hd] at this
    simpa using this
/-- What is said lies within what may be said. -/
theorem asked_range {s : Txt} (hs : okIn b s = true) (hf : (atM (asked b cs o) s).found = true) : (allR b s).1 ≤ (atM (asked b cs o) s).n ∧ (atM (asked b cs o) s).n ≤ (allR b s).2 := by
  cases hd : findD b.doms s with
  | some d =>
    have hm := List.mem_of_find?_eq_some hd
    have hn : d.name = s := by have := List.find?_some hd; simpa using this
    obtain ⟨i, hi, rfl⟩ := List.getElem_of_mem hm
    obtain ⟨h1, h2, h3⟩ := asked_dom h hin ho (List.getElem?_eq_getElem hi)
    rw [hn] at h1
    unfold allR
    rw [hd, h1]
    exact ⟨h2, h3⟩
  | none =>
    have h1 : (findT b.tabs s).isSome = true := by
      unfold okIn allOk at hs
      rw [hd] at hs
      simp only [Bool.and_eq_true] at hs
      simpa using hs.1
    obtain ⟨t, ht⟩ := Option.isSome_iff_exists.1 h1
    have hm := List.mem_of_find?_eq_some ht
    have hn : t.name = s := by have := List.find?_some ht; simpa using this
    have hsy := asked_says (cs := cs) h ho hm
    rw [hn] at hsy
    unfold allR
    rw [hd, ht]
    rw [hsy] at hf ⊢
    show (spanT t).1 ≤ _ ∧ _ ≤ (spanT t).2
    unfold saysA at hf ⊢
    cases hg : gotM (asked b cs o) t.ins with
    | none => rw [hg] at hf; cases hf
    | some own =>
      rw [hg] at hf
      exact span_in (h.good hm) (gotM_len hg) hf
/-- Of what its inputs say a table says one thing, and, if it promised to, something. -/
theorem asked_law {t : Tb} (ht : t ∈ b.tabs) {own : List Int} (hg : gotM (asked b cs o) t.ins = some own) : (saysT t own).2.2 = 0 ∧ (t.comp = true → (saysT t own).2.1 = true) := by
  obtain ⟨hfd, rfl⟩ := gotM_found hg
  obtain ⟨x, hx⟩ : ∃ x, boxOf b t = some x := by
    have := h.box t ht
    unfold someBx at this
    split at this
    · rename_i x hx; exact ⟨x, hx⟩
    · cases this
  obtain ⟨rfl, hok⟩ := boxGo_some hx
  have hbx : bxOf b t = t.ins.map (fun s => [allR b s]) := by unfold bxOf; rw [hx]; rfl
  have hgt := h.good ht
  have h3 := (goodT_head hgt).2.2.2.1
  have hr : ∀ s ∈ t.ins, ((allR b s).1 ≤ (atM (asked b cs o) s).n ∧ (atM (asked b cs o) s).n ≤ (allR b s).2) ∧ -1000000 ≤ (allR b s).1 ∧ (allR b s).2 ≤ 1000000 := fun s hs => by
    refine ⟨asked_range h hin ho (hok s hs) (hfd s hs), ?_⟩
    have := hok s hs
    unfold okIn at this
    simp only [Bool.and_eq_true, decide_eq_true_iff] at this
    exact this.2
  have hgb : goodBx (bxOf b t) (t.ins.length : Int) = true := by
    rw [hbx, goodBx_iff]
    refine ⟨fun s hs => ?_, by rw [List.length_map], by omega⟩
    rw [List.mem_map] at hs
    obtain ⟨s', hs', rfl⟩ := hs
    have := hr s' hs'
    exact ⟨by simp, by show GoodFrom (-MX - 2) [allR b s']; unfold GoodFrom GoodFrom MX; exact ⟨by omega, by omega, by omega, by omega, trivial⟩⟩
  have hib : ∀ l : List Txt, (∀ s ∈ l, s ∈ t.ins) → inBx (l.map fun s => [allR b s]) (l.map fun s => (atM (asked b cs o) s).n) = true := by
    intro l
    induction l with
    | nil => intro _; rfl
    | cons s l ih =>
      intro hl
      rw [List.map_cons, List.map_cons, inBx, ih fun s hs => hl s (by simp [hs]), Bool.and_true]
      have := (hr s (hl s (by simp))).1
      simp [hasL, inR, this.1, this.2]
  have hin' : inBx (bxOf b t) (t.ins.map fun s => (atM (asked b cs o) s).n) = true := by rw [hbx]; exact hib t.ins fun s hs => hs
  obtain ⟨c1, c2⟩ := h.clash t ht
  have he : (saysT t (t.ins.map fun s => (atM (asked b cs o) s).n)).2.2 = 0 := by
    apply Classical.byContradiction
    intro h4
    obtain ⟨x, hx, _⟩ := clash_all hgt hgb _ hin' h4
    rw [List.eq_nil_of_length_eq_zero c1] at hx
    cases hx
  refine ⟨he, fun hc => ?_⟩
  cases h0 : (saysT t (t.ins.map fun s => (atM (asked b cs o) s).n)).2.1 with
  | true => rfl
  | false =>
    obtain ⟨x, hx, _⟩ := gap_no hgt hgb _ hin' h0 he
    rw [List.eq_nil_of_length_eq_zero (c2 hc)] at hx
    cases hx
end

/-- What the law knows is what was asked. -/
theorem lawK {m : Txt → Option An} : ∀ (l : List Tb) (K : Txt → Option An), (∀ s, (∀ t ∈ l, t.name ≠ s) → SameA (atM K s) (atM m s)) → ∀ s, SameA (atM ((l.map (answerOf m)).foldl (fun k a => putA k a.name a) K) s) (atM m s)
  | [], K, h, s => h s fun t ht => by cases ht
  | t :: l, K, h, s => by
    rw [List.map_cons, List.foldl_cons]
    refine lawK l _ (fun s' hs' => ?_) s
    by_cases e : s' = t.name
    · subst e
      unfold atM putA
      rw [if_pos (show t.name = (answerOf m t).name from rfl)]
      exact ⟨rfl, rfl⟩
    · have h1 : atM (putA K (answerOf m t).name (answerOf m t)) s' = atM K s' := by
        unfold atM putA
        rw [if_neg (show s' ≠ (answerOf m t).name from e)]
      rw [h1]
      refine h s' fun t' ht' => ?_
      rcases List.mem_cons.1 ht' with rfl | ht'
      · exact fun e' => e e'.symm
      · exact hs' t' ht'

theorem clipTo_len (ns : List Int) (l : List Dm) : (clipTo ns l).length = l.length := by unfold clipTo; simp
theorem clip_ok {b : Bk} (h : CheckOk b) (ns : List Int) : insOk b.doms (clipTo ns b.doms) = true := by
  unfold insOk
  rw [List.all_eq_true]
  intro i hi
  rw [List.mem_range] at hi
  have hg := h.domAt (List.getElem?_eq_getElem hi)
  unfold goodD at hg
  simp only [Bool.and_eq_true, decide_eq_true_iff] at hg
  unfold inOk
  rw [List.getElem?_eq_getElem hi]
  have : (clipTo ns b.doms)[i]? = some (clipV b.doms[i].lo b.doms[i].hi ((ns[i]?).getD 0)) := by
    unfold clipTo
    rw [List.getElem?_map, List.getElem?_range hi]
    simp [List.getElem?_eq_getElem hi]
  rw [this]
  simp only [Option.getD_some, Bool.and_eq_true, decide_eq_true_iff]
  unfold clipV
  omega

end Go.Proofs.YtlopccnehgolnabGreatDoor

namespace Go.Proofs.YtlopccnehgolnabGreatDoor
open Go.RowKit Rb

theorem Elems.anS {w : World} {S : Nat → Prop} {A : Option Addr} {l : List An} (h : Elems rAn w S A l) {i : Nat} (hi : i < l.length) : ∃ b off x, A = some ⟨b, off, none⟩ ∧ b < w.heap.size ∧ l[i]? = some x ∧ (x.name.length ≤ 140737488355328 ∧ InI x.n) ∧
    w.cell? ⟨b, off + i * 3, none⟩ = some (.string ⟨x.name.toArray⟩) ∧ w.cell? ⟨b, off + i * 3 + 1, none⟩ = some (.bool x.found) ∧ w.cell? ⟨b, off + i * 3 + 2, none⟩ = some (.int .i64 x.n) := by
  obtain ⟨b, off, es, hA, hS, hb, ⟨rfl, hr⟩, hc⟩ := h i l[i] (List.getElem?_eq_getElem hi)
  exact ⟨b, off, l[i], hA, hb, List.getElem?_eq_getElem hi, hr, hc 0 _ rfl, hc 1 _ rfl, hc 2 _ rfl⟩

set_option maxRecDepth 100000 in
set_option maxHeartbeats 1600000 in
theorem SameAnswers_same {S T : Nat → Prop} {v u : Value} {l : List An} (w : World) (hl : (rSl rAn).rel w S [v] l) (hm : (rSl rAn).rel w T [u] l) :
    Calls Tryz.prog 33 #[v, u] w fun e w' => e = .returned (.bool true) ∧ Below w.heap.size w w' := by
  obtain ⟨A, c, rfl, _, _, hbd, hD⟩ := rSl.elems hl
  obtain ⟨A', c', rfl, _, _, _, hD'⟩ := rSl.elems hm
  have hld : l.length ≤ 4398046511104 := by simp only [rAn] at hbd; omega
  have HD := Lib.hid hD
  have HD' := Lib.hid hD'
  have hdb : ((l.length : Int) != (l.length : Int)) = false := by simp
  clear hl hm hbd hD hD'
  go_enter Tryz.func33, Tryz.ntmps33
  go_wp2
  go_loopw [13] (fun i wr => ∃ k : Nat, k ≤ l.length ∧ i = .int .i64 k ∧ Hid (Below w.heap.size w wr)) (fun i _ => l.length - (intOf i).toNat)
  case atStart => exact ⟨0, Nat.zero_le _, rfl, Lib.hid (Below.refl _ _)⟩
  case round =>
    obtain ⟨k, hk, rfl, HB⟩ := hrel
    by_cases hlt : k < l.length
    · obtain ⟨bB, off, x, rfl, hbB, hx, _, g0, g1, g2⟩ := HD.out.anS hlt
      obtain ⟨bC, off2, y, rfl, hbC, hy, _, h0, h1, h2⟩ := HD'.out.anS hlt
      obtain rfl : x = y := by rw [hx] at hy; exact Option.some.inj hy
      rw [← HB.out.cell (p := ⟨bB, _, none⟩) hbB] at g0 g1 g2
      rw [← HB.out.cell (p := ⟨bC, _, none⟩) hbC] at h0 h1 h2
      have hik : (k : Int) < (l.length : Int) := by omega
      have hb2 : bB < wr.heap.size := Nat.lt_of_lt_of_le hbB HB.out.size
      have hb3 : bC < wr.heap.size := Nat.lt_of_lt_of_le hbC HB.out.size
      clear hx hy
      go_wp2
      refine wp_region_quiet_below (by kernel_rfl) (by kernel_rfl) ?_
      repeat (go_big_quiet_step (fail))
      refine wpQuiet_nil ?_
      intro _ hw'
      obtain ⟨⟨dq, osq⟩, hw''⟩ := hw'
      subst hw''
      go_wp2
      go_roundw
      case rel => exact ⟨k + 1, by omega, by go_num, Lib.hid (HB.out.trans ((below_regrown _ _ _).mono HB.out.size))⟩
      case measure => simp [intOf]; omega
    · have hij : ¬ (k : Int) < (l.length : Int) := by omega
      go_wp2
      go_ret
      exact ⟨rfl, HB.out⟩

end Go.Proofs.YtlopccnehgolnabGreatDoor

namespace Go.Proofs.YtlopccnehgolnabGreatDoor
open Go.RowKit Rb

def bkEx : Bk := ⟨[⟨[97], 0, 9⟩], [⟨[116], 7, false, [[97]], [⟨[⟨false, []⟩], 0⟩]⟩]⟩
theorem ask_ex : askB bkEx [4] = ([⟨[116], true, 1⟩], 0) := by kernel_rfl

theorem lit_bk (w : World) : rBk.rel (((((w.alloc (.cells #[.string ⟨#[97]⟩, .int .i64 0, .int .i64 9] 44)).alloc (.cells #[.string ⟨#[97]⟩] 9)).alloc (.cells #[.bool false, .slice none 0 0] 97)).alloc
    (.cells #[.slice (some ⟨w.heap.size + 1 + 1, 0, none⟩) 1 1, .int .i64 0] 93)).alloc (.cells #[.string ⟨#[116]⟩, .int .i64 7, .bool false, .slice (some ⟨w.heap.size + 1, 0, none⟩) 1 1, .slice (some ⟨w.heap.size + 1 + 1 + 1, 0, none⟩) 1 1] 42)) (fun _ => True)
    [.slice (some ⟨w.heap.size, 0, none⟩) 1 1, .slice (some ⟨w.heap.size + 1 + 1 + 1 + 1, 0, none⟩) 1 1] bkEx := by
  have h1 := Rd.lit1 (R := rDm) (w := w) (S := fun _ => True) (x := ⟨[97], 0, 9⟩) (cells := [.string ⟨#[97]⟩, .int .i64 0, .int .i64 9]) 44 rfl (by decide) (by decide) ⟨rfl, by decide, by unfold InI; decide, by unfold InI; decide⟩
  have h2 := Rd.lit1 (R := rStr) (w := w.alloc (.cells #[.string ⟨#[97]⟩, .int .i64 0, .int .i64 9] 44)) (S := fun _ => True) (x := [97]) (cells := [.string ⟨#[97]⟩]) (n := w.heap.size + 1) 9 (by simp) (by decide) (by decide) ⟨rfl, by decide⟩
  have h3 := Rd.lit1 (R := rCl) (w := (w.alloc (.cells #[.string ⟨#[97]⟩, .int .i64 0, .int .i64 9] 44)).alloc (.cells #[.string ⟨#[97]⟩] 9)) (S := fun _ => True) (x := ⟨false, []⟩) (cells := [.bool false, .slice none 0 0]) (n := w.heap.size + 1 + 1) 97 (by simp) (by decide) (by decide) ⟨_, rfl, none, 0, rfl, Nat.le_refl _, by decide, by decide, fun i x hx => by simp at hx⟩
  have h4 := Rd.lit1 (R := rRl) (S := fun _ => True) (x := ⟨[⟨false, []⟩], 0⟩) (cells := [.slice (some ⟨w.heap.size + 1 + 1, 0, none⟩) 1 1, .int .i64 0]) (n := w.heap.size + 1 + 1 + 1) 93 (by simp) (by decide) (by decide) ⟨_, rfl, by unfold InI; dsimp only; omega, h3⟩
  have h5 := Rd.lit1 (R := rTb) (S := fun _ => True) (x := ⟨[116], 7, false, [[97]], [⟨[⟨false, []⟩], 0⟩]⟩) (cells := [.string ⟨#[116]⟩, .int .i64 7, .bool false, .slice (some ⟨w.heap.size + 1, 0, none⟩) 1 1, .slice (some ⟨w.heap.size + 1 + 1 + 1, 0, none⟩) 1 1]) (n := w.heap.size + 1 + 1 + 1 + 1) 42 (by simp) (by decide) (by decide)
    ⟨_, _, rfl, by decide, by unfold InI; decide, Rd.alloc (Rd.alloc h2 _) _, h4⟩
  exact ⟨_, _, rfl, Rd.alloc (Rd.alloc (Rd.alloc (Rd.alloc h1 _) _) _) _, h5⟩

theorem Ask_at {S T : Nat → Prop} {bs : List Value} {b : Bk} {u : Value} {ns : List Int} {l : List An} {r : Int} (w : World) (hl : rBk.rel w S bs b) (hn : (rSl rInt).rel w T [u] ns) (h : askB b ns = (l, r)) :
    Calls Tryz.prog 12 #[.agg bs.toArray, u] w fun e w' => ∃ A c S', e = .returned (.tuple #[.slice A l.length c, .int .i64 r]) ∧ (rSl rAn).rel w' S' [.slice A l.length c] l ∧ Below w.heap.size w w' := by
  refine (Ask_any w hl hn).mono ?_
  rintro e w' ⟨z, S', he, hz, hb⟩
  rw [h] at he hz
  obtain ⟨A, c, rfl, _⟩ := rSl.elems hz
  exact ⟨A, c, S', he, hz, hb⟩

set_option maxHeartbeats 800000 in
theorem booksLaw_any (w : World) : Calls Tryz.prog 31 #[] w fun e w' => e = .returned (.bool true) ∧ Below w.heap.size w w' := by
  have hl := lit_bk w
  obtain ⟨W0, e0, hl0, hb0, hs0⟩ : ∃ W0, ((((w.alloc (.cells #[.string ⟨#[97]⟩, .int .i64 0, .int .i64 9] 44)).alloc (.cells #[.string ⟨#[97]⟩] 9)).alloc (.cells #[.bool false, .slice none 0 0] 97)).alloc
    (.cells #[.slice (some ⟨w.heap.size + 1 + 1, 0, none⟩) 1 1, .int .i64 0] 93)).alloc (.cells #[.string ⟨#[116]⟩, .int .i64 7, .bool false, .slice (some ⟨w.heap.size + 1, 0, none⟩) 1 1, .slice (some ⟨w.heap.size + 1 + 1 + 1, 0, none⟩) 1 1] 42) = W0 ∧
      rBk.rel W0 (fun _ => True) [.slice (some ⟨w.heap.size, 0, none⟩) 1 1, .slice (some ⟨w.heap.size + 1 + 1 + 1 + 1, 0, none⟩) 1 1] bkEx ∧ Below w.heap.size w W0 ∧ W0.heap.size = w.heap.size + 1 + 1 + 1 + 1 + 1 :=
    ⟨_, rfl, hl, ((((((Below.refl _ _).alloc (Nat.le_refl _) _).alloc (by simp) _).alloc (by simp; omega) _).alloc (by simp; omega) _).alloc (by simp; omega) _), by simp⟩
  clear hl
  obtain ⟨W1, e1, HL1, HB1, c0, c1, hs1⟩ : ∃ W1, W0.alloc (.cells #[.slice (some ⟨w.heap.size, 0, none⟩) 1 1, .slice (some ⟨w.heap.size + 1 + 1 + 1 + 1, 0, none⟩) 1 1] 33) = W1 ∧
      Hid (rBk.rel W1 (fun _ => True) [.slice (some ⟨w.heap.size, 0, none⟩) 1 1, .slice (some ⟨w.heap.size + 1 + 1 + 1 + 1, 0, none⟩) 1 1] bkEx) ∧ Hid (Below w.heap.size w W1) ∧
      W1.cell? ⟨w.heap.size + 1 + 1 + 1 + 1 + 1, 0, none⟩ = some (.slice (some ⟨w.heap.size, 0, none⟩) 1 1) ∧ W1.cell? ⟨w.heap.size + 1 + 1 + 1 + 1 + 1, 1, none⟩ = some (.slice (some ⟨w.heap.size + 1 + 1 + 1 + 1, 0, none⟩) 1 1) ∧ W1.heap.size = w.heap.size + 1 + 1 + 1 + 1 + 1 + 1 :=
    ⟨_, rfl, Lib.hid (Rd.alloc hl0 _), Lib.hid (hb0.alloc hb0.size _), by rw [← hs0]; exact World.cell?_alloc_new _ _ _ _, by rw [← hs0]; exact World.cell?_alloc_new _ _ _ _, by simp [hs0]⟩
  obtain ⟨W2, e2, HL2, HB2, HN2⟩ : ∃ W2, W1.alloc (.cells #[.int .i64 4] 3) = W2 ∧ Hid (rBk.rel W2 (fun _ => True) [.slice (some ⟨w.heap.size, 0, none⟩) 1 1, .slice (some ⟨w.heap.size + 1 + 1 + 1 + 1, 0, none⟩) 1 1] bkEx) ∧ Hid (Below w.heap.size w W2) ∧ Hid ((rSl rInt).rel W2 (fun _ => True) [.slice (some ⟨w.heap.size + 1 + 1 + 1 + 1 + 1 + 1, 0, none⟩) 1 1] [4]) :=
    ⟨_, rfl, Lib.hid (Rd.alloc HL1.out _), Lib.hid (HB1.out.alloc HB1.out.size _), Lib.hid (Rd.lit1 (R := rInt) (w := W1) (S := fun _ => True) (x := 4) (cells := [.int .i64 4]) (n := w.heap.size + 1 + 1 + 1 + 1 + 1 + 1) 3 hs1 (by decide) (by decide) ⟨rfl, by unfold InI; omega⟩)⟩
  have HC := Lib.hid (Ask_at W2 HL2.out HN2.out ask_ex)
  clear hl0 hb0
  go_enter Tryz.func31, Tryz.ntmps31
  go_wp2_with (first | (go_at_call 12; go_must ((with_reducible refine HC.out.mono ?_); rintro e w3 ⟨A3, c3, S3, rfl, hz, hb3⟩; obtain ⟨b3, o3, es, rfl, _, hb4, ⟨rfl, _⟩, hce⟩ := (let ⟨_, _, hv, _, _, _, hE⟩ := hz; (show Elems rAn w3 S3 A3 _ by injection hv with hv _; injection hv with hv _ _; rw [hv]; exact hE)) 0 _ rfl; have k0 := hce 0 _ rfl; have k1 := hce 1 _ rfl; have k2 := hce 2 _ rfl; simp only [Nat.zero_mul, Nat.add_zero] at k0 k1 k2; have HB3 := Lib.hid (HB2.out.trans (hb3.mono HB2.out.size)); clear hz hb3 hce hb4)))
  go_ret
  exact ⟨rfl, HB3.out⟩

end Go.Proofs.YtlopccnehgolnabGreatDoor
