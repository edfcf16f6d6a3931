
/- From a law's arguments, as the row reads them, to what the walks are told: every kind of data. No program is named. -/
import Derived.Test.YtlopccnehgolnabDoorBase
import Derived.Test.YtlopccnehgolnabDoorFrame
import Derived.Deep.Slices
namespace Go.Proofs.YtlopccnehgolnabDoor
open Go.ChangeShapes Go.WideShapes Go.ChangeAt Go.RowKit Go.Deep

/-- Whatever the row reads at type t is a datum of R; each part within the form's reach. -/
def Opens {α : Type} (P : Program) (R : Rd α) (t : TypeId) : Prop :=
  ∀ {H : Type} (enc : TypeId × Value → H) (w : World) (base : Nat) (sp : Nat → Bool) (held : Bool) (fuel : Nat) (cs : List Value) (x : DataW H × List MemPlace),
    DataW.trod enc P w base sp held fuel t cs = some x → (∀ n ∈ x.1.weights P t, n ≤ reachBytes) → ∃ a, R.rel w (fun _ => True) cs a

section
variable {α β : Type} {P : Program} {R : Rd α} {T : Rd β} {t e : TypeId}

theorem Opens.int (ht : P.underlying t = some (.int .i64)) : Opens P rInt t := by
  intro H enc w base sp held fuel cs x h _
  obtain ⟨n, rfl, _, hw⟩ := DataW.trod_int ht h
  refine ⟨n, rfl, ?_⟩
  simp only [Lit.wf, Bool.and_eq_true, decide_eq_true_eq, IntKind.min, IntKind.max, IntKind.signed, IntKind.bits] at hw
  unfold InI
  simp at hw
  omega

theorem Opens.bool (ht : P.underlying t = some .bool) : Opens P rBool t := by
  intro H enc w base sp held fuel cs x h _
  obtain ⟨b, rfl, _⟩ := DataW.trod_bool ht h
  exact ⟨b, rfl⟩

theorem Opens.str (ht : P.underlying t = some .string) : Opens P rStr t := by
  intro H enc w base sp held fuel cs x h hn
  obtain ⟨s, rfl, hx, hw⟩ := DataW.trod_string ht h
  refine ⟨s.data.toList, by simp, ?_⟩
  have := hn s.data.toList.length (by rw [hx]; simp [DataW.weights])
  unfold reachBytes at this
  omega

theorem weights_all_mem {H : Type} : ∀ {l : List (DataW H)} {d : DataW H}, d ∈ l → ∀ n ∈ d.weights P e, n ∈ DataW.weightsAll P e l
  | x :: l, d, hd, n, hn => by
    simp only [DataW.weightsAll, List.mem_append]
    rcases List.mem_cons.1 hd with rfl | hd
    · exact .inl hn
    · exact .inr (weights_all_mem hd n hn)

theorem Opens.slice (ht : P.underlying t = some (.slice e)) (hk : P.cellsOf e = R.k) (hk0 : 0 < R.k) (hb : P.bytesOf e = R.bytes) (hR : Opens P R e) : Opens P (rSl R) t := by
  intro H enc w base sp held fuel cs x h hn
  rcases open_slice ht h with ⟨rfl, _⟩ | ⟨a, len, cap, m, n, D, Pl, rfl, _, hl, hm, hmm, hx, hi⟩
  · exact ⟨[], none, 0, rfl, Nat.le_refl _, by decide, by simp, fun i x hx => by simp at hx⟩
  · have hmlen : len ≤ m := by rw [hmm]; split <;> omega
    have hw1 : len * R.bytes ≤ 140737488355328 := by
      have := hn ((((List.range len).map D).length + ((List.range (m - len)).map fun j => D (len + j)).length) * P.bytesOf e) (by rw [hx]; simp [DataW.weights, ht])
      rw [hb] at this
      simp only [List.length_map, List.length_range] at this
      have h2 : len * R.bytes ≤ (len + (m - len)) * R.bytes := Nat.mul_le_mul_right _ (by omega)
      unfold reachBytes at this
      omega
    have key : ∀ i, i < len → ∃ (b off : Nat) (es : List Value) (y : α), a = ⟨b, off, none⟩ ∧ b < w.heap.size ∧ R.rel w (fun _ => True) es y ∧ ∀ j u, es[j]? = some u → w.cell? ⟨b, off + i * R.k + j, none⟩ = some u := by
      intro i hil
      obtain ⟨cs', hc, htr⟩ := hi i (by omega)
      obtain ⟨_, hlen, hcell⟩ := World.cells?_some hc
      have hwt : ∀ n ∈ (D i).weights P e, n ≤ reachBytes := fun n hn' => by
        refine hn n ?_
        rw [hx]
        simp only [DataW.weights, ht, List.mem_cons, List.mem_append]
        exact .inr (.inl (weights_all_mem (List.mem_map.2 ⟨i, by simp [hil], rfl⟩) n hn'))
      obtain ⟨y, hy⟩ := hR enc w base sp held n cs' _ htr hwt
      have hl' : cs'.length = R.k := by rw [hlen, hk]
      have h0 : w.cell? ((a.add (i * P.cellsOf e)).add 0) = some (cs'[0]'(by omega)) := by
        rw [hcell 0 (by omega)]; exact List.getElem?_eq_getElem (by omega)
      obtain ⟨b, off, spot⟩ := a
      have hspot : spot = none := by
        by_cases hz : i * P.cellsOf e = 0
        · have := World.cell?_spot h0
          simpa [Addr.add, hz] using this
        · have h00 : 0 < i := Nat.pos_of_ne_zero (fun h => hz (by rw [h, Nat.zero_mul]))
          obtain ⟨cs0, hc0, _⟩ := hi 0 (by omega)
          obtain ⟨_, hlen0, hcell0⟩ := World.cells?_some hc0
          have h1 := hcell0 0 (by omega)
          rw [List.getElem?_eq_getElem (by omega)] at h1
          have := World.cell?_spot h1
          simpa [Addr.add] using this
      subst hspot
      have hadd : ∀ p q : Nat, ((⟨b, off, none⟩ : Addr).add p).add q = ⟨b, off + p + q, none⟩ := by
        intro p q; unfold Addr.add; split <;> split <;> simp_all
      refine ⟨b, off, cs', y, rfl, ?_, hy, fun j u hu => ?_⟩
      · have := World.block_lt_of_cell? w _ h0
        rw [hadd] at this
        exact this
      · have hj : j < R.k := by
          have := (List.getElem?_eq_some_iff.1 hu).1; omega
        have := hcell j (by omega)
        rw [hadd, hk] at this
        rw [this]; exact hu
    have pick : ∀ n, n ≤ len → ∃ ys : List α, ys.length = n ∧ ∀ i y, ys[i]? = some y → ∃ (b off : Nat) (es : List Value), a = ⟨b, off, none⟩ ∧ b < w.heap.size ∧ R.rel w (fun _ => True) es y ∧ ∀ j u, es[j]? = some u → w.cell? ⟨b, off + i * R.k + j, none⟩ = some u := by
      intro n
      induction n with
      | zero => intro _; exact ⟨[], rfl, fun i y hy => by simp at hy⟩
      | succ n ih =>
        intro hn'
        obtain ⟨ys, h1, h2⟩ := ih (by omega)
        obtain ⟨b, off, es, y, h3, h4, h5, h6⟩ := key n (by omega)
        refine ⟨ys ++ [y], by simp [h1], fun i z hz => ?_⟩
        rcases Nat.lt_or_ge i ys.length with hi' | hi'
        · rw [List.getElem?_append_left hi'] at hz
          exact h2 i z hz
        · have : i = n := by
            have := (List.getElem?_eq_some_iff.1 hz).1
            simp at this; omega
          subst this
          rw [← h1] at hz
          obtain rfl : y = z := by simpa using hz
          exact ⟨b, off, es, h3, h4, h5, h6⟩
    obtain ⟨ys, h1, h2⟩ := pick len (Nat.le_refl _)
    refine ⟨ys, some a, cap, by rw [h1], by omega, hm, by rw [h1]; exact hw1, fun i y hy => ?_⟩
    obtain ⟨b, off, es, h3, h4, h5, h6⟩ := h2 i y hy
    exact ⟨b, off, es, by rw [h3], trivial, h4, h5, h6⟩

theorem weights_each_mem {H : Type} : ∀ {ts : List TypeId} {ds : List (DataW H)} {j : Nat} {t : TypeId} {d : DataW H}, ts[j]? = some t → ds[j]? = some d → ∀ n ∈ d.weights P t, n ∈ DataW.weightsEach P ts ds :=
  fun ht hd n hn => DataW.weights_mem_each ht hd n hn

/-- One field of a struct: its reading, and that its parts are within the reach. -/
theorem Opens.field {H : Type} {enc : TypeId × Value → H} {w : World} {base : Nat} {sp : Nat → Bool} {held : Bool} {fuel : Nat} {cs : List Value} {x : DataW H × List MemPlace} {fs : Array Field}
    (ht : P.underlying t = some (.struct fs)) (h : DataW.trod enc P w base sp held fuel t cs = some x) (hn : ∀ n ∈ x.1.weights P t, n ≤ reachBytes) {j : Nat} {f : Field} (hf : fs[j]? = some f) (hR : Opens P R f.type) :
    ∃ a, R.rel w (fun _ => True) ((cs.drop f.offset).take (P.cellsOf f.type)) a := by
  obtain ⟨xs, n, _, hx, _, hl, hat⟩ := DataW.trod_struct ht h
  have hj : j < xs.length := by rw [hl]; exact (Array.getElem?_eq_some_iff.1 hf).1
  have h1 := hat j f hf
  rw [List.getElem?_eq_getElem hj] at h1
  refine hR enc w base sp held n _ _ h1 fun k hk => hn k ?_
  rw [hx]
  simp only [DataW.weights, ht]
  refine weights_each_mem (j := j) (t := f.type) (d := xs[j].1) ?_ ?_ k hk
  · simp [hf]
  · simp [hj]

theorem struct_len {H : Type} {enc : TypeId × Value → H} {w : World} {base : Nat} {sp : Nat → Bool} {held : Bool} {fuel : Nat} {cs : List Value} {x : DataW H × List MemPlace} {fs : Array Field}
    (ht : P.underlying t = some (.struct fs)) (h : DataW.trod enc P w base sp held fuel t cs = some x) : cs.length = P.cellsOf t := by
  obtain ⟨xs, n, _, hx, hc, hl, hat⟩ := DataW.trod_struct ht h
  exact hc

/-- A parameter of a law. -/
theorem Opens.arg {H : Type} {enc : TypeId × Value → H} (hR : Opens P R t) {ts : List TypeId} {ds : List (DataW H)} {j : Nat} {W : World} {v : Value} {d : DataW H} {p : List MemPlace} {base : Nat} {sp : Nat → Bool} {held : Bool}
    (hwt : (DataW.weightsEach P ts ds).all (· ≤ reachBytes) = true) (ht : ts[j]? = some t) (hd : ds[j]? = some d) (h : DataW.Trod enc P W base sp held t v d p) : ∃ a, R.rel W (fun _ => True) v.cells.toList a := by
  obtain ⟨fuel, hf⟩ := h
  refine hR enc W base sp held fuel _ _ hf fun n hn => ?_
  have := List.all_eq_true.1 hwt n (weights_each_mem ht hd n hn)
  simpa using this
end
end Go.Proofs.YtlopccnehgolnabDoor
