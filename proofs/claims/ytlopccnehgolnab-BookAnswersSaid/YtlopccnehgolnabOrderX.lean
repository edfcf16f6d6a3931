/- The contract of free: does a table hang on none but those that are placed? The contract of Order. The plain law of Order: all tables, each behind those that it hangs on. -/
import Derived.Test.YtlopccnehgolnabBookAX
import Derived.Test.YtlopccnehgolnabBox
namespace Go.Proofs.Ytlopccnehgolnab
open Go.RowKit Rb

def hangs (b : Bk) (placed : List Txt) (s : Txt) : Bool := (findT b.tabs s).isSome && !placed.contains s
def freeB (b : Bk) (t : Tb) (placed : List Txt) : Bool := !t.ins.any (hangs b placed)

def idxP {α : Type} (p : α → Bool) (l : List α) : Int := match l.findIdx? p with | some i => i | none => -1
theorem idxP_hit {α : Type} {p : α → Bool} {l : List α} {k : Nat} {x : α} (hk : l[k]? = some x) (h0 : (l.take k).any p = false) (h : p x = true) : idxP p l = k := by
  obtain ⟨hlt, rfl⟩ := List.getElem?_eq_some_iff.1 hk
  have hf : l.findIdx? p = some k := by
    rw [List.findIdx?_eq_some_iff_getElem]
    refine ⟨hlt, h, fun j hj => ?_⟩
    have hj' : l[j]'(by omega) ∈ l.take k := by
      rw [List.mem_take_iff_getElem]
      exact ⟨j, by omega, rfl⟩
    have := List.any_eq_false.1 h0 _ hj'
    simpa using this
  unfold idxP; rw [hf]
theorem idxP_miss {α : Type} {p : α → Bool} {l : List α} (h : l.any p = false) : idxP p l = -1 := by
  have hf : l.findIdx? p = none := by
    rw [List.findIdx?_eq_none_iff]
    intro x hx
    have := List.any_eq_false.1 h x hx
    simpa using this
  unfold idxP; rw [hf]
theorem idxP_cases {α : Type} (p : α → Bool) (l : List α) : decide (0 ≤ idxP p l) = l.any p := by
  cases hh : l.any p
  · rw [idxP_miss hh]; rfl
  · unfold idxP
    cases hq : l.findIdx? p with
    | some i => simp
    | none =>
      rw [List.findIdx?_eq_none_iff] at hq
      rw [List.any_eq_true] at hh
      obtain ⟨x, hx, hm⟩ := hh
      rw [hq x hx] at hm; cases hm
theorem any_take {α : Type} {p : α → Bool} {l : List α} {k : Nat} {x : α} (h : l[k]? = some x) : (l.take (k + 1)).any p = ((l.take k).any p || p x) := by
  rw [take_getElem? h, List.any_append]; simp

/-- A book and a list of names, held in two variables. -/
structure Held (w : World) (S T : Nat → Prop) (pb pp : Nat) (b : Bk) (placed : List Txt) (A B P : Option Addr) (c d e : Nat) : Prop where
  c0 : w.cell? ⟨pb, 0, none⟩ = some (.slice A b.doms.length c)
  c1 : w.cell? ⟨pb, 1, none⟩ = some (.slice B b.tabs.length d)
  c2 : w.cell? ⟨pp, 0, none⟩ = some (.slice P placed.length e)
  rb : rBk.rel w S [.slice A b.doms.length c, .slice B b.tabs.length d] b
  rp : (rSl rStr).rel w T [.slice P placed.length e] placed
theorem Held.below {w w' : World} {S T : Nat → Prop} {pb pp : Nat} {b : Bk} {placed : List Txt} {A B P : Option Addr} {c d e : Nat} (h : Held w S T pb pp b placed A B P c d e) (hb : Below w.heap.size w w') : Held w' S T pb pp b placed A B P c d e where
  c0 := (hb.cell (p := ⟨pb, 0, none⟩) (World.block_lt_of_cell? _ _ h.c0)).trans h.c0
  c1 := (hb.cell (p := ⟨pb, 1, none⟩) (World.block_lt_of_cell? _ _ h.c1)).trans h.c1
  c2 := (hb.cell (p := ⟨pp, 0, none⟩) (World.block_lt_of_cell? _ _ h.c2)).trans h.c2
  rb := Rd.below h.rb hb
  rp := Rd.below h.rp hb

theorem Contains_b {S : Nat → Prop} {v : Value} {l : List Txt} {s : Txt} {r : Bool} (w : World) (hl : (rSl rStr).rel w S [v] l) (h : l.contains s = r) :
    Calls Try.prog 23 #[v, .string ⟨s.toArray⟩] w fun e w' => e = .returned (.bool r) ∧ w = w' := h ▸ Contains_any s w hl

set_option maxRecDepth 100000 in
set_option maxHeartbeats 800000 in
theorem FreeFn_any {w : World} {S T : Nat → Prop} {pb pp : Nat} {b : Bk} {placed : List Txt} {A B P : Option Addr} {c d e : Nat} (H : Held w S T pb pp b placed A B P c d e) (s : Txt) (hs : s.length ≤ 140737488355328) :
    Calls Try.prog 51 #[.string ⟨s.toArray⟩, .pointer (some ⟨pb, 0, none⟩), .pointer (some ⟨pp, 0, none⟩)] w fun e w' => e = .returned (.bool (hangs b placed s)) ∧ Below w.heap.size w w' := by
  have c0 := H.c0
  have c1 := H.c1
  have HH := Lib.hid H
  obtain ⟨tb, htb⟩ : ∃ x, tbOf (findT b.tabs s) = x := ⟨_, rfl⟩
  obtain ⟨ft, hft⟩ : ∃ x, (findT b.tabs s).isSome = x := ⟨_, rfl⟩
  obtain ⟨fc, hfc⟩ : ∃ x, placed.contains s = x := ⟨_, rfl⟩
  have HR : Hid (hangs b placed s = (ft && !fc)) := Lib.hid (by unfold hangs; rw [hft, hfc])
  have q3 := Lib.hid htb
  have q4 := Lib.hid hft
  have q5 := Lib.hid hfc
  clear htb hft hfc H
  cases ft
  all_goals
    go_enter Try.func51, Try.ntmps51
    go_wp2_with (first | (go_at_call 21; go_must ((with_reducible refine (FindTable_at w HH.out.rb hs q3.out q4.out).mono ?_); rintro e w4 ⟨A5, c5, B5, d5, S5, rfl, hr5, hb4⟩; obtain ⟨W5, e5, HH5, c2, HB5⟩ : ∃ W5, w4.alloc (.cells #[.string ⟨tb.name.toArray⟩, .int .i64 tb.pol, .bool tb.comp, .slice A5 tb.ins.length c5, .slice B5 tb.rules.length d5] 25) = W5 ∧ Hid (Held W5 S T pb pp b placed A B P c d e) ∧ W5.cell? ⟨pp, 0, none⟩ = some (.slice P placed.length e) ∧ Hid (Below w.heap.size w W5) := ⟨_, rfl, Lib.hid (HH.out.below (hb4.alloc hb4.size _)), (HH.out.below (hb4.alloc hb4.size _)).c2, Lib.hid (hb4.alloc hb4.size _)⟩; clear hr5)) | (go_at_call 23; go_must ((with_reducible refine (Contains_b W5 HH5.out.rp q5.out).mono ?_); rintro e w6 ⟨rfl, rfl⟩)))
    go_ret
    exact ⟨by rw [HR.out]; rfl, HB5.out⟩

theorem FreeFn_b {w : World} {S T : Nat → Prop} {pb pp : Nat} {b : Bk} {placed : List Txt} {A B P : Option Addr} {c d e : Nat} {s : Txt} {r : Bool} (H : Held w S T pb pp b placed A B P c d e) (hs : s.length ≤ 140737488355328) (h : hangs b placed s = r) :
    Calls Try.prog 51 #[.string ⟨s.toArray⟩, .pointer (some ⟨pb, 0, none⟩), .pointer (some ⟨pp, 0, none⟩)] w fun e w' => e = .returned (.bool r) ∧ Below w.heap.size w w' := h ▸ FreeFn_any H s hs

set_option maxRecDepth 100000 in
set_option maxHeartbeats 800000 in
theorem FreeIndex_any {w : World} {S T U : Nat → Prop} {pb pp : Nat} {b : Bk} {placed ins : List Txt} {A B P : Option Addr} {c d e : Nat} {v : Value} (H : Held w S T pb pp b placed A B P c d e) (hl : (rSl rStr).rel w U [v] ins) :
    Calls Try.prog 57 #[v, .func (.func 51) #[] #[.pointer (some ⟨pb, 0, none⟩), .pointer (some ⟨pp, 0, none⟩)]] w fun e w' => e = .returned (.int .i64 (idxP (hangs b placed) ins)) ∧ Below w.heap.size w w' := by
  have hal := rSl.lenle hl (by decide)
  obtain ⟨C, g, rfl, _, _, _, hE⟩ := rSl.elems hl
  have HH := Lib.hid H
  clear hl H
  go_enter Try.func57, Try.ntmps57
  go_wp2
  go_loopw [5, 8] (fun _ i wr => ∃ k : Nat, k ≤ ins.length ∧ i = .int .i64 k ∧ Hid ((ins.take k).any (hangs b placed) = false) ∧ Below w.heap.size w wr) (fun _ i _ => ins.length - (intOf i).toNat)
  case atStart => exact ⟨0, Nat.zero_le _, rfl, Lib.hid (by simp), Below.refl _ _⟩
  case round =>
    obtain ⟨k, hk, rfl, HS, hbl⟩ := hrel
    by_cases hlt : k < ins.length
    · obtain ⟨q, off, x, rfl, _, hq, hx, hxl, h1⟩ := hE.str hlt
      rw [← hbl.cell (p := ⟨q, _, none⟩) hq] at h1
      have HX := Lib.hid hx
      have HW := Lib.hid (HH.out.below hbl)
      have hi : (k : Int) < (ins.length : Int) := by omega
      clear hx hE
      cases hh : hangs b placed x
      · have HC := Lib.hid hh
        have HS' : Hid ((ins.take (k + 1)).any (hangs b placed) = false) := Lib.hid (by rw [any_take HX.out, HS.out, hh]; rfl)
        clear hh
        go_wp2_with (first | (go_at_call 51; go_must ((with_reducible refine (FreeFn_b HW.out hxl HC.out).mono ?_); rintro e w' ⟨rfl, hw⟩)))
        go_roundw
        case rel => exact ⟨k + 1, by omega, by go_num, HS', hbl.trans (hw.mono hbl.size)⟩
        case measure => simp [intOf]; omega
      · have HC := Lib.hid hh
        have HF : Hid (idxP (hangs b placed) ins = k) := Lib.hid (idxP_hit HX.out HS.out hh)
        clear hh
        go_wp2_with (first | (go_at_call 51; go_must ((with_reducible refine (FreeFn_b HW.out hxl HC.out).mono ?_); rintro e w' ⟨rfl, hw⟩)))
        go_ret
        exact ⟨ret_int HF.out.symm, hbl.trans (hw.mono hbl.size)⟩
    · go_wp2
      go_ret
      exact ⟨ret_int (idxP_miss (by have := HS.out; rwa [List.take_of_length_le (by omega)] at this)).symm, hbl⟩

theorem FreeContains_any {w : World} {S T U : Nat → Prop} {pb pp : Nat} {b : Bk} {placed ins : List Txt} {A B P : Option Addr} {c d e : Nat} {v : Value} (H : Held w S T pb pp b placed A B P c d e) (hl : (rSl rStr).rel w U [v] ins) :
    Calls Try.prog 50 #[v, .func (.func 51) #[] #[.pointer (some ⟨pb, 0, none⟩), .pointer (some ⟨pp, 0, none⟩)]] w fun e w' => e = .returned (.bool (ins.any (hangs b placed))) ∧ Below w.heap.size w w' := by
  have HI := Lib.hid (FreeIndex_any H hl)
  have HD := Lib.hid (idxP_cases (hangs b placed) ins)
  clear hl H
  go_enter Try.func50, Try.ntmps50
  go_wp2_with (first | (go_at_call 57; refine HI.out.mono ?_; rintro e w' ⟨rfl, hw⟩))
  go_ret
  exact ⟨ret_bool HD.out, hw⟩

set_option maxRecDepth 100000 in
set_option maxHeartbeats 800000 in
theorem free_any {S T U : Nat → Prop} {bs cs : List Value} {b : Bk} {t : Tb} {v : Value} {placed : List Txt} (w : World) (hb : rBk.rel w S bs b) (ht : rTb.rel w T cs t) (hp : (rSl rStr).rel w U [v] placed) :
    Calls Try.prog 37 #[.agg bs.toArray, .agg cs.toArray, v] w fun e w' => e = .returned (.bool (freeB b t placed)) ∧ Below w.heap.size w w' := by
  have hb' := hb
  obtain ⟨v0, u0, rfl, hd, htb⟩ := hb
  obtain ⟨A, c, rfl, _⟩ := rSl.elems hd
  obtain ⟨B, d, rfl, _⟩ := rSl.elems htb
  obtain ⟨vi, vr, rfl, _, _, hi, hr⟩ := ht
  obtain ⟨I, ic, rfl, _⟩ := rSl.elems hi
  obtain ⟨R, rc, rfl, _⟩ := rSl.elems hr
  obtain ⟨P, e, rfl, _⟩ := rSl.elems hp
  obtain ⟨W, eW, HB, k3, HH, HI⟩ : ∃ W, ((w.alloc (.cells #[.slice A b.doms.length c, .slice B b.tabs.length d] 46)).alloc (.cells #[.string ⟨t.name.toArray⟩, .int .i64 t.pol, .bool t.comp, .slice I t.ins.length ic, .slice R t.rules.length rc] 25)).alloc (.cells #[.slice P placed.length e] 22) = W ∧ Hid (Below w.heap.size w W) ∧
      W.cell? ⟨w.heap.size + 1, 3, none⟩ = some (.slice I t.ins.length ic) ∧ Hid (Held W S U w.heap.size (w.heap.size + 1 + 1) b placed A B P c d e) ∧ Hid ((rSl rStr).rel W T [.slice I t.ins.length ic] t.ins) := by
    have s1 : (w.alloc (.cells #[.slice A b.doms.length c, .slice B b.tabs.length d] 46)).heap.size = w.heap.size + 1 := by simp
    have s2 : ((w.alloc (.cells #[.slice A b.doms.length c, .slice B b.tabs.length d] 46)).alloc (.cells #[.string ⟨t.name.toArray⟩, .int .i64 t.pol, .bool t.comp, .slice I t.ins.length ic, .slice R t.rules.length rc] 25)).heap.size = w.heap.size + 1 + 1 := by simp
    refine ⟨_, rfl, Lib.hid ((((Below.refl _ _).alloc (Nat.le_refl _) _).alloc (by simp) _).alloc (by simp; omega) _), ?_, Lib.hid ⟨?_, ?_, ?_, Rd.alloc (Rd.alloc (Rd.alloc hb' _) _) _, Rd.alloc (Rd.alloc (Rd.alloc hp _) _) _⟩, Lib.hid (Rd.alloc (Rd.alloc (Rd.alloc hi _) _) _)⟩
    · rw [World.cell?_alloc_lt _ _ _ (by rw [s2]; show w.heap.size + 1 < _; omega), ← s1]; exact World.cell?_alloc_new _ _ _ _
    · rw [World.cell?_alloc_lt _ _ _ (by rw [s2]; show w.heap.size < _; omega), World.cell?_alloc_lt _ _ _ (by rw [s1]; show w.heap.size < _; omega)]; exact World.cell?_alloc_new _ _ _ _
    · rw [World.cell?_alloc_lt _ _ _ (by rw [s2]; show w.heap.size < _; omega), World.cell?_alloc_lt _ _ _ (by rw [s1]; show w.heap.size < _; omega)]; exact World.cell?_alloc_new _ _ _ _
    · rw [← s2]; exact World.cell?_alloc_new _ _ _ _
  have HC := Lib.hid (FreeContains_any HH.out HI.out)
  clear hb' hd htb hi hr hp
  go_enter Try.func37, Try.ntmps37
  go_wp2_with (first | (go_at_call 50; go_must ((with_reducible refine HC.out.mono ?_); rintro e w' ⟨rfl, hw⟩)))
  go_ret
  exact ⟨rfl, HB.out.trans (hw.mono HB.out.size)⟩

end Go.Proofs.Ytlopccnehgolnab

namespace Go.Proofs.Ytlopccnehgolnab
open Go.RowKit Rb

def nextT (b : Bk) (out : List Txt) : Option Tb := b.tabs.find? fun t => !out.contains t.name && freeB b t out
def orderGo (b : Bk) : Nat → List Txt → Option (List Txt)
  | 0, out => some out
  | n + 1, out => match nextT b out with | some t => orderGo b n (out ++ [t.name]) | none => none
def orderB (b : Bk) : Option (List Txt) := orderGo b b.tabs.length []
def lenV (v : Value) : Nat := match v with | .slice _ n _ => n | _ => 0

theorem el_Str : ElemOf Try.prog rStr 22 9 := .mk' Try.underlying22 (z := .string ⟨#[]⟩) (k := 1) (b := 16) (by kernel_rfl) rfl rfl rfl (by decide) (by decide)

theorem free_at {S T U : Nat → Prop} {bs cs : List Value} {b : Bk} {t : Tb} {v : Value} {placed : List Txt} {r : Bool} (w : World) (hb : rBk.rel w S bs b) (ht : rTb.rel w T cs t) (hp : (rSl rStr).rel w U [v] placed) (h : freeB b t placed = r) :
    Calls Try.prog 37 #[.agg bs.toArray, .agg cs.toArray, v] w fun e w' => e = .returned (.bool r) ∧ Below w.heap.size w w' := h ▸ free_any w hb ht hp

set_option maxRecDepth 100000 in
set_option maxHeartbeats 800000 in
theorem Order_any {S : Nat → Prop} {bs : List Value} {b : Bk} (w : World) (hl : rBk.rel w S bs b) :
    Calls Try.prog 20 #[.agg bs.toArray] w fun e w' => ∃ z, e = .returned (.tuple #[z, .bool (orderB b).isSome]) ∧ (rSl rStr).rel w' (Up (fun _ => False) w.heap.size) [z] ((orderB b).getD []) ∧ Below w.heap.size w w' := by
  have hl' := hl
  obtain ⟨v0, u0, rfl, hd, htb⟩ := hl
  obtain ⟨A, c, rfl, _⟩ := rSl.elems hd
  obtain ⟨B, d, rfl, _, _, hbt, hF⟩ := rSl.elems htb
  have hlt5 : b.tabs.length ≤ 1759218604441 := by simp only [rTb] at hbt; omega
  obtain ⟨W0, e0, hb0, c0, c1, hs0, HBK⟩ : ∃ W0, w.alloc (.cells #[.slice A b.doms.length c, .slice B b.tabs.length d] 46) = W0 ∧ Below w.heap.size w W0 ∧ W0.cell? ⟨w.heap.size, 0, none⟩ = some (.slice A b.doms.length c) ∧ W0.cell? ⟨w.heap.size, 1, none⟩ = some (.slice B b.tabs.length d) ∧ w.heap.size < W0.heap.size ∧ Hid (rBk.rel W0 S [.slice A b.doms.length c, .slice B b.tabs.length d] b) :=
    ⟨_, rfl, (Below.refl _ _).alloc (Nat.le_refl _) _, World.cell?_alloc_new _ _ _ _, World.cell?_alloc_new _ _ _ _, by simp, Lib.hid (Rd.alloc hl' _)⟩
  clear hl' hd htb hbt
  go_enter Try.func20, Try.ntmps20
  go_wp2
  clear e0
  go_loopw [4] (fun o wr => ∃ (out : List Txt) (n : Nat), Own rStr 9 wr W0.heap.size (fun _ => False) o out ∧ Hid (out.length + n = b.tabs.length) ∧ Hid (orderB b = orderGo b n out) ∧ Below W0.heap.size W0 wr) (fun o _ => b.tabs.length - lenV o)
  case atStart => exact ⟨[], b.tabs.length, Own.nil _ _ _ _ _, Lib.hid (by simp), Lib.hid rfl, Below.refl _ _⟩
  case round =>
    obtain ⟨out, n, hown, HN, HI, hb⟩ := hrel
    obtain ⟨Ao, co, rfl⟩ := hown.value
    have k1 := (hb.cell (p := ⟨w.heap.size, 1, none⟩) hs0).trans c1
    have hol : out.length ≤ b.tabs.length := by have := HN.out; omega
    by_cases hlt : out.length < b.tabs.length
    · have hil : (out.length : Int) < (b.tabs.length : Int) := by omega
      obtain ⟨m, hm⟩ : ∃ m, n = m + 1 := ⟨n - 1, by have := HN.out; omega⟩
      subst hm
      go_wp2
      obtain ⟨wq, hwq⟩ : ∃ x, x = wr := ⟨_, rfl⟩
      subst hwq
      go_loopw [4, 19] (fun o i wi => ∃ k : Nat, k ≤ b.tabs.length ∧ i = .int .i64 k ∧ o = .slice Ao out.length co ∧ Hid (nextT b out = (b.tabs.drop k).find? fun t => !out.contains t.name && freeB b t out) ∧ Hid (Below wq.heap.size wq wi)) (fun _ i _ => b.tabs.length - (intOf i).toNat)
      case atStart => exact ⟨0, Nat.zero_le _, rfl, rfl, Lib.hid rfl, Lib.hid (Below.refl _ _)⟩
      case round =>
        clear k1
        obtain ⟨k, hk, rfl, rfl, HK, HB⟩ := hrel
        have HBW := Lib.hid (hb.trans (HB.out.mono hb.size))
        by_cases hltk : k < b.tabs.length
        · obtain ⟨bB, off, x, A1, c1', A2, c2', rfl, hbB, hx, hr, g0, g1, g2, g3, g4⟩ := hF.tb hltk
          have hbw := hb0.trans (HBW.out.mono (Nat.le_of_lt hs0))
          rw [← hbw.cell (p := ⟨bB, _, none⟩) hbB] at g0 g1 g2 g3 g4
          have hik : (k : Int) < (b.tabs.length : Int) := by omega
          have HAT := Lib.hid (find_at (p := fun t : Tb => !out.contains t.name && freeB b t out) hx)
          have hxl : x.name.length ≤ 140737488355328 := by obtain ⟨_, _, _, h, _⟩ := hr; exact h
          obtain ⟨W3, e3, HB3, j0, j1, j2, j3, j4, q0, q1, HR3, HO3, hw3s⟩ : ∃ W3, wr.alloc (.cells #[.string ⟨x.name.toArray⟩, .int .i64 x.pol, .bool x.comp, .slice A1 x.ins.length c1', .slice A2 x.rules.length c2'] 25) = W3 ∧ Hid (Below W0.heap.size W0 W3) ∧ W3.cell? ⟨wr.heap.size, 0, none⟩ = some (.string ⟨x.name.toArray⟩) ∧ W3.cell? ⟨wr.heap.size, 1, none⟩ = some (.int .i64 x.pol) ∧ W3.cell? ⟨wr.heap.size, 2, none⟩ = some (.bool x.comp) ∧ W3.cell? ⟨wr.heap.size, 3, none⟩ = some (.slice A1 x.ins.length c1') ∧ W3.cell? ⟨wr.heap.size, 4, none⟩ = some (.slice A2 x.rules.length c2') ∧
              W3.cell? ⟨w.heap.size, 0, none⟩ = some (.slice A b.doms.length c) ∧ W3.cell? ⟨w.heap.size, 1, none⟩ = some (.slice (some ⟨bB, off, none⟩) b.tabs.length d) ∧ Hid (rTb.rel W3 S [.string ⟨x.name.toArray⟩, .int .i64 x.pol, .bool x.comp, .slice A1 x.ins.length c1', .slice A2 x.rules.length c2'] x) ∧ Hid (Own rStr 9 W3 W0.heap.size (fun _ => False) (.slice Ao out.length co) out) ∧ wr.heap.size < W3.heap.size :=
            ⟨_, rfl, Lib.hid (HBW.out.alloc HBW.out.size _), World.cell?_alloc_new _ _ _ _, World.cell?_alloc_new _ _ _ _, World.cell?_alloc_new _ _ _ _, World.cell?_alloc_new _ _ _ _, World.cell?_alloc_new _ _ _ _,
              ((HBW.out.alloc HBW.out.size _).cell (p := ⟨w.heap.size, 0, none⟩) hs0).trans c0, ((HBW.out.alloc HBW.out.size _).cell (p := ⟨w.heap.size, 1, none⟩) hs0).trans c1, Lib.hid (Rd.below hr (hbw.alloc hbw.size _)), Lib.hid ((hown.below HB.out).alloc _), by simp⟩
          have HBK3 := Lib.hid (Rd.below HBK.out HB3.out)
          clear hx hr
          obtain ⟨fc, hfc⟩ : ∃ r, out.contains x.name = r := ⟨_, rfl⟩
          obtain ⟨ff, hff⟩ : ∃ r, freeB b x out = r := ⟨_, rfl⟩
          have HST : Hid (nextT b out = if !fc && ff then some x else (b.tabs.drop (k + 1)).find? fun t => !out.contains t.name && freeB b t out) := Lib.hid (by rw [HK.out, HAT.out, ← hfc, ← hff])
          have qc := Lib.hid hfc
          have qf := Lib.hid hff
          clear hfc hff hbw
          have HBQ : Hid (Below wq.heap.size wq W3) := Lib.hid (by rw [← e3]; exact HB.out.alloc HB.out.size _)
          have HBY : Hid ((out.length + 1) * rStr.bytes ≤ 140737488355328) := Lib.hid (by show (_ + 1) * 16 ≤ _; omega)
          cases fc
          · cases ff
            · have HK' := Lib.hid (HST.out.trans (if_neg (by simp)))
              go_wp2_with (first | (go_at_call 23; go_must ((with_reducible refine (Contains_b W3 (HO3.out.rel (by decide)) qc.out).mono ?_); rintro e w6 ⟨rfl, rfl⟩)) | (go_at_call 37; go_must ((with_reducible refine (free_at W3 HBK3.out HR3.out (HO3.out.rel (by decide)) qf.out).mono ?_); rintro e w7 ⟨rfl, hb7⟩; have r0 := (hb7.cell (p := ⟨wr.heap.size, 0, none⟩) hw3s).trans j0; have HO7 := Lib.hid (HO3.out.below hb7); have HB7 := Lib.hid (HB3.out.trans (hb7.mono HB3.out.size)))))
              go_roundw
              case rel => exact ⟨k + 1, by omega, by go_num, rfl, HK', Lib.hid (HBQ.out.trans (hb7.mono HBQ.out.size))⟩
              case measure => simp [intOf]; omega
            · have HNX : Hid (nextT b out = some x) := Lib.hid (HST.out.trans (if_pos rfl))
              have HI' : Hid (orderB b = orderGo b m (out ++ [x.name])) := Lib.hid (by rw [HI.out, orderGo, HNX.out])
              go_wp2_with (first | (go_at_call 23; go_must ((with_reducible refine (Contains_b W3 (HO3.out.rel (by decide)) qc.out).mono ?_); rintro e w6 ⟨rfl, rfl⟩)) | (go_at_call 37; go_must ((with_reducible refine (free_at W3 HBK3.out HR3.out (HO3.out.rel (by decide)) qf.out).mono ?_); rintro e w7 ⟨rfl, hb7⟩; have r0 := (hb7.cell (p := ⟨wr.heap.size, 0, none⟩) hw3s).trans j0; have HO7 := Lib.hid (HO3.out.below hb7); have HB7 := Lib.hid (HB3.out.trans (hb7.mono HB3.out.size)))) | (at_builtin; go_must (refine wpList_append_new (R := rStr) (x := x.name) el_Str rfl (.tmp 34) (.tmp 37) rfl rfl HO7.out [.string ⟨x.name.toArray⟩] rfl rfl (fun _ => False) ⟨rfl, hxl⟩ (fun _ h => h.elim) HBY.out HB7.out.size ?_); intro v9 w9 hown9 hb9 _ _; have HB9 := Lib.hid (HB7.out.trans hb9); have hown8 := hown9; obtain ⟨A9, c9, rfl⟩ := hown8.value))
              go_roundw
              case rel => exact ⟨out ++ [x.name], m, by simpa using hown9, Lib.hid (by have := HN.out; rw [List.length_append]; simp only [List.length_cons, List.length_nil]; omega), HI', HB9.out⟩
              case measure => simp [lenV]; omega
          · have HK' := Lib.hid (HST.out.trans (if_neg (by simp)))
            go_wp2_with (first | (go_at_call 23; go_must ((with_reducible refine (Contains_b W3 (HO3.out.rel (by decide)) qc.out).mono ?_); rintro e w6 ⟨rfl, rfl⟩)))
            go_roundw
            case rel => exact ⟨k + 1, by omega, by go_num, rfl, HK', HBQ⟩
            case measure => simp [intOf]; omega
        · have HNX : Hid (orderB b = none) := Lib.hid (by
            rw [HI.out, orderGo, HK.out, List.drop_eq_nil_of_le (by omega)]; rfl)
          clear hF
          go_wp2
          go_ret2
          exact ⟨_, by rw [HNX.out]; rfl, by rw [HNX.out]; exact ⟨none, 0, rfl, Nat.le_refl _, by decide, by simp, fun i x hx => by simp at hx⟩, hb0.trans (HBW.out.mono (Nat.le_of_lt hs0))⟩
    · have HQ : Hid (orderB b = some out) := Lib.hid (by
        have h0 := HN.out
        obtain rfl : n = 0 := by omega
        rw [HI.out]; rfl)
      have hil : ¬ (out.length : Int) < (b.tabs.length : Int) := by omega
      clear hF
      go_wp2
      go_ret2
      have hrel := Rd.upup (hown.rel (by decide)) (Nat.le_of_lt hs0)
      have hbl := hb0.trans (hb.mono (Nat.le_of_lt hs0))
      rw [HQ.out]
      exact ⟨_, rfl, hrel, hbl⟩

end Go.Proofs.Ytlopccnehgolnab

namespace Go.Proofs.Ytlopccnehgolnab
open Go.RowKit Rb

structure OrdI (b : Bk) (out : List Txt) : Prop where
  nodup : out.Nodup
  each : ∀ (i : Nat) (n : Txt), out[i]? = some n → ∃ t ∈ b.tabs, t.name = n ∧ ∀ s ∈ t.ins, (findT b.tabs s).isSome = true → s ∈ out.take i

theorem OrdI.nil (b : Bk) : OrdI b [] := ⟨List.nodup_nil, fun i n h => by simp at h⟩
theorem OrdI.step {b : Bk} {out : List Txt} {t : Tb} (I : OrdI b out) (h : nextT b out = some t) : OrdI b (out ++ [t.name]) := by
  have hm := List.mem_of_find?_eq_some h
  have hp := List.find?_some h
  simp only [Bool.and_eq_true, Bool.not_eq_true', List.contains_eq_mem, decide_eq_false_iff_not] at hp
  obtain ⟨h1, h2⟩ := hp
  refine ⟨?_, fun i n hi => ?_⟩
  · rw [List.nodup_append]
    refine ⟨I.nodup, by simp, fun a ha b' hb' => ?_⟩
    rw [List.mem_singleton] at hb'
    rintro rfl
    exact h1 (hb' ▸ ha)
  · rcases Nat.lt_or_ge i out.length with hlt | hge
    · rw [List.getElem?_append_left hlt] at hi
      obtain ⟨t', ht', hn, hs⟩ := I.each i n hi
      refine ⟨t', ht', hn, fun s hs' hsm => ?_⟩
      rw [List.take_append_of_le_length (by omega)]
      exact hs s hs' hsm
    · have hil : i < (out ++ [t.name]).length := (List.getElem?_eq_some_iff.1 hi).1
      rw [List.length_append] at hil
      simp only [List.length_cons, List.length_nil] at hil
      have hie : i = out.length := by omega
      subst hie
      simp at hi
      refine ⟨t, hm, hi, fun s hs hsm => ?_⟩
      rw [List.take_append_of_le_length (Nat.le_refl _), List.take_length]
      unfold freeB at h2
      rw [Bool.not_eq_true', List.any_eq_false] at h2
      have := h2 s hs
      unfold hangs at this
      rw [hsm] at this
      simpa using this
theorem orderGo_I {b : Bk} : ∀ (n : Nat) {out l : List Txt}, OrdI b out → orderGo b n out = some l → OrdI b l ∧ l.length = out.length + n
  | 0, out, l, I, h => by
    simp only [orderGo, Option.some.injEq] at h
    subst h
    exact ⟨I, rfl⟩
  | n + 1, out, l, I, h => by
    rw [orderGo] at h
    cases hn : nextT b out with
    | none => rw [hn] at h; cases h
    | some t =>
      rw [hn] at h
      have := orderGo_I n (I.step hn) h
      refine ⟨this.1, ?_⟩
      rw [this.2, List.length_append]
      simp only [List.length_cons, List.length_nil]
      omega

theorem pigeon : ∀ {l m : List Txt}, l.Nodup → (∀ x ∈ l, x ∈ m) → m.length ≤ l.length → ∀ y ∈ m, y ∈ l
  | [], m, _, _, h, y, hy => by
    rw [List.length_nil] at h
    rw [List.eq_nil_of_length_eq_zero (show m.length = 0 by omega)] at hy
    exact hy
  | x :: l, m, hn, hs, h, y, hy => by
    rw [List.nodup_cons] at hn
    have hxm := hs x (by simp)
    by_cases hyx : y = x
    · simp [hyx]
    · have := pigeon (l := l) (m := m.erase x) hn.2 (fun z hz => (List.mem_erase_of_ne (show z ≠ x from fun e => hn.1 (by rw [← e]; exact hz))).2 (hs z (by simp [hz])))
        (by rw [List.length_erase_of_mem hxm]; simp only [List.length_cons] at h; omega) y ((List.mem_erase_of_ne hyx).2 hy)
      simp [this]

/-- Each table stands in its place in the order, behind all that it hangs on. -/
theorem order_law {b : Bk} {l : List Txt} (hd : ∀ t ∈ b.tabs, ∀ u ∈ b.tabs, t.name = u.name → t = u) (h : orderB b = some l) :
    l.Nodup ∧ l.length = b.tabs.length ∧ ∀ t ∈ b.tabs, ∃ i : Nat, l[i]? = some t.name ∧ ∀ s ∈ t.ins, (findT b.tabs s).isSome = true → ∃ j : Nat, j < i ∧ l[j]? = some s := by
  obtain ⟨I, hl⟩ := orderGo_I b.tabs.length (OrdI.nil b) h
  rw [List.length_nil, Nat.zero_add] at hl
  refine ⟨I.nodup, hl, fun t ht => ?_⟩
  have hin : t.name ∈ l := by
    refine pigeon (m := b.tabs.map (·.name)) I.nodup (fun x hx => ?_) (by rw [List.length_map, hl]; exact Nat.le_refl _) _ (List.mem_map.2 ⟨t, ht, rfl⟩)
    obtain ⟨i, hi, rfl⟩ := List.getElem_of_mem hx
    obtain ⟨t', ht', hn, _⟩ := I.each i _ (List.getElem?_eq_getElem hi)
    exact List.mem_map.2 ⟨t', ht', hn⟩
  obtain ⟨i, hi, he⟩ := List.getElem_of_mem hin
  have hi? : l[i]? = some t.name := by rw [List.getElem?_eq_getElem hi, he]
  obtain ⟨t', ht', hn, hs⟩ := I.each i _ hi?
  obtain rfl := hd t' ht' t ht hn
  refine ⟨i, hi?, fun s hs' hsm => ?_⟩
  have := hs s hs' hsm
  rw [List.mem_take_iff_getElem] at this
  obtain ⟨j, hj, rfl⟩ := this
  exact ⟨j, by omega, List.getElem?_eq_getElem (by omega)⟩

theorem names_inj {l : List Tb} (h : (l.map (·.name)).Nodup) : ∀ t ∈ l, ∀ u ∈ l, t.name = u.name → t = u := by
  induction l with
  | nil => intro t ht; cases ht
  | cons a l ih =>
    rw [List.map_cons, List.nodup_cons] at h
    intro t ht u hu e
    rcases List.mem_cons.1 ht with h1 | h1 <;> rcases List.mem_cons.1 hu with h2 | h2
    · rw [h1, h2]
    · rw [h1] at e
      exact absurd (List.mem_map.2 ⟨u, h2, e.symm⟩) h.1
    · rw [h2] at e
      exact absurd (List.mem_map.2 ⟨t, h1, e⟩) h.1
    · exact ih h.2 t h1 u h2 e
theorem nodup_at {l : List Txt} (h : l.Nodup) {i j : Nat} {s : Txt} (hi : l[i]? = some s) (hj : l[j]? = some s) : i = j := by
  rcases Nat.lt_trichotomy i j with hij | hij | hij
  · obtain ⟨h1, h2⟩ := List.getElem?_eq_some_iff.1 hi
    obtain ⟨h3, h4⟩ := List.getElem?_eq_some_iff.1 hj
    exact absurd (h2.trans h4.symm) (List.pairwise_iff_getElem.1 h i j h1 h3 hij)
  · exact hij
  · obtain ⟨h1, h2⟩ := List.getElem?_eq_some_iff.1 hi
    obtain ⟨h3, h4⟩ := List.getElem?_eq_some_iff.1 hj
    exact absurd (h4.trans h2.symm) (List.pairwise_iff_getElem.1 h j i h3 h1 hij)

end Go.Proofs.Ytlopccnehgolnab
