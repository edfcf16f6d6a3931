import Derived.Test.YtlopccnehgolnacGreatDoorGK9
import Derived.Deep.DeepMust
namespace Go.Proofs.YtlopccnehgolnacGreatDoor
open Go.RowKit Rb
open List renaming getLast?_concat -> jA
set_option maxRecDepth 100000
set_option maxHeartbeats 3200000
theorem Z6f : ElemOf Tryz.prog rRg 70 74 := .mk' Tryz.underlying70 (z := .agg #[.int .i64 0, .int .i64 0]) (k := 2) (b := 16) (by kernel_rfl) rfl rfl rfl (by decide) (by decide)
theorem Y8q (l : List Rg) (r : Rg) : clip (l ++ [r]) = clip l ++ (if max r.1 (-MX) <= min r.2 MX then [(max r.1 (-MX), min r.2 MX)] else []) := by
 simp only [clip, L1z, L3b, L2q, L4h]
 congr 1
 by_cases h : max r.1 (-MX) <= min r.2 MX <;> simp [h]
theorem Y50 (l : List Rg) : (clip l).length <= l.length := by
 unfold clip
 exact L0h (L2e _ _) (by simp)
def Y5w : Prop := ∀ (w : World) (base : Nat) (S : Nat -> Prop) (u : Value) (xs : List Rg), Own rRg 74 w base S u xs -> (∀ r ∈ xs, -MX <= r.1 /\ r.2 <= MX /\ r.1 <= r.2) -> xs.length < 4611686018427387904 -> base <= w.heap.size ->
 Calls Tryz.prog 162 #[u, .func (.func 163) #[] #[]] w fun e w' => e = .returned (.tuple #[]) /\
  ∃ ys : List Rg, ys.Perm xs /\ ys.Pairwise (fun x y => x.1 <= y.1) /\ Own rRg 74 w' base S u ys /\ Below base w w'
theorem Y7b (l : List Rg) (r : Rg) : Z7f (l ++ [r]) = Z6h (Z7f l) r := by simp [Z7f, List.foldl_append]
theorem Y88 (l : List Rg) : (Z7f l).length <= l.length := by
 have h : ∀ (l : List Rg) (out : List Rg), (l.foldl Z6h out).length <= out.length + l.length := by
  intro l
  induction l with
  | nil => intro out; simp
  | cons r t ih =>
   intro out
   have h1 := ih (Z6h out r)
   have h2 : (Z6h out r).length <= out.length + 1 := by
    unfold Z6h
    split
    ·rename_i x hx
     have : out ≠ [] := fun e => by simp [e] at hx
     have := L4c.2 this
     split <;> simp <;> omega
    simp
   simp only [L3w, L0r]
   omega
 have := h l []
 simpa [Z7f] using this
theorem X20 (hsort : Y5w) {S : Nat -> Prop} {v : Value} {l : List Rg} (w : World) (hl : rRgs.rel w S [v] l) :
  Calls Tryz.prog 143 #[v] w fun e w' => ∃ u, e = .returned u /\ Own rRg 74 w' w.heap.size S u (Z3x l) /\ Bw w w' := by
 obtain ⟨A, c, rfl, _, _, hn, hE⟩ := rRgs.elems hl
 clear hl
 go_enter Tryz.func143, Tryz.ntmps143
 go_wp2
 go_loopw [3, 12] (fun o i wr => ∃ k : Nat, k <= l.length /\ i = .int .i64 k /\ Own rRg 74 wr w.heap.size S o (clip (l.take k)) /\ Bw w wr) (fun _ i _ => l.length - (intOf i).toNat)
 exact ⟨0, L0o _, rfl, Own.nil _ _ _ _ _, L0m _ _⟩
 obtain ⟨k, hk, rfl, hown, hbl⟩ := hrel
 by_cases hlt : k < l.length
 ·obtain ⟨b, off, lo, up, rfl, _, hb, hx, _, _, h1, h2⟩ := hE.rg hlt
  rw [<- hbl.ce _ hb] at h1 h2
  have hs := Y8q (l.take k) (lo, up)
  rw [<- Z0c hx] at hs
  have hcl : (clip (l.take k)).length <= k := L0h (Y50 _) (L4d _ _)
  obtain ⟨x, e1⟩ : ∃ x, (if lo < -1000000 then (-1000000 : Int) else lo) = x := ⟨_, rfl⟩
  obtain ⟨y, e2⟩ : ∃ y, (if 1000000 < up then (1000000 : Int) else up) = y := ⟨_, rfl⟩
  have hx1 : x = max lo (-MX) := by rw [<- e1]; unfold MX; split <;> omega
  have hy1 : y = min up MX := by rw [<- e2]; unfold MX; split <;> omega
  dsimp only at hs
  rw [<- hx1, <- hy1] at hs
  have hin : InI x /\ InI y := by unfold InI; unfold MX at hx1 hy1; unfold InI at *; omega
  clear hx hE hx1 hy1
  by_cases hc : x <= y
  ·rw [if_pos hc] at hs
   have HS := L0 hs
   clear hs
   go_wp2_with (at_builtin; refine Z0a (R := rRg) (x := (x, y)) Z6f rfl (.tmp 28) (.tmp 30) rfl rfl (hown.alloc _) [.int .i64 x, .int .i64 y] rfl (by simp) (fun _ => False) ⟨rfl, hin⟩ (fun _ h => h.elim) ?_ ?_ ?_; (simp only [rRg]; omega); (have := hbl.size; simp; omega); intro v1 w1 hown1 hb1 _ _)
   go_roundw
   exact ⟨k + 1, by omega, by go_num, by rw [HS.o]; exact hown1, (hbl.alloc hbl.size _).trans hb1⟩
   simp [intOf]; omega
  rw [if_neg hc, L2z] at hs
  have HS := L0 hs
  clear hs
  go_wp2
  go_roundw
  exact ⟨k + 1, by omega, by go_num, by rw [HS.o]; exact hown.alloc _, hbl.alloc hbl.size _⟩
  simp [intOf]; omega
 rw [L0l (by omega)] at hown
 clear hE
 obtain ⟨A1, c1, rfl⟩ := hown.value
 have hn1 := Y50 l
 have HNorm := L0 (fun (ys : List Rg) (h1 : ys.Perm (clip l)) (h2 : ys.Pairwise (fun x y => x.1 <= y.1)) => Y31 h1 h2)
 have HC := L0 (hsort wr w.heap.size S _ (clip l) hown (Z8w l) (by omega) hbl.size)
 clear hown
 go_wp2_with (go_at_call 162; refine HC.o.mono ?_; rintro e w2 ⟨rfl, ys, hperm, hpw, hown, hb2⟩)
 have hyl := hperm.length_eq
 obtain ⟨hA2, hE2⟩ := hown.elems (by decide) rfl
 have HL := L0 hyl
 clear hyl hA2 HC
 have hy2 : ys.length <= 8796093022208 := by have := HL.o; omega
 have hnum : ∀ r ∈ ys, -MX <= r.1 /\ r.2 <= MX /\ r.1 <= r.2 := fun r hr => Z8w l r (hperm.mem_iff.1 hr)
 have HN := L0 hnum
 have HP := L0 hperm
 have HW := L0 hpw
 clear hnum hperm hpw hown
 go_loopw [6, 37] (fun o i w3 => ∃ k : Nat, k <= ys.length /\ i = .int .i64 k /\ Own rRg 74 w3 w2.heap.size S o (Z7f (ys.take k)) /\ Bw w2 w3) (fun _ i _ => ys.length - (intOf i).toNat)
 exact ⟨0, L0o _, rfl, Own.nil _ _ _ _ _, L0m _ _⟩
 obtain ⟨k, hk, rfl, hown, hb3⟩ := hrel
 have hml := Y88 (ys.take k)
 have htl : (ys.take k).length <= k := L4d _ _
 by_cases hlt : k < ys.length
 ·obtain ⟨b, off, lo, up, rfl, _, hb, hx, _, _, h1, h2⟩ := hE2.rg hlt
  rw [<- hb3.ce _ hb] at h1 h2
  have hrn := HN.o _ (L0z hx)
  dsimp only at hrn
  have hms := Y7b (ys.take k) (lo, up)
  rw [<- Z0c hx] at hms
  have HM := L0 hms
  have hlt2 : k < (clip l).length := by have := HL.o; omega
  have hlo : -1000000 <= lo /\ up <= 1000000 /\ lo <= up := by simpa [MX] using hrn
  have hin : InI lo /\ InI up := by unfold InI; omega
  have hG := (Z72 (l := ys.take k) (fun r hr => HN.o r (L4n hr)) (HW.o.sublist (List.take_sublist _ _))).1
  have HG := L0 hG
  clear hx hms hE2 hrn hG
  generalize hm : Z7f (ys.take k) = ms at *
  clear hm
  have hlt4 : (k : Int) < ((clip l).length : Int) := by omega
  rcases List.eq_nil_or_concat ms with rfl | ⟨init, x, hmx⟩
  ·obtain ⟨A3, c3, rfl⟩ := hown.value
   have hown0 : Own rRg 74 wr w2.heap.size S (.slice A3 0 c3) [] := hown
   clear hown
   go_wp2
   go_quiet (fail)
   go_wp2_with (at_builtin; refine Z0a (R := rRg) (x := (lo, up)) Z6f rfl (.tmp 71) (.tmp 73) rfl rfl ((hown0.alloc _).drewN _) [.int .i64 lo, .int .i64 up] rfl (by simp) (fun _ => False) ⟨rfl, hin⟩ (fun _ h => h.elim) ?_ ?_ ?_; (((try simp only [rRg, L0v]) <;> omega)); (((have := hb3.size); (try simp) <;> omega)); intro v1 w1 hown1 hb1 _ _)
   go_roundw
   exact ⟨k + 1, by omega, by go_num, by rw [HM.o]; exact hown1, (Z0h (hb3.alloc hb3.size _) _).trans hb1⟩
   simp [intOf]; omega
  rw [List.concat_eq_append] at hmx
  subst hmx
  rcases hown.form with ⟨_, he⟩ | ⟨g, cap, rfl, hgb, hgl⟩
  ·exact absurd he (by simp)
  have hxg := HG.o.init
  obtain ⟨_, hE3⟩ := hown.elems (by decide) rfl
  have hil : (init ++ [x]).length = init.length + 1 := by simp
  obtain ⟨b3, off3, xlo, xup, hA3, _, _, hx3, _, _, h3, h4⟩ := hE3.rg (i := init.length) (by omega)
  obtain ⟨rfl, rfl⟩ : g = b3 /\ 0 = off3 := by simpa using hA3
  obtain rfl : x = (xlo, xup) := by simpa using hx3
  dsimp only at hxg
  have hnb : -1000000 <= xlo /\ xup <= 1000000 /\ xlo <= xup := by have := hxg.2.2.2; simpa [MX] using this
  clear hx3 hA3 hxg hE3
  generalize hNn : (init ++ [(xlo, xup)]).length = N at *
  have hN1 : 0 < N := by omega
  have hN2 : N - 1 < N := by omega
  have hN3 : N - 1 = init.length := by omega
  rw [<- hN3] at h3 h4
  have HN1 := L0 hNn
  have HN3 := L0 hN3
  clear hNn hil hN3
  have hd : decide (0 < N) = true := by simp; omega
  have hw1 : IntKind.i64.wrap ((N : Int) - 1) = ((N - 1 : Nat) : Int) := by rw [IntWalk.i64_in _ (by omega)]; omega
  have hw2 : IntKind.i64.wrap (xup + 1) = xup + 1 := IntWalk.i64_in _ (by omega)
  have k3 : (wr.alloc (.cells #[.int .i64 lo, .int .i64 up] 74)).cell? (zn g (0 + (N - 1) * 2)) = some (.int .i64 xlo) := by
   rw [L0j _ _ _ hgl]; exact h3
  have k4 : (wr.alloc (.cells #[.int .i64 lo, .int .i64 up] 74)).cell? (zn g (0 + (N - 1) * 2 + 1)) = some (.int .i64 xup) := by
   rw [L0j _ _ _ hgl]; exact h4
  have k5 : (wr.alloc (.cells #[.int .i64 lo, .int .i64 up] 74)).frozen? (zn g (0 + (N - 1) * 2 + 1)) = false := (hown.alloc _).free rfl _
  simp only [L4x] at k3 k4 k5
  clear h3 h4
  by_cases ht : lo <= xup + 1
  ·have hd4 : decide (lo <= xup + 1) = true := by simp; omega
   obtain ⟨z, e3⟩ : ∃ z, (if xup < up then up else xup) = z := ⟨_, rfl⟩
   have hz : z = max xup up := by rw [<- e3]; split <;> omega
   have hzi : InI z := by unfold InI; omega
   have HM2 : Hid (Z7f (ys.take (k + 1)) = init ++ [(xlo, z)]) := L0 (by rw [HM.o, hz]; simp only [Z6h, jA, List.dropLast_concat]; rw [if_pos ht])
   have HSet : Hid (∀ q, Own rRg 74 (((wr.alloc (.cells #[.int .i64 lo, .int .i64 up] 74)).drewN q).setCell (zn g ((N - 1) * 2 + 1)) (.int .i64 z)) w2.heap.size S (.slice (some (zn g 0)) N cap) (init ++ [(xlo, z)])) := L0 (fun q => by
    have h5 := Own.set ((hown.alloc (.cells #[.int .i64 lo, .int .i64 up] 74)).drewN q) (g := g) (cap := cap) (by rw [HN1.o]) (i := init.length) (j := 1) (x' := (xlo, z)) (u := .int .i64 z) (by simp) (by decide) (fun es S' hr => by
     obtain ⟨rfl, hr1, hr2⟩ := hr
     simp only [List.getElem_concat_length] at hr1 hr2 ⊢
     exact ⟨rfl, hr1, hzi⟩)
    rw [HN3.o]
    simp at h5
    exact h5)
   clear hz
   go_wp2
   go_quiet (fail)
   clear hw2
   go_wp2
   go_region
   go_wp2
   go_roundw
   exact ⟨k + 1, by omega, by go_num, by rw [HM2.o]; exact HSet.o _, (Z0h (hb3.alloc hb3.size _) _).setCell (by simpa using hgb) _⟩
   simp [intOf]; omega
  have hd4 : decide (lo <= xup + 1) = false := by simp; omega
  go_wp2
  go_quiet (fail)
  clear hw1 hw2
  have hown2 := hown.alloc (.cells #[.int .i64 lo, .int .i64 up] 74)
  go_wp2_with (at_builtin; refine Z0a (R := rRg) (x := (lo, up)) Z6f rfl (.tmp 71) (.tmp 73) rfl rfl (hown2.drewN _) [.int .i64 lo, .int .i64 up] rfl (by simp) (fun _ => False) ⟨rfl, hin⟩ (fun _ h => h.elim) ?_ ?_ ?_; (((have := HN1.o); (try simp only [rRg]) <;> omega)); (((have := hb3.size); (try simp) <;> omega)); intro v1 w1 hown1 hb1 _ _)
  go_roundw
  exact ⟨k + 1, by omega, by go_num, by rw [HM.o]; simp only [Z6h, jA]; rw [if_neg (by omega)]; exact hown1, (Z0h (hb3.alloc hb3.size _) _).trans hb1⟩
  simp [intOf]; omega
 rw [L0l (by omega)] at hown
 have hm : Z7f ys = Z3x l := HNorm.o ys HP.o HW.o
 rw [hm] at hown
 clear hE2 hm hml htl
 have hlt2 : ¬ k < (clip l).length := by have := HL.o; omega
 go_wp2
 go_ret
 exact ⟨_, rfl, hown.lower (L0h hbl.size hb2.size), hbl.trans (hb2.trans (hb3.mono (L0h hbl.size hb2.size)))⟩
