
/- The contract of Rest of boxes. -/
import Derived.Test.YtlopccnehgolnabBoxSplits
namespace Go.Proofs.Ytlopccnehgolnab
open Go.RowKit Rb

theorem restStep_len (n : Nat) (out : List Bx) (b : Bx) : (restStep n out b).length ≤ 3 * out.length := by
  unfold restStep
  split
  · exact flatMap_len out b
  · omega
theorem pow3 (k : Nat) (h : k ≤ 6) : 3 ^ k ≤ 729 := by
  have : k = 0 ∨ k = 1 ∨ k = 2 ∨ k = 3 ∨ k = 4 ∨ k = 5 ∨ k = 6 := by omega
  rcases this with rfl | rfl | rfl | rfl | rfl | rfl | rfl <;> decide

theorem restB_take {l : List Bx} {k : Nat} {x : Bx} {n : Nat} {i : List Bx} (h : l[k]? = some x) : (l.take (k + 1)).foldl (restStep n) i = restStep n ((l.take k).foldl (restStep n) i) x := by
  rw [take_getElem? h, List.foldl_append]; rfl

set_option maxRecDepth 100000 in
set_option maxHeartbeats 800000 in
theorem Rest_any {S T : Nat → Prop} {v u : Value} {a : Bx} {l : List Bx} (w : World) (hl : rBx.rel w S [v] a) (hm : (rSl rBx).rel w T [u] l) (hl6 : l.length ≤ 6) :
    Calls Try.prog 29 #[v, u] w fun e w' => ∃ z S', e = .returned z ∧ (rSl rBx).rel w' S' [z] (restB a l) ∧ Below w.heap.size w w' := by
  have hal := rSl.lenle hl (by decide)
  have HG := Lib.hid (BGood_any (a.length : Int) w hl)
  have hla := hl
  obtain ⟨A, c, rfl, _⟩ := rSl.elems hl
  obtain ⟨B, d, rfl, _, _, _, hF⟩ := rSl.elems hm
  clear hl hm
  cases hg : goodBx a (a.length : Int)
  · rw [hg] at HG
    have HF : Hid (restB a l = []) := Lib.hid (by unfold restB; rw [hg]; rfl)
    clear hg hla
    go_enter Try.func29, Try.ntmps29
    go_wp2_with (first | (go_at_call 8; ((with_reducible refine HG.out.mono ?_); rintro e w1 ⟨rfl, hb1⟩)))
    go_ret
    exact ⟨_, fun _ => True, rfl, by rw [HF.out]; exact ⟨none, 0, rfl, Nat.le_refl _, by decide, by decide, fun i x hx => by simp at hx⟩, hb1⟩
  rw [hg] at HG
  have HR : Hid (restB a l = l.foldl (restStep a.length) [a]) := Lib.hid (by unfold restB; rw [hg]; rfl)
  clear hg
  have HLA := Lib.hid hla
  clear hla
  go_enter Try.func29, Try.ntmps29
  go_wp2_with (first | (go_at_call 8; ((with_reducible refine HG.out.mono ?_); rintro e w1 ⟨rfl, hb1⟩; have h1a := Rd.lit1 (R := rBx) (w := w1) (S := S) (x := a) (cells := [.slice A a.length c]) 27 rfl (by decide) (by decide) (Rd.below HLA.out hb1); have hb1a := hb1.alloc hb1.size (.cells #[.slice A a.length c] 27))))
  go_loopw [5, 20] (fun o i wr => ∃ (k : Nat) (out : List Bx) (Ao : Option Addr) (co : Nat), k ≤ l.length ∧ i = .int .i64 k ∧ o = .slice Ao out.length co ∧ Hid (out.length ≤ 3 ^ k) ∧ Hid (out = (l.take k).foldl (restStep a.length) [a]) ∧ Hid (∃ S9, (rSl rBx).rel wr S9 [.slice Ao out.length co] out) ∧ Below w.heap.size w wr) (fun _ i _ => l.length - (intOf i).toNat)
  case atStart => exact ⟨0, [a], _, _, Nat.zero_le _, rfl, rfl, Lib.hid (by simp), Lib.hid rfl, Lib.hid ⟨_, h1a⟩, hb1a⟩
  case round =>
    obtain ⟨k, out, Ao, co, hk, rfl, rfl, HL3, HO, HS, hb⟩ := hrel
    by_cases hlt : k < l.length
    · obtain ⟨p, off, v, x, rfl, _, hp, hx, hs, h1⟩ := Elems.sl (R := rSl rRg) hF hlt
      rw [← hb.cell (p := ⟨p, _, none⟩) hp] at h1
      have hik : (k : Int) < (l.length : Int) := by omega
      have HX := Lib.hid (show rBx.rel _ _ _ _ from Rd.below hs hb)
      have HT := Lib.hid (restB_take (n := a.length) (i := [a]) hx)
      have hpw := pow3 k (by omega)
      have hol : out.length ≤ 729 := Nat.le_trans HL3.out hpw
      have HPW : Hid (∀ o : List Bx, o.length ≤ 3 * out.length → o.length ≤ 3 ^ (k + 1)) := Lib.hid fun o h => by have := HL3.out; rw [Nat.pow_succ]; omega
      obtain ⟨Av, cv, rfl, _⟩ := rSl.elems hs
      clear hx hs hpw
      cases hgx : goodBx x (a.length : Int)
      · have hgX := Lib.hid hgx
        have HS' : Hid ((l.take (k + 1)).foldl (restStep a.length) [a] = out) := Lib.hid (by rw [HT.out, ← HO.out]; unfold restStep; rw [hgx]; rfl)
        clear hgx
        go_wp2_with (first | (go_at_call 8; ((with_reducible refine (BGood_b _ HX.out hgX.out).mono ?_); rintro e w2 ⟨rfl, hb2⟩)))
        go_roundw
        case rel =>
          obtain ⟨So, hSo⟩ := HS.out
          exact ⟨k + 1, out, Ao, co, by omega, by go_num, rfl, Lib.hid (HPW.out out (by omega)), Lib.hid HS'.out.symm, Lib.hid ⟨So, Rd.below hSo hb2⟩, hb.trans (hb2.mono hb.size)⟩
        case measure => simp [intOf]; omega
      · have hgX := Lib.hid hgx
        have HS' : Hid ((l.take (k + 1)).foldl (restStep a.length) [a] = out.flatMap (lessB · x)) := Lib.hid (by rw [HT.out, ← HO.out]; unfold restStep; rw [hgx]; rfl)
        clear hgx
        obtain ⟨So, hSo⟩ := HS.out
        have HSo := Lib.hid hSo
        clear hSo
        go_wp2_with (first | (go_at_call 8; ((with_reducible refine (BGood_b _ HX.out hgX.out).mono ?_); rintro e w2 ⟨rfl, hb2⟩)))
        have hb2w := hb.trans (hb2.mono hb.size)
        have HSo2 := Lib.hid (show (rSl rBx).rel w2 (fun b => So b ∧ b < w2.heap.size) [.slice Ao out.length co] out from (rSl rBx).mono (Rd.below HSo.out hb2) fun b hb hlt => ⟨hb, hlt⟩)
        have HX2 := Lib.hid (show rBx.rel w2 _ _ _ from Rd.below HX.out hb2)
        obtain ⟨_, _, _, _, _, _, hE2⟩ := rSl.elems HSo2.out
        clear HSo HX hb2
        go_loopw [8, 31] (fun o i wr => ∃ (j : Nat) (nxt : List Bx), j ≤ out.length ∧ i = .int .i64 j ∧ Own rBx 27 wr w2.heap.size (fun b => So b ∧ b < w2.heap.size) o nxt ∧ Hid (nxt = (out.take j).flatMap (lessB · x)) ∧ Hid (nxt.length ≤ 3 * j) ∧ Below w2.heap.size w2 wr) (fun _ i _ => out.length - (intOf i).toNat)
        case atStart => exact ⟨0, [], Nat.zero_le _, rfl, Own.nil _ _ _ _ _, Lib.hid (by simp), Lib.hid (by simp), Below.refl _ _⟩
        case round =>
          obtain ⟨j, nxt, hj, rfl, hown, HN, HNL, hb3⟩ := hrel
          by_cases hltj : j < out.length
          · obtain ⟨q, off', v', y, rfl, _, hq, hy, hs', h2⟩ := Elems.sl (R := rSl rRg) hE2 hltj
            rw [← hb3.cell (p := ⟨q, _, none⟩) hq] at h2
            have hij : (j : Int) < (out.length : Int) := by omega
            have HY := Lib.hid hy
            have HYR := Lib.hid (show rBx.rel wr _ _ _ from Rd.below hs' hb3)
            have HXR := Lib.hid (show rBx.rel wr _ _ _ from Rd.below HX2.out hb3)
            obtain ⟨Ay, cy, rfl, _⟩ := rSl.elems hs'
            clear hs' hy
            have HNBS : Hid (w2.heap.size ≤ wr.heap.size) := Lib.hid hb3.size
            have hol3 : nxt.length ≤ 2187 := by have := HNL.out; omega
            have hLL := Lib.hid (lessB_len y x)
            have hHT : Hid ((out.take (j + 1)).flatMap (lessB · x) = nxt ++ lessB y x) := Lib.hid (by rw [take_getElem? HY.out, List.flatMap_append, ← HN.out]; simp)
            generalize hL : lessB y x = L at *
            have HLE := Lib.hid hL
            clear hL
            have hlt8 := hown.lt
            have hsz8 := hb3.size
            have HSS : Hid (∀ b, Up (fun b => So b ∧ b < w2.heap.size) wr.heap.size b → Up (fun b => So b ∧ b < w2.heap.size) w2.heap.size b ∧ u8.ownBlock ≠ some b) := Lib.hid (by
              intro b h
              rcases h with h | h
              · exact ⟨.inl h, fun e => by have := hlt8 _ e; omega⟩
              · exact ⟨.inr (Nat.le_trans hsz8 h), fun e => by have := hlt8 _ e; omega⟩)
            have HBY : Hid ((nxt.length + L.length) * rBx.bytes ≤ 140737488355328) := Lib.hid (by have := hLL.out; show (_ + _) * 24 ≤ _; omega)
            clear hlt8
            go_wp2_with (first | (go_at_call 45; ((with_reducible refine (BLess_at wr HYR.out HXR.out HLE.out).mono ?_); rintro e w4 ⟨z4, rfl, how4, hb4⟩; obtain ⟨A4, c4, rfl⟩ := how4.value; have hown4 := hown.below hb4; have hE4 := (how4.elems (by decide) rfl).2)) | (at_builtin; go_must (refine wpList_append_many (R := rBx) el_Bxs rfl (.tmp 35) (.tmp 38) rfl rfl hown4 rfl (Up (fun b => So b ∧ b < w2.heap.size) wr.heap.size) rfl hE4 (fun _ _ h => h) (fun b h h' => HSS.out b h) HBY.out (Nat.le_trans hsz8 hb4.size) ?_); intro v5 w5 hown5 hb5 _ _))
            go_roundw
            case rel => exact ⟨j + 1, _, by omega, by go_num, hown5, Lib.hid hHT.out.symm, Lib.hid (by have := HNL.out; have := hLL.out; rw [List.length_append]; omega), hb3.trans (hb4.mono hsz8) |>.trans hb5⟩
            case measure => simp [intOf]; omega
          · have hje : j = out.length := by omega
            have HQ : Hid (nxt = (l.take (k + 1)).foldl (restStep a.length) [a]) := Lib.hid (by rw [HN.out, hje, List.take_length, HS'.out])
            have hol3 : nxt.length ≤ 3 * out.length := by have := HNL.out; omega
            have hown9 := hown
            obtain ⟨A9, c9, rfl⟩ := hown.value
            clear hown hE2
            go_wp2
            go_roundw
            case rel => exact ⟨k + 1, nxt, A9, c9, by omega, by go_num, rfl, Lib.hid (HPW.out nxt hol3), Lib.hid HQ.out, Lib.hid ⟨_, hown9.rel (by decide)⟩, hb2w.trans (hb3.mono hb2w.size)⟩
            case measure => simp [intOf]; omega
    · have hke : k = l.length := by omega
      have HQ : Hid (restB a l = out) := Lib.hid (by rw [HR.out, HO.out, hke, List.take_length])
      obtain ⟨S9, hS9⟩ := HS.out
      go_wp2
      go_ret
      exact ⟨_, S9, rfl, by rw [HQ.out]; exact hS9, hb⟩

end Go.Proofs.Ytlopccnehgolnab
