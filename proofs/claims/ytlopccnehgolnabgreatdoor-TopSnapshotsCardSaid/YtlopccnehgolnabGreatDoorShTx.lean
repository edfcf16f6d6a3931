import Derived.Shelf.LaysM
import Derived.Shelf.Strconv.Itoa3
import Derived.Shelf.LaysC
import Derived.Shelf.Strconv.AtoiAll
import Derived.Shelf.Strconv.ErrVarAll
import Derived.Shelf.Strings.Prefix
import Derived.Shelf.Small.Strs
import Derived.Lib.AppendIntMem
import Derived.Test.YtlopccnehgolnabGreatDoorGK8
namespace Go.Proofs
open Go.Shelf
def Tryz.laysM171_ren : Go.Shelf.Ren := ⟨fun | 171 => 142 | 243 => 170 | 246 => 196 | 283 => 217 | 284 => 218 | 285 => 219 | 286 => 220 | 129 => 212 | 317 => 233 | 318 => 234 | 319 => 235 | 320 => 236 | 337 => 241 | 338 => 242 | n => n,fun | 3 => 3 | 9 => 9 | 2 => 2 | 4 => 4 | 171 => 262 | 0 => 0 | 53 => 254 | 37 => 177 | 5 => 5 | 173 => 264 | 212 => 279 | 51 => 252 | 20 => 20 | 213 => 280 | 46 => 212 | 232 => 289 | 233 => 290 | n => n,fun | 17 => 4 | 18 => 7 | 19 => 8 | n => n⟩
theorem Tryz.laysM171 : Go.Proofs.LaysM.n171 Tryz.prog Tryz.laysM171_ren := {
 mixed := by kernel_rfl
 f129 := Tryz.func212.trans (congrArg some (by kernel_rfl))
 f171 := Tryz.func142.trans (congrArg some (by kernel_rfl))
 f243 := Tryz.func170.trans (congrArg some (by kernel_rfl))
 f246 := Tryz.func196.trans (congrArg some (by kernel_rfl))
 f283 := Tryz.func217.trans (congrArg some (by kernel_rfl))
 f284 := Tryz.func218.trans (congrArg some (by kernel_rfl))
 f285 := Tryz.func219.trans (congrArg some (by kernel_rfl))
 f286 := Tryz.func220.trans (congrArg some (by kernel_rfl))
 f317 := Tryz.func233.trans (congrArg some (by kernel_rfl))
 f318 := Tryz.func234.trans (congrArg some (by kernel_rfl))
 f319 := Tryz.func235.trans (congrArg some (by kernel_rfl))
 f320 := Tryz.func236.trans (congrArg some (by kernel_rfl))
 f337 := Tryz.func241.trans (congrArg some (by kernel_rfl))
 f338 := Tryz.func242.trans (congrArg some (by kernel_rfl))
 t0 := Tryz.underlying0
 a0 := Tryz.isAgg0
 z0 := Tryz.sizeOf0
 v0 := Tryz.zeroValue0
 t2 := Tryz.underlying2
 a2 := Tryz.isAgg2
 z2 := Tryz.sizeOf2
 v2 := Tryz.zeroValue2
 t3 := Tryz.underlying3
 a3 := Tryz.isAgg3
 z3 := Tryz.sizeOf3
 v3 := Tryz.zeroValue3
 t4 := Tryz.underlying4
 a4 := Tryz.isAgg4
 z4 := Tryz.sizeOf4
 v4 := Tryz.zeroValue4
 t5 := Tryz.underlying5
 a5 := Tryz.isAgg5
 z5 := Tryz.sizeOf5
 v5 := Tryz.zeroValue5
 t9 := Tryz.underlying9
 a9 := Tryz.isAgg9
 z9 := Tryz.sizeOf9
 v9 := Tryz.zeroValue9
 t20 := Tryz.underlying20
 a20 := Tryz.isAgg20
 z20 := Tryz.sizeOf20
 v20 := Tryz.zeroValue20
 t37 := Tryz.underlying177
 a37 := Tryz.isAgg177
 z37 := Tryz.sizeOf177
 v37 := Tryz.zeroValue177
 t46 := Tryz.underlying212
 a46 := Tryz.isAgg212
 z46 := Tryz.sizeOf212
 v46 := Tryz.zeroValue212
 t51 := Tryz.underlying252
 a51 := Tryz.isAgg252
 z51 := Tryz.sizeOf252
 v51 := Tryz.zeroValue252
 t53 := Tryz.underlying254
 a53 := Tryz.isAgg254
 z53 := Tryz.sizeOf254
 v53 := Tryz.zeroValue254
 t171 := Tryz.underlying262
 a171 := Tryz.isAgg262
 z171 := Tryz.sizeOf262
 v171 := Tryz.zeroValue262
 t173 := Tryz.underlying264
 a173 := Tryz.isAgg264
 z173 := Tryz.sizeOf264
 v173 := Tryz.zeroValue264
 t212 := Tryz.underlying279
 a212 := Tryz.isAgg279
 z212 := Tryz.sizeOf279
 v212 := Tryz.zeroValue279
 t213 := Tryz.underlying280
 a213 := Tryz.isAgg280
 z213 := Tryz.sizeOf280
 t232 := Tryz.underlying289
 a232 := Tryz.isAgg289
 z232 := Tryz.sizeOf289
 v232 := Tryz.zeroValue289
 t233 := Tryz.underlying290
 a233 := Tryz.isAgg290
 z233 := Tryz.sizeOf290
 v233 := Tryz.zeroValue290
 g17 := by kernel_rfl
 g18 := by kernel_rfl
 g19 := by kernel_rfl
 i0 := by kernel_rfl
 i2 := by kernel_rfl
 i3 := by kernel_rfl
 i4 := by kernel_rfl
 i5 := by kernel_rfl
 i9 := by kernel_rfl
 i20 := by kernel_rfl
 i37 := by kernel_rfl
 i46 := by kernel_rfl
 i51 := by kernel_rfl
 i53 := by kernel_rfl
 i171 := by kernel_rfl
 i173 := by kernel_rfl
 i212 := by kernel_rfl
 i232 := by kernel_rfl
 i233 := by kernel_rfl
 m17 := by kernel_rfl
 m18 := by kernel_rfl
 m19 := by kernel_rfl }
def Tryz.laysC172_ren : Go.Shelf.Ren := ⟨fun | 172 => 141 | 244 => 168 | 245 => 169 | 247 => 191 | 279 => 192 | 280 => 193 | 281 => 194 | 282 => 195 | 287 => 214 | 316 => 215 | 171 => 142 | 205 => 216 | 321 => 231 | 322 => 232 | 243 => 170 | 246 => 196 | 283 => 217 | 284 => 218 | 285 => 219 | 286 => 220 | 129 => 212 | 317 => 233 | 318 => 234 | 319 => 235 | 320 => 236 | 337 => 241 | 338 => 242 | n => n,fun | 9 => 9 | 3 => 3 | 75 => 182 | 76 => 183 | 4 => 4 | 5 => 5 | 167 => 233 | 37 => 177 | 0 => 0 | 85 => 234 | 2 => 2 | 168 => 236 | 53 => 254 | 175 => 256 | 46 => 212 | 210 => 260 | 127 => 210 | 145 => 276 | 143 => 274 | 21 => 21 | 171 => 262 | 173 => 264 | 212 => 279 | 51 => 252 | 20 => 20 | 213 => 280 | 232 => 289 | 233 => 290 | 80 => 152 | n => n,fun | 15 => 2 | 16 => 3 | 17 => 4 | 18 => 7 | 19 => 8 | n => n⟩
theorem Tryz.laysC172 : Go.Proofs.LaysC.n172 Tryz.prog Tryz.laysC172_ren := {
 mixed := by kernel_rfl
 f129 := Tryz.func212.trans (congrArg some (by kernel_rfl))
 f171 := Tryz.func142.trans (congrArg some (by kernel_rfl))
 f172 := Tryz.func141.trans (congrArg some (by kernel_rfl))
 f205 := Tryz.func216.trans (congrArg some (by kernel_rfl))
 f243 := Tryz.func170.trans (congrArg some (by kernel_rfl))
 f244 := Tryz.func168.trans (congrArg some (by kernel_rfl))
 f245 := Tryz.func169.trans (congrArg some (by kernel_rfl))
 f246 := Tryz.func196.trans (congrArg some (by kernel_rfl))
 f247 := Tryz.func191.trans (congrArg some (by kernel_rfl))
 f279 := Tryz.func192.trans (congrArg some (by kernel_rfl))
 f280 := Tryz.func193.trans (congrArg some (by kernel_rfl))
 f281 := Tryz.func194.trans (congrArg some (by kernel_rfl))
 f282 := Tryz.func195.trans (congrArg some (by kernel_rfl))
 f283 := Tryz.func217.trans (congrArg some (by kernel_rfl))
 f284 := Tryz.func218.trans (congrArg some (by kernel_rfl))
 f285 := Tryz.func219.trans (congrArg some (by kernel_rfl))
 f286 := Tryz.func220.trans (congrArg some (by kernel_rfl))
 f287 := Tryz.func214.trans (congrArg some (by kernel_rfl))
 f316 := Tryz.func215.trans (congrArg some (by kernel_rfl))
 f317 := Tryz.func233.trans (congrArg some (by kernel_rfl))
 f318 := Tryz.func234.trans (congrArg some (by kernel_rfl))
 f319 := Tryz.func235.trans (congrArg some (by kernel_rfl))
 f320 := Tryz.func236.trans (congrArg some (by kernel_rfl))
 f321 := Tryz.func231.trans (congrArg some (by kernel_rfl))
 f322 := Tryz.func232.trans (congrArg some (by kernel_rfl))
 f337 := Tryz.func241.trans (congrArg some (by kernel_rfl))
 f338 := Tryz.func242.trans (congrArg some (by kernel_rfl))
 t0 := Tryz.underlying0
 a0 := Tryz.isAgg0
 z0 := Tryz.sizeOf0
 v0 := Tryz.zeroValue0
 t2 := Tryz.underlying2
 a2 := Tryz.isAgg2
 z2 := Tryz.sizeOf2
 v2 := Tryz.zeroValue2
 t3 := Tryz.underlying3
 a3 := Tryz.isAgg3
 z3 := Tryz.sizeOf3
 v3 := Tryz.zeroValue3
 t4 := Tryz.underlying4
 a4 := Tryz.isAgg4
 z4 := Tryz.sizeOf4
 v4 := Tryz.zeroValue4
 t5 := Tryz.underlying5
 a5 := Tryz.isAgg5
 z5 := Tryz.sizeOf5
 v5 := Tryz.zeroValue5
 t9 := Tryz.underlying9
 a9 := Tryz.isAgg9
 z9 := Tryz.sizeOf9
 v9 := Tryz.zeroValue9
 t20 := Tryz.underlying20
 a20 := Tryz.isAgg20
 z20 := Tryz.sizeOf20
 v20 := Tryz.zeroValue20
 t21 := Tryz.underlying21
 a21 := Tryz.isAgg21
 z21 := Tryz.sizeOf21
 v21 := Tryz.zeroValue21
 t37 := Tryz.underlying177
 a37 := Tryz.isAgg177
 z37 := Tryz.sizeOf177
 v37 := Tryz.zeroValue177
 t46 := Tryz.underlying212
 a46 := Tryz.isAgg212
 z46 := Tryz.sizeOf212
 v46 := Tryz.zeroValue212
 t51 := Tryz.underlying252
 a51 := Tryz.isAgg252
 z51 := Tryz.sizeOf252
 v51 := Tryz.zeroValue252
 t53 := Tryz.underlying254
 a53 := Tryz.isAgg254
 z53 := Tryz.sizeOf254
 v53 := Tryz.zeroValue254
 t75 := Tryz.underlying182
 a75 := Tryz.isAgg182
 z75 := Tryz.sizeOf182
 v75 := Tryz.zeroValue182
 t76 := Tryz.underlying183
 a76 := Tryz.isAgg183
 z76 := Tryz.sizeOf183
 v76 := Tryz.zeroValue183
 t85 := Tryz.underlying234
 a85 := Tryz.isAgg234
 z85 := Tryz.sizeOf234
 v85 := Tryz.zeroValue234
 t127 := Tryz.underlying210
 a127 := Tryz.isAgg210
 z127 := Tryz.sizeOf210
 v127 := Tryz.zeroValue210
 t143 := Tryz.underlying274
 a143 := Tryz.isAgg274
 z143 := Tryz.sizeOf274
 v143 := Tryz.zeroValue274
 t145 := Tryz.underlying276
 a145 := Tryz.isAgg276
 z145 := Tryz.sizeOf276
 v145 := Tryz.zeroValue276
 t167 := Tryz.underlying233
 a167 := Tryz.isAgg233
 z167 := Tryz.sizeOf233
 v167 := Tryz.zeroValue233
 t168 := Tryz.underlying236
 a168 := Tryz.isAgg236
 z168 := Tryz.sizeOf236
 v168 := Tryz.zeroValue236
 t171 := Tryz.underlying262
 a171 := Tryz.isAgg262
 z171 := Tryz.sizeOf262
 v171 := Tryz.zeroValue262
 t173 := Tryz.underlying264
 a173 := Tryz.isAgg264
 z173 := Tryz.sizeOf264
 v173 := Tryz.zeroValue264
 t175 := Tryz.underlying256
 a175 := Tryz.isAgg256
 z175 := Tryz.sizeOf256
 v175 := Tryz.zeroValue256
 t210 := Tryz.underlying260
 a210 := Tryz.isAgg260
 z210 := Tryz.sizeOf260
 v210 := Tryz.zeroValue260
 t212 := Tryz.underlying279
 a212 := Tryz.isAgg279
 z212 := Tryz.sizeOf279
 v212 := Tryz.zeroValue279
 t213 := Tryz.underlying280
 a213 := Tryz.isAgg280
 z213 := Tryz.sizeOf280
 t232 := Tryz.underlying289
 a232 := Tryz.isAgg289
 z232 := Tryz.sizeOf289
 v232 := Tryz.zeroValue289
 t233 := Tryz.underlying290
 a233 := Tryz.isAgg290
 z233 := Tryz.sizeOf290
 v233 := Tryz.zeroValue290
 g15 := by kernel_rfl
 g16 := by kernel_rfl
 g17 := by kernel_rfl
 g18 := by kernel_rfl
 g19 := by kernel_rfl
 t80 := Tryz.underlying152
 a80 := Tryz.isAgg152
 z80 := Tryz.sizeOf152
 v80 := Tryz.zeroValue152
 i0 := by kernel_rfl
 i2 := by kernel_rfl
 i3 := by kernel_rfl
 i4 := by kernel_rfl
 i5 := by kernel_rfl
 i9 := by kernel_rfl
 i20 := by kernel_rfl
 i21 := by kernel_rfl
 i37 := by kernel_rfl
 i46 := by kernel_rfl
 i51 := by kernel_rfl
 i53 := by kernel_rfl
 i75 := by kernel_rfl
 i76 := by kernel_rfl
 i80 := by kernel_rfl
 i85 := by kernel_rfl
 i127 := by kernel_rfl
 i143 := by kernel_rfl
 i145 := by kernel_rfl
 i167 := by kernel_rfl
 i168 := by kernel_rfl
 i171 := by kernel_rfl
 i173 := by kernel_rfl
 i175 := by kernel_rfl
 i210 := by kernel_rfl
 i212 := by kernel_rfl
 i232 := by kernel_rfl
 i233 := by kernel_rfl
 m15 := by kernel_rfl
 m16 := by kernel_rfl
 m17 := by kernel_rfl
 m18 := by kernel_rfl
 m19 := by kernel_rfl
 c0 := by kernel_rfl
 c2 := by kernel_rfl
 c3 := by kernel_rfl
 c4 := by kernel_rfl
 c5 := by kernel_rfl
 c9 := by kernel_rfl
 c20 := by kernel_rfl
 c21 := by kernel_rfl
 c37 := by kernel_rfl
 c46 := by kernel_rfl
 c51 := by kernel_rfl
 c53 := by kernel_rfl
 c75 := by kernel_rfl
 c76 := by kernel_rfl
 c80 := by kernel_rfl
 c85 := by kernel_rfl
 c127 := by kernel_rfl
 c143 := by kernel_rfl
 c145 := by kernel_rfl
 c167 := by kernel_rfl
 c168 := by kernel_rfl
 c171 := by kernel_rfl
 c173 := by kernel_rfl
 c175 := by kernel_rfl
 c210 := by kernel_rfl
 c212 := by kernel_rfl
 c213 := by kernel_rfl
 c232 := by kernel_rfl
 c233 := by kernel_rfl }
def Tryz.lays99_ren : Go.Shelf.Ren := ⟨fun | 99 => 138 | 206 => 166 | n => n,fun | 9 => 9 | 4 => 4 | 3 => 3 | n => n,fun | n => n⟩
theorem Tryz.lays99 : Go.Proofs.Lays.n99 Tryz.prog Tryz.lays99_ren := {
 mixed := by kernel_rfl
 f99 := Tryz.func138.trans (congrArg some (by kernel_rfl))
 f206 := Tryz.func166.trans (congrArg some (by kernel_rfl))
 t3 := Tryz.underlying3
 a3 := Tryz.isAgg3
 z3 := Tryz.sizeOf3
 v3 := Tryz.zeroValue3
 t4 := Tryz.underlying4
 a4 := Tryz.isAgg4
 z4 := Tryz.sizeOf4
 v4 := Tryz.zeroValue4
 t9 := Tryz.underlying9
 a9 := Tryz.isAgg9
 z9 := Tryz.sizeOf9
 v9 := Tryz.zeroValue9 }
def Tryz.lays137_ren : Go.Shelf.Ren := ⟨fun | 137 => 139 | 217 => 167 | 266 => 190 | n => n,fun | 9 => 9 | 5 => 5 | 3 => 3 | n => n,fun | n => n⟩
theorem Tryz.lays137 : Go.Proofs.Lays.n137 Tryz.prog Tryz.lays137_ren := {
 mixed := by kernel_rfl
 f137 := Tryz.func139.trans (congrArg some (by kernel_rfl))
 f217 := Tryz.func167.trans (congrArg some (by kernel_rfl))
 f266 := Tryz.func190.trans (congrArg some (by kernel_rfl))
 t3 := Tryz.underlying3
 a3 := Tryz.isAgg3
 z3 := Tryz.sizeOf3
 v3 := Tryz.zeroValue3
 t5 := Tryz.underlying5
 a5 := Tryz.isAgg5
 z5 := Tryz.sizeOf5
 v5 := Tryz.zeroValue5
 t9 := Tryz.underlying9
 a9 := Tryz.isAgg9
 z9 := Tryz.sizeOf9
 v9 := Tryz.zeroValue9 }
end Go.Proofs
namespace Go.Proofs.YtlopccnehgolnabGreatDoor
open Go.RowKit Go.Shelf Rb
def LibW (w : World) : Prop := Lib.TabIs Tryz.prog w "internal/strconv.uint64pow10" .u64 Lib.pow10Tab /\ (∃ tp p, w.var? Tryz.prog "strconv.ErrSyntax" = some #[.iface tp p]) /\ ∃ tp p, w.var? Tryz.prog "strconv.ErrRange" = some #[.iface tp p]
theorem Z39 (n : Int) (hn : InI n) (w : World) (hw : LibW w) : Calls Tryz.prog 142 #[.int .i64 n] w fun e w' => e = .returned (.string ⟨(Lib.itoa n).toArray⟩) /\ Below w.heap.size w w' := by
 refine (Any.strconv_Itoa Tryz.laysM171 n hn.1 hn.2 w hw.1).mono ?_
 rintro e w' ⟨rfl, k, os, rfl⟩
 exact ⟨rfl, Lib.below_grow _ _ (L0f _) _ _⟩
theorem Y0e (s : Txt) (hs : s.length <= 140737488355328) (v : Int) (h : Lib.atoiAll s = .ok v) (w : World) : Calls Tryz.prog 141 #[.string ⟨s.toArray⟩] w fun e w' => e = .returned (.tuple #[.int .i64 v, .nilIface]) /\ Below w.heap.size w w' := by
 refine (Any.strconv_Atoi_ok Tryz.laysC172 ⟨s.toArray⟩ (by simp [ByteArray.size]; omega) v (by simpa using h) w).mono ?_
 rintro e w' ⟨rfl, rfl | ⟨t, rfl⟩⟩
 ·exact ⟨rfl, L0m _ _⟩
 exact ⟨rfl, Lib.bytesWorld_below _ _ _⟩
theorem X0s (s : Txt) (hs : s.length <= 140737488355328) (h : ∀ v, Lib.atoiAll s ≠ .ok v) (w : World) (hw : LibW w) : Calls Tryz.prog 141 #[.string ⟨s.toArray⟩] w fun e w' => ∃ n N, e = .returned (.tuple #[.int .i64 n, .iface 236 (.pointer (some ⟨N, 0, none⟩))]) /\ Below w.heap.size w w' := by
 obtain ⟨_, ⟨tp, p, hv⟩, ⟨tq, q, hr⟩⟩ := hw
 cases hc : Lib.atoiAll s
 all_goals first
  | exact absurd hc (h _)
  | (refine (Any.strconv_Atoi_syntax_var Tryz.laysC172 ⟨s.toArray⟩ (by simp [ByteArray.size]; omega) (by simpa using hc) tp p w hv).mono ?_; rintro e w' ⟨N, rfl, _, _, hb⟩; exact ⟨_, N, rfl, hb⟩)
  | (refine (Any.strconv_Atoi_range_var Tryz.laysC172 ⟨s.toArray⟩ (by simp [ByteArray.size]; omega) (by simpa using hc) tq q w hr).mono ?_; rintro e w' ⟨N, rfl, _, _, hb⟩; exact ⟨_, N, rfl, hb⟩)
theorem Z59 (s p : Txt) (w : World) : Calls Tryz.prog 138 #[.string ⟨s.toArray⟩, .string ⟨p.toArray⟩] w fun e w' => e = .returned (.bool (Lib.hasPrefix s p)) /\ w' = w := by
 exact Any.strings_HasPrefix Tryz.lays99 ⟨s.toArray⟩ ⟨p.toArray⟩ w
theorem Y0m (s : Txt) (c : Int) (w : World) : Calls Tryz.prog 139 #[.string ⟨s.toArray⟩, .int .u8 c] w fun e w' => e = .returned (.int .i64 (Lib.indexByte s c.toNat.toUInt8)) /\ w' = w := by
 exact Any.strings_IndexByte Tryz.lays137 ⟨s.toArray⟩ c w
end Go.Proofs.YtlopccnehgolnabGreatDoor
