/- sort.Slice, as this program calls it. No condition. -/
import Derived.Test.YteaoabdlcefkhaaGreatQT
import Derived.Shelf.Lay
import Derived.Deep.QuietTactic
import Derived.Test.YteaoabdlcefkhaaGreatProg
namespace Go.Proofs
open Go.Shelf
def Tryz.laysGg6_ren : Go.Shelf.Ren := ⟨fun | 6 => 170 | 10 => 209 | 11 => 210 | 12 => 211 | 13 => 212 | 14 => 213 | 24 => 233 | 25 => 234 | 26 => 235 | 27 => 236 | 28 => 237 | 29 => 238 | 30 => 239 | 31 => 240 | 32 => 241 | 33 => 242 | 34 => 249 | 35 => 250 | 36 => 251 | 37 => 252 | 38 => 253 | 39 => 255 | n => n, fun | 20 => 20 | 26 => 194 | 35 => 232 | 0 => 0 | 37 => 234 | 3 => 3 | 41 => 224 | 44 => 240 | 49 => 254 | 51 => 225 | 4 => 4 | 54 => 258 | 53 => 257 | 58 => 262 | 5 => 5 | 9 => 9 | 60 => 270 | 64 => 274 | 66 => 277 | 67 => 278 | 17 => 17 | 32 => 229 | 33 => 230 | 82 => 291 | 12 => 12 | 75 => 285 | 76 => 286 | 77 => 287 | 78 => 241 | 79 => 288 | 80 => 289 | n => n, fun | n => n⟩
theorem Tryz.laysGg6 : Go.Proofs.LaysGg.n6 Tryz.prog Tryz.laysGg6_ren := {
 mixed := by kernel_rfl
 f6 := Tryz.func170.trans (congrArg some (by kernel_rfl))
 f10 := Tryz.func209.trans (congrArg some (by kernel_rfl))
 f11 := Tryz.func210.trans (congrArg some (by kernel_rfl))
 f12 := Tryz.func211.trans (congrArg some (by kernel_rfl))
 f13 := Tryz.func212.trans (congrArg some (by kernel_rfl))
 f14 := Tryz.func213.trans (congrArg some (by kernel_rfl))
 f24 := Tryz.func233.trans (congrArg some (by kernel_rfl))
 f25 := Tryz.func234.trans (congrArg some (by kernel_rfl))
 f26 := Tryz.func235.trans (congrArg some (by kernel_rfl))
 f27 := Tryz.func236.trans (congrArg some (by kernel_rfl))
 f28 := Tryz.func237.trans (congrArg some (by kernel_rfl))
 f29 := Tryz.func238.trans (congrArg some (by kernel_rfl))
 f30 := Tryz.func239.trans (congrArg some (by kernel_rfl))
 f31 := Tryz.func240.trans (congrArg some (by kernel_rfl))
 f32 := Tryz.func241.trans (congrArg some (by kernel_rfl))
 f33 := Tryz.func242.trans (congrArg some (by kernel_rfl))
 f34 := Tryz.func249.trans (congrArg some (by kernel_rfl))
 f35 := Tryz.func250.trans (congrArg some (by kernel_rfl))
 f36 := Tryz.func251.trans (congrArg some (by kernel_rfl))
 f37 := Tryz.func252.trans (congrArg some (by kernel_rfl))
 f38 := Tryz.func253.trans (congrArg some (by kernel_rfl))
 f39 := Tryz.func255.trans (congrArg some (by kernel_rfl))
 t0 := Tryz.underlying0
 a0 := Tryz.isAgg0
 z0 := Tryz.sizeOf0
 v0 := Tryz.zeroValue0
 i0 := by kernel_rfl
 t3 := Tryz.underlying3
 a3 := Tryz.isAgg3
 z3 := Tryz.sizeOf3
 v3 := Tryz.zeroValue3
 i3 := by kernel_rfl
 t4 := Tryz.underlying4
 a4 := Tryz.isAgg4
 z4 := Tryz.sizeOf4
 v4 := Tryz.zeroValue4
 i4 := by kernel_rfl
 t5 := Tryz.underlying5
 a5 := Tryz.isAgg5
 z5 := Tryz.sizeOf5
 v5 := Tryz.zeroValue5
 i5 := by kernel_rfl
 t9 := Tryz.underlying9
 a9 := Tryz.isAgg9
 z9 := Tryz.sizeOf9
 v9 := Tryz.zeroValue9
 i9 := by kernel_rfl
 t12 := Tryz.underlying12
 a12 := Tryz.isAgg12
 z12 := Tryz.sizeOf12
 v12 := Tryz.zeroValue12
 i12 := by kernel_rfl
 t17 := Tryz.underlying17
 a17 := Tryz.isAgg17
 z17 := Tryz.sizeOf17
 v17 := Tryz.zeroValue17
 i17 := by kernel_rfl
 t20 := Tryz.underlying20
 a20 := Tryz.isAgg20
 z20 := Tryz.sizeOf20
 v20 := Tryz.zeroValue20
 i20 := by kernel_rfl
 t26 := Tryz.underlying194
 a26 := Tryz.isAgg194
 z26 := Tryz.sizeOf194
 v26 := Tryz.zeroValue194
 i26 := by kernel_rfl
 t32 := Tryz.underlying229
 a32 := Tryz.isAgg229
 z32 := Tryz.sizeOf229
 v32 := Tryz.zeroValue229
 i32 := by kernel_rfl
 t33 := Tryz.underlying230
 a33 := Tryz.isAgg230
 z33 := Tryz.sizeOf230
 v33 := Tryz.zeroValue230
 i33 := by kernel_rfl
 t35 := Tryz.underlying232
 a35 := Tryz.isAgg232
 z35 := Tryz.sizeOf232
 v35 := Tryz.zeroValue232
 i35 := by kernel_rfl
 t37 := Tryz.underlying234
 a37 := Tryz.isAgg234
 z37 := Tryz.sizeOf234
 v37 := Tryz.zeroValue234
 i37 := by kernel_rfl
 t41 := Tryz.underlying224
 a41 := Tryz.isAgg224
 z41 := Tryz.sizeOf224
 v41 := Tryz.zeroValue224
 i41 := by kernel_rfl
 t44 := Tryz.underlying240
 a44 := Tryz.isAgg240
 z44 := Tryz.sizeOf240
 v44 := Tryz.zeroValue240
 i44 := by kernel_rfl
 t49 := Tryz.underlying254
 a49 := Tryz.isAgg254
 z49 := Tryz.sizeOf254
 v49 := Tryz.zeroValue254
 i49 := by kernel_rfl
 t51 := Tryz.underlying225
 a51 := Tryz.isAgg225
 z51 := Tryz.sizeOf225
 v51 := Tryz.zeroValue225
 i51 := by kernel_rfl
 t53 := Tryz.underlying257
 a53 := Tryz.isAgg257
 z53 := Tryz.sizeOf257
 v53 := Tryz.zeroValue257
 i53 := by kernel_rfl
 t54 := Tryz.underlying258
 a54 := Tryz.isAgg258
 z54 := Tryz.sizeOf258
 v54 := Tryz.zeroValue258
 i54 := by kernel_rfl
 t58 := Tryz.underlying262
 a58 := Tryz.isAgg262
 z58 := Tryz.sizeOf262
 v58 := Tryz.zeroValue262
 i58 := by kernel_rfl
 t60 := Tryz.underlying270
 a60 := Tryz.isAgg270
 z60 := Tryz.sizeOf270
 v60 := Tryz.zeroValue270
 i60 := by kernel_rfl
 t64 := Tryz.underlying274
 a64 := Tryz.isAgg274
 z64 := Tryz.sizeOf274
 v64 := Tryz.zeroValue274
 i64 := by kernel_rfl
 t66 := Tryz.underlying277
 a66 := Tryz.isAgg277
 z66 := Tryz.sizeOf277
 v66 := Tryz.zeroValue277
 i66 := by kernel_rfl
 t67 := Tryz.underlying278
 a67 := Tryz.isAgg278
 z67 := Tryz.sizeOf278
 v67 := Tryz.zeroValue278
 i67 := by kernel_rfl
 t75 := Tryz.underlying285
 a75 := Tryz.isAgg285
 z75 := Tryz.sizeOf285
 v75 := Tryz.zeroValue285
 i75 := by kernel_rfl
 t76 := Tryz.underlying286
 a76 := Tryz.isAgg286
 z76 := Tryz.sizeOf286
 v76 := Tryz.zeroValue286
 i76 := by kernel_rfl
 t77 := Tryz.underlying287
 a77 := Tryz.isAgg287
 z77 := Tryz.sizeOf287
 v77 := Tryz.zeroValue287
 i77 := by kernel_rfl
 t78 := Tryz.underlying241
 a78 := Tryz.isAgg241
 z78 := Tryz.sizeOf241
 v78 := Tryz.zeroValue241
 i78 := by kernel_rfl
 t79 := Tryz.underlying288
 a79 := Tryz.isAgg288
 z79 := Tryz.sizeOf288
 v79 := Tryz.zeroValue288
 i79 := by kernel_rfl
 t80 := Tryz.underlying289
 a80 := Tryz.isAgg289
 z80 := Tryz.sizeOf289
 v80 := Tryz.zeroValue289
 i80 := by kernel_rfl
 t82 := Tryz.underlying291
 a82 := Tryz.isAgg291
 z82 := Tryz.sizeOf291
 v82 := Tryz.zeroValue291
 i82 := by kernel_rfl }
namespace YteaoabdlcefkhaaGreat.V
open Go Go.RowKit Go.Shelf Go.Lib Go.Sort Go.Proofs.YteaoabdlcefkhaaGreat.R
set_option maxHeartbeats 2000000 in
theorem A0d : A2a Tryz.prog 171 := by
 intro blk off c bs size W G hs hc i j hi hj _hsz
 have ci := hc i hi
 have cj := hc j hj
 go_enter Tryz.func171, Tryz.ntmps171
 go_wp2
 go_quiet (fail)
 go_wp2
 go_ret
 exact ⟨rfl, nq, rfl⟩
noncomputable def svT : TypeInfo := (Tryz.prog.info? 29).get (by kernel_rfl)
noncomputable def svE : TypeInfo := (Tryz.prog.info? 167).get (by kernel_rfl)
theorem svK (n : Nat) (h2 : 2 ≤ n) : swapperK n svE 25 = 9 := by
 have a : svE.hasPointers = true := by kernel_rfl
 have b : (svE.bytes == 8) = false := by kernel_rfl
 have c : (n == 0) = false := by simp; omega
 have d : (n == 1) = false := by simp; omega
 simp [swapperK, a, b, c, d]
end YteaoabdlcefkhaaGreat.V
namespace YteaoabdlcefkhaaGreat.R
open Go Go.RowKit Go.Shelf Go.Lib Go.Sort Go.Proofs.YteaoabdlcefkhaaGreat.V
theorem A0e : Ar2 Tryz.prog 170 171 31 29 167 :=
 Axn (ρ := Tryz.laysGg6_ren) Tryz.laysGg6 (i := svT) (ie := svE) (by kernel_rfl) (by kernel_rfl) (by kernel_rfl) (by kernel_rfl) 25 (fun _ => by kernel_rfl) (by kernel_rfl) (fun _ => by kernel_rfl)
  (enters_of Tryz.func171 (by kernel_rfl) rfl) 232 224 225 (fun n h2 => by rw [svK n h2]; kernel_rfl) (by kernel_rfl) (by kernel_rfl) false
  (fun args W => run_callFunc_extern Tryz.func232 (by kernel_rfl) (by kernel_rfl) (by kernel_rfl) (e := Extern.ReflectliteSwapper.swap false) (by kernel_rfl) args W) A0d
end YteaoabdlcefkhaaGreat.R
end Go.Proofs

