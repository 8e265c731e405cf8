/- sort.Slice, as this program calls it. No condition. -/
import Derived.Test.YtkfoebbjncngjaaQT
import Derived.Shelf.Lay
import Derived.Deep.QuietTactic
import Derived.Test.YtkfoebbjncngjaaProg
namespace Go.Proofs
open Go.Shelf
def Try.laysGg6_ren : Go.Shelf.Ren := ⟨fun | 6 => 107 | 10 => 130 | 11 => 131 | 12 => 132 | 13 => 133 | 14 => 134 | 24 => 150 | 25 => 151 | 26 => 152 | 27 => 153 | 28 => 154 | 29 => 155 | 30 => 156 | 31 => 157 | 32 => 158 | 33 => 159 | 34 => 161 | 35 => 162 | 36 => 163 | 37 => 164 | 38 => 165 | 39 => 166 | n => n, fun | 20 => 20 | 26 => 71 | 35 => 168 | 0 => 0 | 37 => 170 | 3 => 3 | 41 => 155 | 44 => 175 | 49 => 177 | 51 => 126 | 4 => 4 | 54 => 190 | 53 => 189 | 58 => 194 | 5 => 5 | 9 => 9 | 60 => 197 | 64 => 201 | 66 => 203 | 67 => 204 | 17 => 17 | 32 => 165 | 33 => 166 | 82 => 217 | 12 => 12 | 75 => 211 | 76 => 212 | 77 => 213 | 78 => 156 | 79 => 214 | 80 => 215 | n => n, fun | n => n⟩
theorem Try.laysGg6 : Go.Proofs.LaysGg.n6 Try.prog Try.laysGg6_ren := {
 mixed := by kernel_rfl
 f6 := Try.func107.trans (congrArg some (by kernel_rfl))
 f10 := Try.func130.trans (congrArg some (by kernel_rfl))
 f11 := Try.func131.trans (congrArg some (by kernel_rfl))
 f12 := Try.func132.trans (congrArg some (by kernel_rfl))
 f13 := Try.func133.trans (congrArg some (by kernel_rfl))
 f14 := Try.func134.trans (congrArg some (by kernel_rfl))
 f24 := Try.func150.trans (congrArg some (by kernel_rfl))
 f25 := Try.func151.trans (congrArg some (by kernel_rfl))
 f26 := Try.func152.trans (congrArg some (by kernel_rfl))
 f27 := Try.func153.trans (congrArg some (by kernel_rfl))
 f28 := Try.func154.trans (congrArg some (by kernel_rfl))
 f29 := Try.func155.trans (congrArg some (by kernel_rfl))
 f30 := Try.func156.trans (congrArg some (by kernel_rfl))
 f31 := Try.func157.trans (congrArg some (by kernel_rfl))
 f32 := Try.func158.trans (congrArg some (by kernel_rfl))
 f33 := Try.func159.trans (congrArg some (by kernel_rfl))
 f34 := Try.func161.trans (congrArg some (by kernel_rfl))
 f35 := Try.func162.trans (congrArg some (by kernel_rfl))
 f36 := Try.func163.trans (congrArg some (by kernel_rfl))
 f37 := Try.func164.trans (congrArg some (by kernel_rfl))
 f38 := Try.func165.trans (congrArg some (by kernel_rfl))
 f39 := Try.func166.trans (congrArg some (by kernel_rfl))
 t0 := Try.underlying0
 a0 := Try.isAgg0
 z0 := Try.sizeOf0
 v0 := Try.zeroValue0
 i0 := by kernel_rfl
 t3 := Try.underlying3
 a3 := Try.isAgg3
 z3 := Try.sizeOf3
 v3 := Try.zeroValue3
 i3 := by kernel_rfl
 t4 := Try.underlying4
 a4 := Try.isAgg4
 z4 := Try.sizeOf4
 v4 := Try.zeroValue4
 i4 := by kernel_rfl
 t5 := Try.underlying5
 a5 := Try.isAgg5
 z5 := Try.sizeOf5
 v5 := Try.zeroValue5
 i5 := by kernel_rfl
 t9 := Try.underlying9
 a9 := Try.isAgg9
 z9 := Try.sizeOf9
 v9 := Try.zeroValue9
 i9 := by kernel_rfl
 t12 := Try.underlying12
 a12 := Try.isAgg12
 z12 := Try.sizeOf12
 v12 := Try.zeroValue12
 i12 := by kernel_rfl
 t17 := Try.underlying17
 a17 := Try.isAgg17
 z17 := Try.sizeOf17
 v17 := Try.zeroValue17
 i17 := by kernel_rfl
 t20 := Try.underlying20
 a20 := Try.isAgg20
 z20 := Try.sizeOf20
 v20 := Try.zeroValue20
 i20 := by kernel_rfl
 t26 := Try.underlying71
 a26 := Try.isAgg71
 z26 := Try.sizeOf71
 v26 := Try.zeroValue71
 i26 := by kernel_rfl
 t32 := Try.underlying165
 a32 := Try.isAgg165
 z32 := Try.sizeOf165
 v32 := Try.zeroValue165
 i32 := by kernel_rfl
 t33 := Try.underlying166
 a33 := Try.isAgg166
 z33 := Try.sizeOf166
 v33 := Try.zeroValue166
 i33 := by kernel_rfl
 t35 := Try.underlying168
 a35 := Try.isAgg168
 z35 := Try.sizeOf168
 v35 := Try.zeroValue168
 i35 := by kernel_rfl
 t37 := Try.underlying170
 a37 := Try.isAgg170
 z37 := Try.sizeOf170
 v37 := Try.zeroValue170
 i37 := by kernel_rfl
 t41 := Try.underlying155
 a41 := Try.isAgg155
 z41 := Try.sizeOf155
 v41 := Try.zeroValue155
 i41 := by kernel_rfl
 t44 := Try.underlying175
 a44 := Try.isAgg175
 z44 := Try.sizeOf175
 v44 := Try.zeroValue175
 i44 := by kernel_rfl
 t49 := Try.underlying177
 a49 := Try.isAgg177
 z49 := Try.sizeOf177
 v49 := Try.zeroValue177
 i49 := by kernel_rfl
 t51 := Try.underlying126
 a51 := Try.isAgg126
 z51 := Try.sizeOf126
 v51 := Try.zeroValue126
 i51 := by kernel_rfl
 t53 := Try.underlying189
 a53 := Try.isAgg189
 z53 := Try.sizeOf189
 v53 := Try.zeroValue189
 i53 := by kernel_rfl
 t54 := Try.underlying190
 a54 := Try.isAgg190
 z54 := Try.sizeOf190
 v54 := Try.zeroValue190
 i54 := by kernel_rfl
 t58 := Try.underlying194
 a58 := Try.isAgg194
 z58 := Try.sizeOf194
 v58 := Try.zeroValue194
 i58 := by kernel_rfl
 t60 := Try.underlying197
 a60 := Try.isAgg197
 z60 := Try.sizeOf197
 v60 := Try.zeroValue197
 i60 := by kernel_rfl
 t64 := Try.underlying201
 a64 := Try.isAgg201
 z64 := Try.sizeOf201
 v64 := Try.zeroValue201
 i64 := by kernel_rfl
 t66 := Try.underlying203
 a66 := Try.isAgg203
 z66 := Try.sizeOf203
 v66 := Try.zeroValue203
 i66 := by kernel_rfl
 t67 := Try.underlying204
 a67 := Try.isAgg204
 z67 := Try.sizeOf204
 v67 := Try.zeroValue204
 i67 := by kernel_rfl
 t75 := Try.underlying211
 a75 := Try.isAgg211
 z75 := Try.sizeOf211
 v75 := Try.zeroValue211
 i75 := by kernel_rfl
 t76 := Try.underlying212
 a76 := Try.isAgg212
 z76 := Try.sizeOf212
 v76 := Try.zeroValue212
 i76 := by kernel_rfl
 t77 := Try.underlying213
 a77 := Try.isAgg213
 z77 := Try.sizeOf213
 v77 := Try.zeroValue213
 i77 := by kernel_rfl
 t78 := Try.underlying156
 a78 := Try.isAgg156
 z78 := Try.sizeOf156
 v78 := Try.zeroValue156
 i78 := by kernel_rfl
 t79 := Try.underlying214
 a79 := Try.isAgg214
 z79 := Try.sizeOf214
 v79 := Try.zeroValue214
 i79 := by kernel_rfl
 t80 := Try.underlying215
 a80 := Try.isAgg215
 z80 := Try.sizeOf215
 v80 := Try.zeroValue215
 i80 := by kernel_rfl
 t82 := Try.underlying217
 a82 := Try.isAgg217
 z82 := Try.sizeOf217
 v82 := Try.zeroValue217
 i82 := by kernel_rfl }
namespace Ytkfoebbjncngjaa.V
open Go Go.RowKit Go.Shelf Go.Lib Go.Sort Go.Proofs.Ytkfoebbjncngjaa.R
set_option maxHeartbeats 2000000 in
theorem Ace : Aed Try.prog 108 := by
 intro blk off c bs size W G hs hc i j hi hj _hsz
 have ci := hc i hi
 have cj := hc j hj
 go_enter Try.func108, Try.ntmps108
 go_wp2
 go_quiet (fail)
 go_wp2
 go_ret
 exact ⟨rfl, nq, rfl⟩
noncomputable def svT : TypeInfo := (Try.prog.info? 28).get (by kernel_rfl)
noncomputable def svE : TypeInfo := (Try.prog.info? 96).get (by kernel_rfl)
theorem svK (n : Nat) (h2 : 2 ≤ n) : swapperK n svE 25 = 9 := by
 have a : svE.hasPointers = true := by kernel_rfl
 have b : (svE.bytes == 8) = false := by kernel_rfl
 have c : (n == 0) = false := by simp; omega
 have d : (n == 1) = false := by simp; omega
 simp [swapperK, a, b, c, d]
end Ytkfoebbjncngjaa.V
namespace Ytkfoebbjncngjaa.R
open Go Go.RowKit Go.Shelf Go.Lib Go.Sort Go.Proofs.Ytkfoebbjncngjaa.V
theorem Acf : Yv Try.prog 107 108 30 28 96 :=
 x4 (ρ := Try.laysGg6_ren) Try.laysGg6 (i := svT) (ie := svE) (by kernel_rfl) (by kernel_rfl) (by kernel_rfl) (by kernel_rfl) 25 (fun _ => by kernel_rfl) (by kernel_rfl) (fun _ => by kernel_rfl)
  (enters_of Try.func108 (by kernel_rfl) rfl) 149 141 142 (fun n h2 => by rw [svK n h2]; kernel_rfl) (by kernel_rfl) (by kernel_rfl) false
  (fun args W => run_callFunc_extern Try.func149 (by kernel_rfl) (by kernel_rfl) (by kernel_rfl) (e := Extern.ReflectliteSwapper.swap false) (by kernel_rfl) args W) Ace
end Ytkfoebbjncngjaa.R
end Go.Proofs

