/- sort.Slice, as this program calls it. No condition. -/
import Derived.Test.YtjoiklaecelalaaQT
import Derived.Shelf.Lay
import Derived.Deep.QuietTactic
import Derived.Test.YtjoiklaecelalaaProg
namespace Go.Proofs
open Go.Shelf
def Try.laysGg6_ren : Go.Shelf.Ren := ⟨fun | 6 => 144 | 10 => 181 | 11 => 182 | 12 => 183 | 13 => 184 | 14 => 185 | 24 => 201 | 25 => 202 | 26 => 203 | 27 => 204 | 28 => 205 | 29 => 206 | 30 => 207 | 31 => 208 | 32 => 209 | 33 => 210 | 34 => 216 | 35 => 217 | 36 => 218 | 37 => 219 | 38 => 220 | 39 => 222 | n => n, fun | 20 => 20 | 26 => 75 | 35 => 213 | 0 => 0 | 37 => 215 | 3 => 3 | 41 => 219 | 44 => 222 | 49 => 234 | 51 => 199 | 4 => 4 | 54 => 238 | 53 => 237 | 58 => 242 | 5 => 5 | 9 => 9 | 60 => 249 | 64 => 253 | 66 => 256 | 67 => 257 | 17 => 17 | 32 => 210 | 33 => 211 | 82 => 270 | 12 => 12 | 75 => 264 | 76 => 265 | 77 => 266 | 78 => 225 | 79 => 267 | 80 => 268 | n => n, fun | n => n⟩
theorem Try.laysGg6 : Go.Proofs.LaysGg.n6 Try.prog Try.laysGg6_ren := {
  mixed := by kernel_rfl
  f6 := Try.func144.trans (congrArg some (by kernel_rfl))
  f10 := Try.func181.trans (congrArg some (by kernel_rfl))
  f11 := Try.func182.trans (congrArg some (by kernel_rfl))
  f12 := Try.func183.trans (congrArg some (by kernel_rfl))
  f13 := Try.func184.trans (congrArg some (by kernel_rfl))
  f14 := Try.func185.trans (congrArg some (by kernel_rfl))
  f24 := Try.func201.trans (congrArg some (by kernel_rfl))
  f25 := Try.func202.trans (congrArg some (by kernel_rfl))
  f26 := Try.func203.trans (congrArg some (by kernel_rfl))
  f27 := Try.func204.trans (congrArg some (by kernel_rfl))
  f28 := Try.func205.trans (congrArg some (by kernel_rfl))
  f29 := Try.func206.trans (congrArg some (by kernel_rfl))
  f30 := Try.func207.trans (congrArg some (by kernel_rfl))
  f31 := Try.func208.trans (congrArg some (by kernel_rfl))
  f32 := Try.func209.trans (congrArg some (by kernel_rfl))
  f33 := Try.func210.trans (congrArg some (by kernel_rfl))
  f34 := Try.func216.trans (congrArg some (by kernel_rfl))
  f35 := Try.func217.trans (congrArg some (by kernel_rfl))
  f36 := Try.func218.trans (congrArg some (by kernel_rfl))
  f37 := Try.func219.trans (congrArg some (by kernel_rfl))
  f38 := Try.func220.trans (congrArg some (by kernel_rfl))
  f39 := Try.func222.trans (congrArg some (by kernel_rfl))
  t0 := Try.underlying0
  a0 := Try.isAgg0
  z0 := Try.sizeOf0
  v0 := Try.zeroValue0
  i0 := by kernel_rfl
  t3 := Try.underlying3
  a3 := Try.isAgg3
  z3 := Try.sizeOf3
  v3 := Try.zeroValue3
  i3 := by kernel_rfl
  t4 := Try.underlying4
  a4 := Try.isAgg4
  z4 := Try.sizeOf4
  v4 := Try.zeroValue4
  i4 := by kernel_rfl
  t5 := Try.underlying5
  a5 := Try.isAgg5
  z5 := Try.sizeOf5
  v5 := Try.zeroValue5
  i5 := by kernel_rfl
  t9 := Try.underlying9
  a9 := Try.isAgg9
  z9 := Try.sizeOf9
  v9 := Try.zeroValue9
  i9 := by kernel_rfl
  t12 := Try.underlying12
  a12 := Try.isAgg12
  z12 := Try.sizeOf12
  v12 := Try.zeroValue12
  i12 := by kernel_rfl
  t17 := Try.underlying17
  a17 := Try.isAgg17
  z17 := Try.sizeOf17
  v17 := Try.zeroValue17
  i17 := by kernel_rfl
  t20 := Try.underlying20
  a20 := Try.isAgg20
  z20 := Try.sizeOf20
  v20 := Try.zeroValue20
  i20 := by kernel_rfl
  t26 := Try.underlying75
  a26 := Try.isAgg75
  z26 := Try.sizeOf75
  v26 := Try.zeroValue75
  i26 := by kernel_rfl
  t32 := Try.underlying210
  a32 := Try.isAgg210
  z32 := Try.sizeOf210
  v32 := Try.zeroValue210
  i32 := by kernel_rfl
  t33 := Try.underlying211
  a33 := Try.isAgg211
  z33 := Try.sizeOf211
  v33 := Try.zeroValue211
  i33 := by kernel_rfl
  t35 := Try.underlying213
  a35 := Try.isAgg213
  z35 := Try.sizeOf213
  v35 := Try.zeroValue213
  i35 := by kernel_rfl
  t37 := Try.underlying215
  a37 := Try.isAgg215
  z37 := Try.sizeOf215
  v37 := Try.zeroValue215
  i37 := by kernel_rfl
  t41 := Try.underlying219
  a41 := Try.isAgg219
  z41 := Try.sizeOf219
  v41 := Try.zeroValue219
  i41 := by kernel_rfl
  t44 := Try.underlying222
  a44 := Try.isAgg222
  z44 := Try.sizeOf222
  v44 := Try.zeroValue222
  i44 := by kernel_rfl
  t49 := Try.underlying234
  a49 := Try.isAgg234
  z49 := Try.sizeOf234
  v49 := Try.zeroValue234
  i49 := by kernel_rfl
  t51 := Try.underlying199
  a51 := Try.isAgg199
  z51 := Try.sizeOf199
  v51 := Try.zeroValue199
  i51 := by kernel_rfl
  t53 := Try.underlying237
  a53 := Try.isAgg237
  z53 := Try.sizeOf237
  v53 := Try.zeroValue237
  i53 := by kernel_rfl
  t54 := Try.underlying238
  a54 := Try.isAgg238
  z54 := Try.sizeOf238
  v54 := Try.zeroValue238
  i54 := by kernel_rfl
  t58 := Try.underlying242
  a58 := Try.isAgg242
  z58 := Try.sizeOf242
  v58 := Try.zeroValue242
  i58 := by kernel_rfl
  t60 := Try.underlying249
  a60 := Try.isAgg249
  z60 := Try.sizeOf249
  v60 := Try.zeroValue249
  i60 := by kernel_rfl
  t64 := Try.underlying253
  a64 := Try.isAgg253
  z64 := Try.sizeOf253
  v64 := Try.zeroValue253
  i64 := by kernel_rfl
  t66 := Try.underlying256
  a66 := Try.isAgg256
  z66 := Try.sizeOf256
  v66 := Try.zeroValue256
  i66 := by kernel_rfl
  t67 := Try.underlying257
  a67 := Try.isAgg257
  z67 := Try.sizeOf257
  v67 := Try.zeroValue257
  i67 := by kernel_rfl
  t75 := Try.underlying264
  a75 := Try.isAgg264
  z75 := Try.sizeOf264
  v75 := Try.zeroValue264
  i75 := by kernel_rfl
  t76 := Try.underlying265
  a76 := Try.isAgg265
  z76 := Try.sizeOf265
  v76 := Try.zeroValue265
  i76 := by kernel_rfl
  t77 := Try.underlying266
  a77 := Try.isAgg266
  z77 := Try.sizeOf266
  v77 := Try.zeroValue266
  i77 := by kernel_rfl
  t78 := Try.underlying225
  a78 := Try.isAgg225
  z78 := Try.sizeOf225
  v78 := Try.zeroValue225
  i78 := by kernel_rfl
  t79 := Try.underlying267
  a79 := Try.isAgg267
  z79 := Try.sizeOf267
  v79 := Try.zeroValue267
  i79 := by kernel_rfl
  t80 := Try.underlying268
  a80 := Try.isAgg268
  z80 := Try.sizeOf268
  v80 := Try.zeroValue268
  i80 := by kernel_rfl
  t82 := Try.underlying270
  a82 := Try.isAgg270
  z82 := Try.sizeOf270
  v82 := Try.zeroValue270
  i82 := by kernel_rfl }
namespace Ytjoiklaecelalaa.V
open Go Go.RowKit Go.Shelf Go.Lib Go.Sort Go.Proofs.Ytjoiklaecelalaa.R
set_option maxHeartbeats 2000000 in
theorem less_seat : LessOk Try.prog 145 := by
  intro blk off c bs size W G hs hc i j hi hj _hsz
  have ci := hc i hi
  have cj := hc j hj
  go_enter Try.func145, Try.ntmps145
  go_wp2
  go_quiet (fail)
  go_wp2
  go_ret
  exact ⟨rfl, nq, rfl⟩
noncomputable def svT : TypeInfo := (Try.prog.info? 28).get (by kernel_rfl)
noncomputable def svE : TypeInfo := (Try.prog.info? 133).get (by kernel_rfl)
theorem svK (n : Nat) (h2 : 2 ≤ n) : swapperK n svE 25 = 9 := by
  have a : svE.hasPointers = true := by kernel_rfl
  have b : (svE.bytes == 8) = false := by kernel_rfl
  have c : (n == 0) = false := by simp; omega
  have d : (n == 1) = false := by simp; omega
  simp [swapperK, a, b, c, d]
end Ytjoiklaecelalaa.V
namespace Ytjoiklaecelalaa.R
open Go Go.RowKit Go.Shelf Go.Lib Go.Sort Go.Proofs.Ytjoiklaecelalaa.V
theorem sort_seat : SortOk Try.prog 144 145 30 28 133 :=
  sort_ok_of (ρ := Try.laysGg6_ren) Try.laysGg6 (i := svT) (ie := svE) (by kernel_rfl) (by kernel_rfl) (by kernel_rfl) (by kernel_rfl) 25 (fun _ => by kernel_rfl) (by kernel_rfl) (fun _ => by kernel_rfl)
    (enters_of Try.func145 (by kernel_rfl) rfl) 200 192 193 (fun n h2 => by rw [svK n h2]; kernel_rfl) (by kernel_rfl) (by kernel_rfl) false
    (fun args W => run_callFunc_extern Try.func200 (by kernel_rfl) (by kernel_rfl) (by kernel_rfl) (e := Extern.ReflectliteSwapper.swap false) (by kernel_rfl) args W) less_seat
end Ytjoiklaecelalaa.R
end Go.Proofs
