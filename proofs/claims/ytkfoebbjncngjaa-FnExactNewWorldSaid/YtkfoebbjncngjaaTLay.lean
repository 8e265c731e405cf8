/- The library functions of this program, told by their bodies. No condition. -/
import Derived.Test.YtkfoebbjncngjaaRBld
import Derived.Shelf.Strings.Repeat
import Derived.Test.YtkfoebbjncngjaaProg
namespace Go.Proofs
open Go.Shelf
def Try.lays105_ren : Go.Shelf.Ren := ⟨fun | 105 => 79 | 212 => 119 | 99 => 120 | 165 => 121 | 166 => 67 | 170 => 122 | 169 => 69 | 263 => 136 | 264 => 137 | 206 => 138 | 240 => 118 | 241 => 139 | 276 => 135 | 277 => 160 | n => n, fun | 9 => 9 | 3 => 3 | 4 => 4 | 20 => 20 | 0 => 0 | 46 => 155 | 109 => 157 | 5 => 5 | 72 => 108 | 76 => 111 | 51 => 177 | 146 => 178 | 53 => 126 | 148 => 180 | 70 => 106 | 37 => 37 | 75 => 110 | 127 => 156 | 164 => 165 | 80 => 114 | n => n, fun | n => n⟩
theorem Try.lays105 : Go.Proofs.Lays.n105 Try.prog Try.lays105_ren := {
 mixed := by kernel_rfl
 f99 := Try.func120.trans (congrArg some (by kernel_rfl))
 f105 := Try.func79.trans (congrArg some (by kernel_rfl))
 f165 := Try.func121.trans (congrArg some (by kernel_rfl))
 f166 := Try.func67.trans (congrArg some (by kernel_rfl))
 f169 := Try.func69.trans (congrArg some (by kernel_rfl))
 f170 := Try.func122.trans (congrArg some (by kernel_rfl))
 f206 := Try.func138.trans (congrArg some (by kernel_rfl))
 f212 := Try.func119.trans (congrArg some (by kernel_rfl))
 f240 := Try.func118.trans (congrArg some (by kernel_rfl))
 f241 := Try.func139.trans (congrArg some (by kernel_rfl))
 f263 := Try.func136.trans (congrArg some (by kernel_rfl))
 f264 := Try.func137.trans (congrArg some (by kernel_rfl))
 f276 := Try.func135.trans (congrArg some (by kernel_rfl))
 f277 := Try.func160.trans (congrArg some (by kernel_rfl))
 t0 := Try.underlying0
 a0 := Try.isAgg0
 z0 := Try.sizeOf0
 v0 := Try.zeroValue0
 t3 := Try.underlying3
 a3 := Try.isAgg3
 z3 := Try.sizeOf3
 v3 := Try.zeroValue3
 t4 := Try.underlying4
 a4 := Try.isAgg4
 z4 := Try.sizeOf4
 v4 := Try.zeroValue4
 t5 := Try.underlying5
 a5 := Try.isAgg5
 z5 := Try.sizeOf5
 v5 := Try.zeroValue5
 t9 := Try.underlying9
 a9 := Try.isAgg9
 z9 := Try.sizeOf9
 v9 := Try.zeroValue9
 t20 := Try.underlying20
 a20 := Try.isAgg20
 z20 := Try.sizeOf20
 v20 := Try.zeroValue20
 t37 := Try.underlying37
 a37 := Try.isAgg37
 z37 := Try.sizeOf37
 v37 := Try.zeroValue37
 t46 := Try.underlying155
 a46 := Try.isAgg155
 z46 := Try.sizeOf155
 v46 := Try.zeroValue155
 t51 := Try.underlying177
 a51 := Try.isAgg177
 z51 := Try.sizeOf177
 v51 := Try.zeroValue177
 t53 := Try.underlying126
 a53 := Try.isAgg126
 z53 := Try.sizeOf126
 v53 := Try.zeroValue126
 t70 := Try.underlying106
 a70 := Try.isAgg106
 z70 := Try.sizeOf106
 v70 := Try.zeroValue106
 t72 := Try.underlying108
 a72 := Try.isAgg108
 z72 := Try.sizeOf108
 v72 := Try.zeroValue108
 t75 := Try.underlying110
 a75 := Try.isAgg110
 z75 := Try.sizeOf110
 v75 := Try.zeroValue110
 t76 := Try.underlying111
 a76 := Try.isAgg111
 z76 := Try.sizeOf111
 v76 := Try.zeroValue111
 t109 := Try.underlying157
 a109 := Try.isAgg157
 z109 := Try.sizeOf157
 v109 := Try.zeroValue157
 t127 := Try.underlying156
 a127 := Try.isAgg156
 z127 := Try.sizeOf156
 v127 := Try.zeroValue156
 t146 := Try.underlying178
 a146 := Try.isAgg178
 z146 := Try.sizeOf178
 v146 := Try.zeroValue178
 t148 := Try.underlying180
 a148 := Try.isAgg180
 z148 := Try.sizeOf180
 v148 := Try.zeroValue180
 t164 := Try.underlying165
 a164 := Try.isAgg165
 z164 := Try.sizeOf165
 v164 := Try.zeroValue165 }
theorem Try.Builder_Extra_105 : Builder.Extra Try.prog Try.lays105_ren := {
 sizeBuilder := by kernel_rfl
 liesBuilder := by kernel_rfl
 t5 := Try.underlying5
 a5 := Try.isAgg5
 z5 := Try.sizeOf5
 v5 := Try.zeroValue5
 infoByte := by kernel_rfl
 cellsByte := by kernel_rfl
 sizeByte := by kernel_rfl
 neB5 := by decide }
namespace Ytkfoebbjncngjaa.R
open Go Go.RowKit
theorem y8 : J6 Try.prog (Try.lays105_ren.f 105) ⟨[.rd .str, .rd (.int .i64)], [none, none], [.rd .str], [none]⟩ (fun x => (Pk x.1 x.2.1).bind fun r => some ((r, ()), ())) :=
 h9 fun a c r h w => by
  unfold Pk at h
  split at h
  ·rename_i hc
   cases h
   have := Any.strings_Repeat Try.lays105 Try.Builder_Extra_105 a c.toNat w (by omega) hc.2.2
   rw [Int.toNat_of_nonneg hc.1] at this
   exact this
  ·cases h
end Ytkfoebbjncngjaa.R
end Go.Proofs

