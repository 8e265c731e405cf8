/- The library functions of this program, told by their bodies. No condition. -/
import Derived.Test.YteaoabdlcefkhaaRBld
import Derived.Shelf.Strings.Repeat
import Derived.Test.YteaoabdlcefkhaaProg
namespace Go.Proofs
open Go.Shelf
def Try.lays169_ren : Go.Shelf.Ren := ⟨fun | 169 => 111 | n => n, fun | 70 => 156 | 9 => 9 | 0 => 0 | 72 => 158 | 37 => 46 | 127 => 202 | 3 => 3 | 5 => 5 | n => n, fun | n => n⟩
theorem Try.lays169 : Go.Proofs.Lays.n169 Try.prog Try.lays169_ren := {
  mixed := by kernel_rfl
  f169 := Try.func111.trans (congrArg some (by kernel_rfl))
  t0 := Try.underlying0
  a0 := Try.isAgg0
  z0 := Try.sizeOf0
  v0 := Try.zeroValue0
  t3 := Try.underlying3
  a3 := Try.isAgg3
  z3 := Try.sizeOf3
  v3 := Try.zeroValue3
  t9 := Try.underlying9
  a9 := Try.isAgg9
  z9 := Try.sizeOf9
  v9 := Try.zeroValue9
  t37 := Try.underlying46
  a37 := Try.isAgg46
  z37 := Try.sizeOf46
  v37 := Try.zeroValue46
  t70 := Try.underlying156
  a70 := Try.isAgg156
  z70 := Try.sizeOf156
  v70 := Try.zeroValue156
  t72 := Try.underlying158
  a72 := Try.isAgg158
  z72 := Try.sizeOf158
  v72 := Try.zeroValue158
  t127 := Try.underlying202
  a127 := Try.isAgg202
  z127 := Try.sizeOf202
  v127 := Try.zeroValue202 }
theorem Try.Builder_Extra_169 : Builder.Extra Try.prog Try.lays169_ren := {
  sizeBuilder := by kernel_rfl
  liesBuilder := by kernel_rfl
  t5 := Try.underlying5
  a5 := Try.isAgg5
  z5 := Try.sizeOf5
  v5 := Try.zeroValue5
  infoByte := by kernel_rfl
  cellsByte := by kernel_rfl
  sizeByte := by kernel_rfl
  neB5 := by decide }
def Try.lays105_ren : Go.Shelf.Ren := ⟨fun | 105 => 98 | 212 => 150 | 99 => 151 | 165 => 152 | 166 => 110 | 170 => 153 | 169 => 111 | 263 => 175 | 264 => 176 | 206 => 177 | 240 => 160 | 241 => 178 | 276 => 198 | 277 => 203 | n => n, fun | 9 => 9 | 3 => 3 | 4 => 4 | 20 => 20 | 0 => 0 | 46 => 180 | 109 => 186 | 5 => 5 | 72 => 158 | 76 => 161 | 51 => 218 | 146 => 219 | 53 => 212 | 148 => 221 | 70 => 156 | 37 => 46 | 75 => 160 | 127 => 202 | 164 => 191 | 80 => 113 | n => n, fun | n => n⟩
theorem Try.lays105 : Go.Proofs.Lays.n105 Try.prog Try.lays105_ren := {
  mixed := by kernel_rfl
  f99 := Try.func151.trans (congrArg some (by kernel_rfl))
  f105 := Try.func98.trans (congrArg some (by kernel_rfl))
  f165 := Try.func152.trans (congrArg some (by kernel_rfl))
  f166 := Try.func110.trans (congrArg some (by kernel_rfl))
  f169 := Try.func111.trans (congrArg some (by kernel_rfl))
  f170 := Try.func153.trans (congrArg some (by kernel_rfl))
  f206 := Try.func177.trans (congrArg some (by kernel_rfl))
  f212 := Try.func150.trans (congrArg some (by kernel_rfl))
  f240 := Try.func160.trans (congrArg some (by kernel_rfl))
  f241 := Try.func178.trans (congrArg some (by kernel_rfl))
  f263 := Try.func175.trans (congrArg some (by kernel_rfl))
  f264 := Try.func176.trans (congrArg some (by kernel_rfl))
  f276 := Try.func198.trans (congrArg some (by kernel_rfl))
  f277 := Try.func203.trans (congrArg some (by kernel_rfl))
  t0 := Try.underlying0
  a0 := Try.isAgg0
  z0 := Try.sizeOf0
  v0 := Try.zeroValue0
  t3 := Try.underlying3
  a3 := Try.isAgg3
  z3 := Try.sizeOf3
  v3 := Try.zeroValue3
  t4 := Try.underlying4
  a4 := Try.isAgg4
  z4 := Try.sizeOf4
  v4 := Try.zeroValue4
  t5 := Try.underlying5
  a5 := Try.isAgg5
  z5 := Try.sizeOf5
  v5 := Try.zeroValue5
  t9 := Try.underlying9
  a9 := Try.isAgg9
  z9 := Try.sizeOf9
  v9 := Try.zeroValue9
  t20 := Try.underlying20
  a20 := Try.isAgg20
  z20 := Try.sizeOf20
  v20 := Try.zeroValue20
  t37 := Try.underlying46
  a37 := Try.isAgg46
  z37 := Try.sizeOf46
  v37 := Try.zeroValue46
  t46 := Try.underlying180
  a46 := Try.isAgg180
  z46 := Try.sizeOf180
  v46 := Try.zeroValue180
  t51 := Try.underlying218
  a51 := Try.isAgg218
  z51 := Try.sizeOf218
  v51 := Try.zeroValue218
  t53 := Try.underlying212
  a53 := Try.isAgg212
  z53 := Try.sizeOf212
  v53 := Try.zeroValue212
  t70 := Try.underlying156
  a70 := Try.isAgg156
  z70 := Try.sizeOf156
  v70 := Try.zeroValue156
  t72 := Try.underlying158
  a72 := Try.isAgg158
  z72 := Try.sizeOf158
  v72 := Try.zeroValue158
  t75 := Try.underlying160
  a75 := Try.isAgg160
  z75 := Try.sizeOf160
  v75 := Try.zeroValue160
  t76 := Try.underlying161
  a76 := Try.isAgg161
  z76 := Try.sizeOf161
  v76 := Try.zeroValue161
  t109 := Try.underlying186
  a109 := Try.isAgg186
  z109 := Try.sizeOf186
  v109 := Try.zeroValue186
  t127 := Try.underlying202
  a127 := Try.isAgg202
  z127 := Try.sizeOf202
  v127 := Try.zeroValue202
  t146 := Try.underlying219
  a146 := Try.isAgg219
  z146 := Try.sizeOf219
  v146 := Try.zeroValue219
  t148 := Try.underlying221
  a148 := Try.isAgg221
  z148 := Try.sizeOf221
  v148 := Try.zeroValue221
  t164 := Try.underlying191
  a164 := Try.isAgg191
  z164 := Try.sizeOf191
  v164 := Try.zeroValue191 }
theorem Try.Builder_Extra_105 : Builder.Extra Try.prog Try.lays105_ren := {
  sizeBuilder := by kernel_rfl
  liesBuilder := by kernel_rfl
  t5 := Try.underlying5
  a5 := Try.isAgg5
  z5 := Try.sizeOf5
  v5 := Try.zeroValue5
  infoByte := by kernel_rfl
  cellsByte := by kernel_rfl
  sizeByte := by kernel_rfl
  neB5 := by decide }
namespace Yteaoabdlcefkhaa.R
open Go Go.RowKit
theorem cc_seat : CcOk Try.prog (Try.lays105_ren.t 72) (Try.lays105_ren.f 240) := ccOk { Try.lays105 with } Try.Builder_Extra_105.toX72
theorem st_seat : StOk Try.prog (Try.lays169_ren.t 72) (Try.lays169_ren.t 5) (Try.lays169_ren.f 169) := stOk Try.lays169 Try.Builder_Extra_169
theorem rep_seat : Sound Try.prog (Try.lays105_ren.f 105) ⟨[.rd .str, .rd (.int .i64)], [none, none], [.rd .str], [none]⟩ (fun x => (repStr x.1 x.2.1).bind fun r => some ((r, ()), ())) :=
  str_sound fun a c r h w => by
    unfold repStr at h
    split at h
    · rename_i hc
      cases h
      have := Any.strings_Repeat Try.lays105 Try.Builder_Extra_105 a c.toNat w (by omega) hc.2.2
      rw [Int.toNat_of_nonneg hc.1] at this
      exact this
    · cases h
end Yteaoabdlcefkhaa.R
end Go.Proofs
