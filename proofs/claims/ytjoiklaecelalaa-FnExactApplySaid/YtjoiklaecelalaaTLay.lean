/- The library functions of this program, told by their bodies. No condition. -/
import Derived.Test.YtjoiklaecelalaaRBld
import Derived.Shelf.Strings.Repeat
import Derived.Test.YtjoiklaecelalaaProg
namespace Go.Proofs
open Go.Shelf
def Try.lays169_ren : Go.Shelf.Ren := ⟨fun | 169 => 154 | n => n, fun | 70 => 179 | 9 => 9 | 0 => 0 | 72 => 181 | 37 => 104 | 127 => 225 | 3 => 3 | 5 => 5 | n => n, fun | n => n⟩
theorem Try.lays169 : Go.Proofs.Lays.n169 Try.prog Try.lays169_ren := {
  mixed := by kernel_rfl
  f169 := Try.func154.trans (congrArg some (by kernel_rfl))
  t0 := Try.underlying0
  a0 := Try.isAgg0
  z0 := Try.sizeOf0
  v0 := Try.zeroValue0
  t3 := Try.underlying3
  a3 := Try.isAgg3
  z3 := Try.sizeOf3
  v3 := Try.zeroValue3
  t9 := Try.underlying9
  a9 := Try.isAgg9
  z9 := Try.sizeOf9
  v9 := Try.zeroValue9
  t37 := Try.underlying104
  a37 := Try.isAgg104
  z37 := Try.sizeOf104
  v37 := Try.zeroValue104
  t70 := Try.underlying179
  a70 := Try.isAgg179
  z70 := Try.sizeOf179
  v70 := Try.zeroValue179
  t72 := Try.underlying181
  a72 := Try.isAgg181
  z72 := Try.sizeOf181
  v72 := Try.zeroValue181
  t127 := Try.underlying225
  a127 := Try.isAgg225
  z127 := Try.sizeOf225
  v127 := Try.zeroValue225 }
theorem Try.Builder_Extra_169 : Builder.Extra Try.prog Try.lays169_ren := {
  sizeBuilder := by kernel_rfl
  liesBuilder := by kernel_rfl
  t5 := Try.underlying5
  a5 := Try.isAgg5
  z5 := Try.sizeOf5
  v5 := Try.zeroValue5
  infoByte := by kernel_rfl
  cellsByte := by kernel_rfl
  sizeByte := by kernel_rfl
  neB5 := by decide }
def Try.lays105_ren : Go.Shelf.Ren := ⟨fun | 105 => 164 | 212 => 188 | 99 => 189 | 165 => 190 | 166 => 152 | 170 => 191 | 169 => 154 | 263 => 212 | 264 => 213 | 206 => 214 | 240 => 187 | 241 => 215 | 276 => 211 | 277 => 221 | n => n, fun | 9 => 9 | 3 => 3 | 4 => 4 | 20 => 20 | 0 => 0 | 46 => 219 | 109 => 226 | 5 => 5 | 72 => 181 | 76 => 184 | 51 => 234 | 146 => 245 | 53 => 199 | 148 => 247 | 70 => 179 | 37 => 104 | 75 => 183 | 127 => 225 | 164 => 210 | 80 => 187 | n => n, fun | n => n⟩
theorem Try.lays105 : Go.Proofs.Lays.n105 Try.prog Try.lays105_ren := {
  mixed := by kernel_rfl
  f99 := Try.func189.trans (congrArg some (by kernel_rfl))
  f105 := Try.func164.trans (congrArg some (by kernel_rfl))
  f165 := Try.func190.trans (congrArg some (by kernel_rfl))
  f166 := Try.func152.trans (congrArg some (by kernel_rfl))
  f169 := Try.func154.trans (congrArg some (by kernel_rfl))
  f170 := Try.func191.trans (congrArg some (by kernel_rfl))
  f206 := Try.func214.trans (congrArg some (by kernel_rfl))
  f212 := Try.func188.trans (congrArg some (by kernel_rfl))
  f240 := Try.func187.trans (congrArg some (by kernel_rfl))
  f241 := Try.func215.trans (congrArg some (by kernel_rfl))
  f263 := Try.func212.trans (congrArg some (by kernel_rfl))
  f264 := Try.func213.trans (congrArg some (by kernel_rfl))
  f276 := Try.func211.trans (congrArg some (by kernel_rfl))
  f277 := Try.func221.trans (congrArg some (by kernel_rfl))
  t0 := Try.underlying0
  a0 := Try.isAgg0
  z0 := Try.sizeOf0
  v0 := Try.zeroValue0
  t3 := Try.underlying3
  a3 := Try.isAgg3
  z3 := Try.sizeOf3
  v3 := Try.zeroValue3
  t4 := Try.underlying4
  a4 := Try.isAgg4
  z4 := Try.sizeOf4
  v4 := Try.zeroValue4
  t5 := Try.underlying5
  a5 := Try.isAgg5
  z5 := Try.sizeOf5
  v5 := Try.zeroValue5
  t9 := Try.underlying9
  a9 := Try.isAgg9
  z9 := Try.sizeOf9
  v9 := Try.zeroValue9
  t20 := Try.underlying20
  a20 := Try.isAgg20
  z20 := Try.sizeOf20
  v20 := Try.zeroValue20
  t37 := Try.underlying104
  a37 := Try.isAgg104
  z37 := Try.sizeOf104
  v37 := Try.zeroValue104
  t46 := Try.underlying219
  a46 := Try.isAgg219
  z46 := Try.sizeOf219
  v46 := Try.zeroValue219
  t51 := Try.underlying234
  a51 := Try.isAgg234
  z51 := Try.sizeOf234
  v51 := Try.zeroValue234
  t53 := Try.underlying199
  a53 := Try.isAgg199
  z53 := Try.sizeOf199
  v53 := Try.zeroValue199
  t70 := Try.underlying179
  a70 := Try.isAgg179
  z70 := Try.sizeOf179
  v70 := Try.zeroValue179
  t72 := Try.underlying181
  a72 := Try.isAgg181
  z72 := Try.sizeOf181
  v72 := Try.zeroValue181
  t75 := Try.underlying183
  a75 := Try.isAgg183
  z75 := Try.sizeOf183
  v75 := Try.zeroValue183
  t76 := Try.underlying184
  a76 := Try.isAgg184
  z76 := Try.sizeOf184
  v76 := Try.zeroValue184
  t109 := Try.underlying226
  a109 := Try.isAgg226
  z109 := Try.sizeOf226
  v109 := Try.zeroValue226
  t127 := Try.underlying225
  a127 := Try.isAgg225
  z127 := Try.sizeOf225
  v127 := Try.zeroValue225
  t146 := Try.underlying245
  a146 := Try.isAgg245
  z146 := Try.sizeOf245
  v146 := Try.zeroValue245
  t148 := Try.underlying247
  a148 := Try.isAgg247
  z148 := Try.sizeOf247
  v148 := Try.zeroValue247
  t164 := Try.underlying210
  a164 := Try.isAgg210
  z164 := Try.sizeOf210
  v164 := Try.zeroValue210 }
theorem Try.Builder_Extra_105 : Builder.Extra Try.prog Try.lays105_ren := {
  sizeBuilder := by kernel_rfl
  liesBuilder := by kernel_rfl
  t5 := Try.underlying5
  a5 := Try.isAgg5
  z5 := Try.sizeOf5
  v5 := Try.zeroValue5
  infoByte := by kernel_rfl
  cellsByte := by kernel_rfl
  sizeByte := by kernel_rfl
  neB5 := by decide }
namespace Ytjoiklaecelalaa.R
open Go Go.RowKit
theorem cc_seat : CcOk Try.prog (Try.lays105_ren.t 72) (Try.lays105_ren.f 240) := ccOk { Try.lays105 with } Try.Builder_Extra_105.toX72
theorem st_seat : StOk Try.prog (Try.lays169_ren.t 72) (Try.lays169_ren.t 5) (Try.lays169_ren.f 169) := stOk Try.lays169 Try.Builder_Extra_169
theorem rep_seat : Sound Try.prog (Try.lays105_ren.f 105) ⟨[.rd .str, .rd (.int .i64)], [none, none], [.rd .str], [none]⟩ (fun x => (repStr x.1 x.2.1).bind fun r => some ((r, ()), ())) :=
  str_sound fun a c r h w => by
    unfold repStr at h
    split at h
    · rename_i hc
      cases h
      have := Any.strings_Repeat Try.lays105 Try.Builder_Extra_105 a c.toNat w (by omega) hc.2.2
      rw [Int.toNat_of_nonneg hc.1] at this
      exact this
    · cases h
end Ytjoiklaecelalaa.R
end Go.Proofs
