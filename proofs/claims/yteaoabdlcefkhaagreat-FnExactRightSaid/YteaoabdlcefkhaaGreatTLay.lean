/- The library functions of this program, told by their bodies. No condition. -/
import Derived.Test.YteaoabdlcefkhaaGreatRBld
import Derived.Shelf.Strings.Repeat
import Derived.Test.YteaoabdlcefkhaaGreatProg
namespace Go.Proofs
open Go.Shelf
def Tryz.lays169_ren : Go.Shelf.Ren := ⟨fun | 169 => 176 | n => n, fun | 70 => 195 | 9 => 9 | 0 => 0 | 72 => 197 | 37 => 22 | 127 => 241 | 3 => 3 | 5 => 5 | n => n, fun | n => n⟩
theorem Tryz.lays169 : Go.Proofs.Lays.n169 Tryz.prog Tryz.lays169_ren := {
 mixed := by kernel_rfl
 f169 := Tryz.func176.trans (congrArg some (by kernel_rfl))
 t0 := Tryz.underlying0
 a0 := Tryz.isAgg0
 z0 := Tryz.sizeOf0
 v0 := Tryz.zeroValue0
 t3 := Tryz.underlying3
 a3 := Tryz.isAgg3
 z3 := Tryz.sizeOf3
 v3 := Tryz.zeroValue3
 t9 := Tryz.underlying9
 a9 := Tryz.isAgg9
 z9 := Tryz.sizeOf9
 v9 := Tryz.zeroValue9
 t37 := Tryz.underlying22
 a37 := Tryz.isAgg22
 z37 := Tryz.sizeOf22
 v37 := Tryz.zeroValue22
 t70 := Tryz.underlying195
 a70 := Tryz.isAgg195
 z70 := Tryz.sizeOf195
 v70 := Tryz.zeroValue195
 t72 := Tryz.underlying197
 a72 := Tryz.isAgg197
 z72 := Tryz.sizeOf197
 v72 := Tryz.zeroValue197
 t127 := Tryz.underlying241
 a127 := Tryz.isAgg241
 z127 := Tryz.sizeOf241
 v127 := Tryz.zeroValue241 }
theorem Tryz.Builder_Extra_169 : Builder.Extra Tryz.prog Tryz.lays169_ren := {
 sizeBuilder := by kernel_rfl
 liesBuilder := by kernel_rfl
 t5 := Tryz.underlying5
 a5 := Tryz.isAgg5
 z5 := Tryz.sizeOf5
 v5 := Tryz.zeroValue5
 infoByte := by kernel_rfl
 cellsByte := by kernel_rfl
 sizeByte := by kernel_rfl
 neB5 := by decide }
def Tryz.lays105_ren : Go.Shelf.Ren := ⟨fun | 105 => 189 | 212 => 216 | 99 => 217 | 165 => 218 | 166 => 174 | 170 => 219 | 169 => 176 | 263 => 244 | 264 => 245 | 206 => 246 | 240 => 214 | 241 => 247 | 276 => 243 | 277 => 254 | n => n, fun | 9 => 9 | 3 => 3 | 4 => 4 | 20 => 20 | 0 => 0 | 46 => 224 | 109 => 244 | 5 => 5 | 72 => 197 | 76 => 200 | 51 => 254 | 146 => 265 | 53 => 225 | 148 => 267 | 70 => 195 | 37 => 22 | 75 => 199 | 127 => 241 | 164 => 229 | 80 => 179 | n => n, fun | n => n⟩
theorem Tryz.lays105 : Go.Proofs.Lays.n105 Tryz.prog Tryz.lays105_ren := {
 mixed := by kernel_rfl
 f99 := Tryz.func217.trans (congrArg some (by kernel_rfl))
 f105 := Tryz.func189.trans (congrArg some (by kernel_rfl))
 f165 := Tryz.func218.trans (congrArg some (by kernel_rfl))
 f166 := Tryz.func174.trans (congrArg some (by kernel_rfl))
 f169 := Tryz.func176.trans (congrArg some (by kernel_rfl))
 f170 := Tryz.func219.trans (congrArg some (by kernel_rfl))
 f206 := Tryz.func246.trans (congrArg some (by kernel_rfl))
 f212 := Tryz.func216.trans (congrArg some (by kernel_rfl))
 f240 := Tryz.func214.trans (congrArg some (by kernel_rfl))
 f241 := Tryz.func247.trans (congrArg some (by kernel_rfl))
 f263 := Tryz.func244.trans (congrArg some (by kernel_rfl))
 f264 := Tryz.func245.trans (congrArg some (by kernel_rfl))
 f276 := Tryz.func243.trans (congrArg some (by kernel_rfl))
 f277 := Tryz.func254.trans (congrArg some (by kernel_rfl))
 t0 := Tryz.underlying0
 a0 := Tryz.isAgg0
 z0 := Tryz.sizeOf0
 v0 := Tryz.zeroValue0
 t3 := Tryz.underlying3
 a3 := Tryz.isAgg3
 z3 := Tryz.sizeOf3
 v3 := Tryz.zeroValue3
 t4 := Tryz.underlying4
 a4 := Tryz.isAgg4
 z4 := Tryz.sizeOf4
 v4 := Tryz.zeroValue4
 t5 := Tryz.underlying5
 a5 := Tryz.isAgg5
 z5 := Tryz.sizeOf5
 v5 := Tryz.zeroValue5
 t9 := Tryz.underlying9
 a9 := Tryz.isAgg9
 z9 := Tryz.sizeOf9
 v9 := Tryz.zeroValue9
 t20 := Tryz.underlying20
 a20 := Tryz.isAgg20
 z20 := Tryz.sizeOf20
 v20 := Tryz.zeroValue20
 t37 := Tryz.underlying22
 a37 := Tryz.isAgg22
 z37 := Tryz.sizeOf22
 v37 := Tryz.zeroValue22
 t46 := Tryz.underlying224
 a46 := Tryz.isAgg224
 z46 := Tryz.sizeOf224
 v46 := Tryz.zeroValue224
 t51 := Tryz.underlying254
 a51 := Tryz.isAgg254
 z51 := Tryz.sizeOf254
 v51 := Tryz.zeroValue254
 t53 := Tryz.underlying225
 a53 := Tryz.isAgg225
 z53 := Tryz.sizeOf225
 v53 := Tryz.zeroValue225
 t70 := Tryz.underlying195
 a70 := Tryz.isAgg195
 z70 := Tryz.sizeOf195
 v70 := Tryz.zeroValue195
 t72 := Tryz.underlying197
 a72 := Tryz.isAgg197
 z72 := Tryz.sizeOf197
 v72 := Tryz.zeroValue197
 t75 := Tryz.underlying199
 a75 := Tryz.isAgg199
 z75 := Tryz.sizeOf199
 v75 := Tryz.zeroValue199
 t76 := Tryz.underlying200
 a76 := Tryz.isAgg200
 z76 := Tryz.sizeOf200
 v76 := Tryz.zeroValue200
 t109 := Tryz.underlying244
 a109 := Tryz.isAgg244
 z109 := Tryz.sizeOf244
 v109 := Tryz.zeroValue244
 t127 := Tryz.underlying241
 a127 := Tryz.isAgg241
 z127 := Tryz.sizeOf241
 v127 := Tryz.zeroValue241
 t146 := Tryz.underlying265
 a146 := Tryz.isAgg265
 z146 := Tryz.sizeOf265
 v146 := Tryz.zeroValue265
 t148 := Tryz.underlying267
 a148 := Tryz.isAgg267
 z148 := Tryz.sizeOf267
 v148 := Tryz.zeroValue267
 t164 := Tryz.underlying229
 a164 := Tryz.isAgg229
 z164 := Tryz.sizeOf229
 v164 := Tryz.zeroValue229 }
theorem Tryz.Builder_Extra_105 : Builder.Extra Tryz.prog Tryz.lays105_ren := {
 sizeBuilder := by kernel_rfl
 liesBuilder := by kernel_rfl
 t5 := Tryz.underlying5
 a5 := Tryz.isAgg5
 z5 := Tryz.sizeOf5
 v5 := Tryz.zeroValue5
 infoByte := by kernel_rfl
 cellsByte := by kernel_rfl
 sizeByte := by kernel_rfl
 neB5 := by decide }
namespace YteaoabdlcefkhaaGreat.R
open Go Go.RowKit
theorem A3d : A4a Tryz.prog (Tryz.lays105_ren.t 72) (Tryz.lays105_ren.f 240) := A5p { Tryz.lays105 with } Tryz.Builder_Extra_105.toX72
theorem A3e : A4b Tryz.prog (Tryz.lays169_ren.t 72) (Tryz.lays169_ren.t 5) (Tryz.lays169_ren.f 169) := A5q Tryz.lays169 Tryz.Builder_Extra_169
theorem A11 : Yz Tryz.prog (Tryz.lays105_ren.f 105) ⟨[.rd .str, .rd (.int .i64)], [none, none], [.rd .str], [none]⟩ (fun x => (Aas x.1 x.2.1).bind fun r => some ((r, ()), ())) :=
 Az1 fun a c r h w => by
  unfold Aas at h
  split at h
  ·rename_i hc
   cases h
   have := Any.strings_Repeat Tryz.lays105 Tryz.Builder_Extra_105 a c.toNat w (by omega) hc.2.2
   rw [Int.toNat_of_nonneg hc.1] at this
   exact this
  ·cases h
end YteaoabdlcefkhaaGreat.R
end Go.Proofs

