/- The library functions of this program, told by their bodies. No condition. -/
import Derived.Test.YtmhjcfgkheihdaaRBld
import Derived.Shelf.Strings.Repeat
import Derived.Test.YtmhjcfgkheihdaaProg
namespace Go.Proofs
open Go.Shelf
def Try.lays169_ren : Go.Shelf.Ren := ⟨fun | 169 => 85 | n => n, fun | 70 => 115 | 9 => 9 | 0 => 0 | 72 => 117 | 37 => 112 | 127 => 147 | 3 => 3 | 5 => 5 | n => n, fun | n => n⟩
theorem Try.lays169 : Go.Proofs.Lays.n169 Try.prog Try.lays169_ren := {
  mixed := by kernel_rfl
  f169 := Try.func85.trans (congrArg some (by kernel_rfl))
  t0 := Try.underlying0
  a0 := Try.isAgg0
  z0 := Try.sizeOf0
  v0 := Try.zeroValue0
  t3 := Try.underlying3
  a3 := Try.isAgg3
  z3 := Try.sizeOf3
  v3 := Try.zeroValue3
  t9 := Try.underlying9
  a9 := Try.isAgg9
  z9 := Try.sizeOf9
  v9 := Try.zeroValue9
  t37 := Try.underlying112
  a37 := Try.isAgg112
  z37 := Try.sizeOf112
  v37 := Try.zeroValue112
  t70 := Try.underlying115
  a70 := Try.isAgg115
  z70 := Try.sizeOf115
  v70 := Try.zeroValue115
  t72 := Try.underlying117
  a72 := Try.isAgg117
  z72 := Try.sizeOf117
  v72 := Try.zeroValue117
  t127 := Try.underlying147
  a127 := Try.isAgg147
  z127 := Try.sizeOf147
  v127 := Try.zeroValue147 }
theorem Try.Builder_Extra_169 : Builder.Extra Try.prog Try.lays169_ren := {
  sizeBuilder := by kernel_rfl
  liesBuilder := by kernel_rfl
  t5 := Try.underlying5
  a5 := Try.isAgg5
  z5 := Try.sizeOf5
  v5 := Try.zeroValue5
  infoByte := by kernel_rfl
  cellsByte := by kernel_rfl
  sizeByte := by kernel_rfl
  neB5 := by decide }
def Try.lays105_ren : Go.Shelf.Ren := ⟨fun | 105 => 98 | 212 => 120 | 99 => 121 | 165 => 122 | 166 => 83 | 170 => 123 | 169 => 85 | 263 => 126 | 264 => 127 | 206 => 128 | 240 => 119 | 241 => 129 | 276 => 125 | 277 => 130 | n => n, fun | 9 => 9 | 3 => 3 | 4 => 4 | 20 => 20 | 0 => 0 | 46 => 146 | 109 => 149 | 5 => 5 | 72 => 117 | 76 => 120 | 51 => 157 | 146 => 158 | 53 => 148 | 148 => 160 | 70 => 115 | 37 => 112 | 75 => 119 | 127 => 147 | 164 => 155 | 80 => 123 | n => n, fun | n => n⟩
theorem Try.lays105 : Go.Proofs.Lays.n105 Try.prog Try.lays105_ren := {
  mixed := by kernel_rfl
  f99 := Try.func121.trans (congrArg some (by kernel_rfl))
  f105 := Try.func98.trans (congrArg some (by kernel_rfl))
  f165 := Try.func122.trans (congrArg some (by kernel_rfl))
  f166 := Try.func83.trans (congrArg some (by kernel_rfl))
  f169 := Try.func85.trans (congrArg some (by kernel_rfl))
  f170 := Try.func123.trans (congrArg some (by kernel_rfl))
  f206 := Try.func128.trans (congrArg some (by kernel_rfl))
  f212 := Try.func120.trans (congrArg some (by kernel_rfl))
  f240 := Try.func119.trans (congrArg some (by kernel_rfl))
  f241 := Try.func129.trans (congrArg some (by kernel_rfl))
  f263 := Try.func126.trans (congrArg some (by kernel_rfl))
  f264 := Try.func127.trans (congrArg some (by kernel_rfl))
  f276 := Try.func125.trans (congrArg some (by kernel_rfl))
  f277 := Try.func130.trans (congrArg some (by kernel_rfl))
  t0 := Try.underlying0
  a0 := Try.isAgg0
  z0 := Try.sizeOf0
  v0 := Try.zeroValue0
  t3 := Try.underlying3
  a3 := Try.isAgg3
  z3 := Try.sizeOf3
  v3 := Try.zeroValue3
  t4 := Try.underlying4
  a4 := Try.isAgg4
  z4 := Try.sizeOf4
  v4 := Try.zeroValue4
  t5 := Try.underlying5
  a5 := Try.isAgg5
  z5 := Try.sizeOf5
  v5 := Try.zeroValue5
  t9 := Try.underlying9
  a9 := Try.isAgg9
  z9 := Try.sizeOf9
  v9 := Try.zeroValue9
  t20 := Try.underlying20
  a20 := Try.isAgg20
  z20 := Try.sizeOf20
  v20 := Try.zeroValue20
  t37 := Try.underlying112
  a37 := Try.isAgg112
  z37 := Try.sizeOf112
  v37 := Try.zeroValue112
  t46 := Try.underlying146
  a46 := Try.isAgg146
  z46 := Try.sizeOf146
  v46 := Try.zeroValue146
  t51 := Try.underlying157
  a51 := Try.isAgg157
  z51 := Try.sizeOf157
  v51 := Try.zeroValue157
  t53 := Try.underlying148
  a53 := Try.isAgg148
  z53 := Try.sizeOf148
  v53 := Try.zeroValue148
  t70 := Try.underlying115
  a70 := Try.isAgg115
  z70 := Try.sizeOf115
  v70 := Try.zeroValue115
  t72 := Try.underlying117
  a72 := Try.isAgg117
  z72 := Try.sizeOf117
  v72 := Try.zeroValue117
  t75 := Try.underlying119
  a75 := Try.isAgg119
  z75 := Try.sizeOf119
  v75 := Try.zeroValue119
  t76 := Try.underlying120
  a76 := Try.isAgg120
  z76 := Try.sizeOf120
  v76 := Try.zeroValue120
  t109 := Try.underlying149
  a109 := Try.isAgg149
  z109 := Try.sizeOf149
  v109 := Try.zeroValue149
  t127 := Try.underlying147
  a127 := Try.isAgg147
  z127 := Try.sizeOf147
  v127 := Try.zeroValue147
  t146 := Try.underlying158
  a146 := Try.isAgg158
  z146 := Try.sizeOf158
  v146 := Try.zeroValue158
  t148 := Try.underlying160
  a148 := Try.isAgg160
  z148 := Try.sizeOf160
  v148 := Try.zeroValue160
  t164 := Try.underlying155
  a164 := Try.isAgg155
  z164 := Try.sizeOf155
  v164 := Try.zeroValue155 }
theorem Try.Builder_Extra_105 : Builder.Extra Try.prog Try.lays105_ren := {
  sizeBuilder := by kernel_rfl
  liesBuilder := by kernel_rfl
  t5 := Try.underlying5
  a5 := Try.isAgg5
  z5 := Try.sizeOf5
  v5 := Try.zeroValue5
  infoByte := by kernel_rfl
  cellsByte := by kernel_rfl
  sizeByte := by kernel_rfl
  neB5 := by decide }
namespace Ytmhjcfgkheihdaa.R
open Go Go.RowKit
theorem cc_seat : CcOk Try.prog (Try.lays105_ren.t 72) (Try.lays105_ren.f 240) := ccOk { Try.lays105 with } Try.Builder_Extra_105.toX72
theorem st_seat : StOk Try.prog (Try.lays169_ren.t 72) (Try.lays169_ren.t 5) (Try.lays169_ren.f 169) := stOk Try.lays169 Try.Builder_Extra_169
theorem rep_seat : Sound Try.prog (Try.lays105_ren.f 105) ⟨[.rd .str, .rd (.int .i64)], [none, none], [.rd .str], [none]⟩ (fun x => (repStr x.1 x.2.1).bind fun r => some ((r, ()), ())) :=
  str_sound fun a c r h w => by
    unfold repStr at h
    split at h
    · rename_i hc
      cases h
      have := Any.strings_Repeat Try.lays105 Try.Builder_Extra_105 a c.toNat w (by omega) hc.2.2
      rw [Int.toNat_of_nonneg hc.1] at this
      exact this
    · cases h
end Ytmhjcfgkheihdaa.R
end Go.Proofs
