/- The laws of the library that the sorts lean on, at this program. -/
import Derived.Test.YtmldonbmjgelnaaDoorProg
import Derived.Shelf.Slices.In.SortNone
import Derived.Shelf.Slices.In.CompactS
set_option linter.unusedVariables false
namespace Go.Proofs.YtmldonbmjgelnaaDoor
open Go.Shelf

def laysSort_ren : Go.Shelf.Ren := ⟨fun | 190 => 90 | 125 => 114 | 258 => 113 | 128 => 132 | 129 => 133 | 302 => 123 | 303 => 124 | 304 => 125 | 305 => 126 | 306 => 127 | 307 => 128 | 308 => 129 | 309 => 130 | 310 => 131 | 333 => 137 | 329 => 138 | 330 => 139 | 334 => 140 | 335 => 141 | 336 => 142 | 344 => 145 | n => n, fun | 31 => 35 | 9 => 9 | 3 => 3 | 46 => 72 | 0 => 0 | 51 => 126 | 53 => 136 | 4 => 4 | 183 => 139 | 182 => 138 | 131 => 115 | 5 => 5 | 218 => 149 | 222 => 153 | 228 => 158 | 229 => 159 | n => n, fun | n => n⟩
theorem laysSort : Go.Proofs.Lays.n190 Tryd.prog laysSort_ren := {
  mixed := by kernel_rfl
  f125 := Tryd.func114.trans (congrArg some (by kernel_rfl))
  f128 := Tryd.func132.trans (congrArg some (by kernel_rfl))
  f129 := Tryd.func133.trans (congrArg some (by kernel_rfl))
  f190 := Tryd.func90.trans (congrArg some (by kernel_rfl))
  f258 := Tryd.func113.trans (congrArg some (by kernel_rfl))
  f302 := Tryd.func123.trans (congrArg some (by kernel_rfl))
  f303 := Tryd.func124.trans (congrArg some (by kernel_rfl))
  f304 := Tryd.func125.trans (congrArg some (by kernel_rfl))
  f305 := Tryd.func126.trans (congrArg some (by kernel_rfl))
  f306 := Tryd.func127.trans (congrArg some (by kernel_rfl))
  f307 := Tryd.func128.trans (congrArg some (by kernel_rfl))
  f308 := Tryd.func129.trans (congrArg some (by kernel_rfl))
  f309 := Tryd.func130.trans (congrArg some (by kernel_rfl))
  f310 := Tryd.func131.trans (congrArg some (by kernel_rfl))
  f329 := Tryd.func138.trans (congrArg some (by kernel_rfl))
  f330 := Tryd.func139.trans (congrArg some (by kernel_rfl))
  f333 := Tryd.func137.trans (congrArg some (by kernel_rfl))
  f334 := Tryd.func140.trans (congrArg some (by kernel_rfl))
  f335 := Tryd.func141.trans (congrArg some (by kernel_rfl))
  f336 := Tryd.func142.trans (congrArg some (by kernel_rfl))
  f344 := Tryd.func145.trans (congrArg some (by kernel_rfl))
  t0 := Tryd.underlying0
  a0 := Tryd.isAgg0
  z0 := Tryd.sizeOf0
  v0 := Tryd.zeroValue0
  t3 := Tryd.underlying3
  a3 := Tryd.isAgg3
  z3 := Tryd.sizeOf3
  v3 := Tryd.zeroValue3
  t4 := Tryd.underlying4
  a4 := Tryd.isAgg4
  z4 := Tryd.sizeOf4
  v4 := Tryd.zeroValue4
  t5 := Tryd.underlying5
  a5 := Tryd.isAgg5
  z5 := Tryd.sizeOf5
  v5 := Tryd.zeroValue5
  t9 := Tryd.underlying9
  a9 := Tryd.isAgg9
  z9 := Tryd.sizeOf9
  v9 := Tryd.zeroValue9
  t31 := Tryd.underlying35
  a31 := Tryd.isAgg35
  z31 := Tryd.sizeOf35
  v31 := Tryd.zeroValue35
  t46 := Tryd.underlying72
  a46 := Tryd.isAgg72
  z46 := Tryd.sizeOf72
  v46 := Tryd.zeroValue72
  t51 := Tryd.underlying126
  a51 := Tryd.isAgg126
  z51 := Tryd.sizeOf126
  v51 := Tryd.zeroValue126
  t53 := Tryd.underlying136
  a53 := Tryd.isAgg136
  z53 := Tryd.sizeOf136
  v53 := Tryd.zeroValue136
  t131 := Tryd.underlying115
  a131 := Tryd.isAgg115
  z131 := Tryd.sizeOf115
  v131 := Tryd.zeroValue115
  t182 := Tryd.underlying138
  a182 := Tryd.isAgg138
  z182 := Tryd.sizeOf138
  v182 := Tryd.zeroValue138
  t183 := Tryd.underlying139
  a183 := Tryd.isAgg139
  z183 := Tryd.sizeOf139
  v183 := Tryd.zeroValue139
  t218 := Tryd.underlying149
  a218 := Tryd.isAgg149
  z218 := Tryd.sizeOf149
  v218 := Tryd.zeroValue149
  t222 := Tryd.underlying153
  a222 := Tryd.isAgg153
  z222 := Tryd.sizeOf153
  v222 := Tryd.zeroValue153
  t228 := Tryd.underlying158
  a228 := Tryd.isAgg158
  z228 := Tryd.sizeOf158
  v228 := Tryd.zeroValue158
  t229 := Tryd.underlying159
  a229 := Tryd.isAgg159
  z229 := Tryd.sizeOf159
  v229 := Tryd.zeroValue159 }
def laysCompact_ren : Go.Shelf.Ren := ⟨fun | 194 => 91 | n => n, fun | 31 => 35 | 9 => 9 | 3 => 3 | 4 => 4 | 0 => 0 | n => n, fun | n => n⟩
theorem laysCompact : Go.Proofs.Lays.n194 Tryd.prog laysCompact_ren := {
  mixed := by kernel_rfl
  f194 := Tryd.func91.trans (congrArg some (by kernel_rfl))
  t0 := Tryd.underlying0
  a0 := Tryd.isAgg0
  z0 := Tryd.sizeOf0
  v0 := Tryd.zeroValue0
  t3 := Tryd.underlying3
  a3 := Tryd.isAgg3
  z3 := Tryd.sizeOf3
  v3 := Tryd.zeroValue3
  t4 := Tryd.underlying4
  a4 := Tryd.isAgg4
  z4 := Tryd.sizeOf4
  v4 := Tryd.zeroValue4
  t9 := Tryd.underlying9
  a9 := Tryd.isAgg9
  z9 := Tryd.sizeOf9
  v9 := Tryd.zeroValue9
  t31 := Tryd.underlying35
  a31 := Tryd.isAgg35
  z31 := Tryd.sizeOf35
  v31 := Tryd.zeroValue35 }

end Go.Proofs.YtmldonbmjgelnaaDoor
