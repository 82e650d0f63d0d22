/- Parts of the abstract machine and of its laws, joined. Conditions: none. -/
import Derived.Test.YteblojfcalgoeaaProg
import Derived.Shelf.Sort.Plain
set_option linter.unusedVariables false
set_option linter.unusedSimpArgs false
/- The contract of sort.Strings at this program: written by the kit's lay-plain.mjs. Conditions: none. -/
namespace Go.Proofs
open Go.Shelf
def Try.lays192_ren : Go.Shelf.Ren := ⟨fun | 192 => 103 | 190 => 129 | 125 => 150 | 258 => 149 | 128 => 167 | 129 => 104 | 302 => 158 | 303 => 159 | 304 => 160 | 305 => 161 | 306 => 162 | 307 => 163 | 308 => 164 | 309 => 165 | 310 => 166 | 333 => 169 | 329 => 170 | 330 => 171 | 334 => 172 | 335 => 173 | 336 => 174 | 344 => 175 | n => n, fun | 31 => 48 | 0 => 0 | 9 => 9 | 3 => 3 | 46 => 60 | 51 => 32 | 53 => 25 | 4 => 4 | 183 => 245 | 182 => 244 | 131 => 249 | 5 => 5 | 218 => 254 | 222 => 257 | 228 => 260 | 229 => 88 | n => n, fun | n => n⟩
theorem Try.lays192 : Go.Proofs.Lays.n192 Try.prog Try.lays192_ren := {
  mixed := by kernel_rfl
  f125 := Try.func150.trans (congrArg some (by kernel_rfl))
  f128 := Try.func167.trans (congrArg some (by kernel_rfl))
  f129 := Try.func104.trans (congrArg some (by kernel_rfl))
  f190 := Try.func129.trans (congrArg some (by kernel_rfl))
  f192 := Try.func103.trans (congrArg some (by kernel_rfl))
  f258 := Try.func149.trans (congrArg some (by kernel_rfl))
  f302 := Try.func158.trans (congrArg some (by kernel_rfl))
  f303 := Try.func159.trans (congrArg some (by kernel_rfl))
  f304 := Try.func160.trans (congrArg some (by kernel_rfl))
  f305 := Try.func161.trans (congrArg some (by kernel_rfl))
  f306 := Try.func162.trans (congrArg some (by kernel_rfl))
  f307 := Try.func163.trans (congrArg some (by kernel_rfl))
  f308 := Try.func164.trans (congrArg some (by kernel_rfl))
  f309 := Try.func165.trans (congrArg some (by kernel_rfl))
  f310 := Try.func166.trans (congrArg some (by kernel_rfl))
  f329 := Try.func170.trans (congrArg some (by kernel_rfl))
  f330 := Try.func171.trans (congrArg some (by kernel_rfl))
  f333 := Try.func169.trans (congrArg some (by kernel_rfl))
  f334 := Try.func172.trans (congrArg some (by kernel_rfl))
  f335 := Try.func173.trans (congrArg some (by kernel_rfl))
  f336 := Try.func174.trans (congrArg some (by kernel_rfl))
  f344 := Try.func175.trans (congrArg some (by kernel_rfl))
  t0 := Try.underlying0
  a0 := Try.isAgg0
  z0 := Try.sizeOf0
  v0 := Try.zeroValue0
  t3 := Try.underlying3
  a3 := Try.isAgg3
  z3 := Try.sizeOf3
  v3 := Try.zeroValue3
  t4 := Try.underlying4
  a4 := Try.isAgg4
  z4 := Try.sizeOf4
  v4 := Try.zeroValue4
  t5 := Try.underlying5
  a5 := Try.isAgg5
  z5 := Try.sizeOf5
  v5 := Try.zeroValue5
  t9 := Try.underlying9
  a9 := Try.isAgg9
  z9 := Try.sizeOf9
  v9 := Try.zeroValue9
  t31 := Try.underlying48
  a31 := Try.isAgg48
  z31 := Try.sizeOf48
  v31 := Try.zeroValue48
  t46 := Try.underlying60
  a46 := Try.isAgg60
  z46 := Try.sizeOf60
  v46 := Try.zeroValue60
  t51 := Try.underlying32
  a51 := Try.isAgg32
  z51 := Try.sizeOf32
  v51 := Try.zeroValue32
  t53 := Try.underlying25
  a53 := Try.isAgg25
  z53 := Try.sizeOf25
  v53 := Try.zeroValue25
  t131 := Try.underlying249
  a131 := Try.isAgg249
  z131 := Try.sizeOf249
  v131 := Try.zeroValue249
  t182 := Try.underlying244
  a182 := Try.isAgg244
  z182 := Try.sizeOf244
  v182 := Try.zeroValue244
  t183 := Try.underlying245
  a183 := Try.isAgg245
  z183 := Try.sizeOf245
  v183 := Try.zeroValue245
  t218 := Try.underlying254
  a218 := Try.isAgg254
  z218 := Try.sizeOf254
  v218 := Try.zeroValue254
  t222 := Try.underlying257
  a222 := Try.isAgg257
  z222 := Try.sizeOf257
  v222 := Try.zeroValue257
  t228 := Try.underlying260
  a228 := Try.isAgg260
  z228 := Try.sizeOf260
  v228 := Try.zeroValue260
  t229 := Try.underlying88
  a229 := Try.isAgg88
  z229 := Try.sizeOf88
  v229 := Try.zeroValue88 }
end Go.Proofs
