/- The library contracts of the kit, in this program's own numbers. -/
import Derived.Shelf.SlicesE.Clone
import Derived.Shelf.SlGeneric
import Derived.Ground.SlgnProg
import Derived.Shelf.Sort.Plain
import Derived.Ground.NamesProg
import Derived.Test.YtklnnpacfjnnlaaGreatDoorRows
namespace Go.Proofs.YtklnnpacfjnnlaaGreatDoor
open Go.Shelf
def l152_ren : Go.Shelf.Ren := ⟨fun | 41 => 152 | n => n, fun | 22 => 117 | 23 => 121 | 4 => 4 | n => n, fun | n => n⟩
theorem l152 : Go.Proofs.SlLaysE0.n41 Tryz.prog l152_ren := {
  mixed := by kernel_rfl
  f41 := ⟨Tryz.f152.name, by decide, Tryz.func152.trans (congrArg some (by kernel_rfl))⟩
  t4 := Tryz.underlying4
  a4 := Tryz.isAgg4
  z4 := Tryz.sizeOf4
  v4 := Tryz.zeroValue4
  t22 := Tryz.underlying117
  a22 := Tryz.isAgg117
  z22 := Tryz.sizeOf117
  v22 := Tryz.zeroValue117 }
def l153_ren : Go.Shelf.Ren := ⟨fun | 41 => 153 | n => n, fun | 22 => 128 | 23 => 150 | 4 => 4 | n => n, fun | n => n⟩
theorem l153 : Go.Proofs.SlLaysE0.n41 Tryz.prog l153_ren := {
  mixed := by kernel_rfl
  f41 := ⟨Tryz.f153.name, by decide, Tryz.func153.trans (congrArg some (by kernel_rfl))⟩
  t4 := Tryz.underlying4
  a4 := Tryz.isAgg4
  z4 := Tryz.sizeOf4
  v4 := Tryz.zeroValue4
  t22 := Tryz.underlying128
  a22 := Tryz.isAgg128
  z22 := Tryz.sizeOf128
  v22 := Tryz.zeroValue128 }
def l146_ren : Go.Shelf.Ren := ⟨fun | 190 => 146 | 125 => 197 | 258 => 200 | 128 => 257 | 129 => 191 | 302 => 258 | 303 => 259 | 304 => 260 | 305 => 261 | 306 => 262 | 307 => 263 | 308 => 264 | 309 => 265 | 310 => 266 | 333 => 305 | 329 => 301 | 330 => 302 | 334 => 306 | 335 => 307 | 336 => 308 | 344 => 330 | n => n, fun | 31 => 22 | 9 => 9 | 3 => 3 | 46 => 57 | 0 => 0 | 51 => 217 | 53 => 176 | 4 => 4 | 183 => 296 | 182 => 295 | 131 => 209 | 5 => 5 | 218 => 331 | 222 => 335 | 228 => 353 | 229 => 213 | n => n, fun | n => n⟩
theorem l146 : Go.Proofs.Lays.n190 Tryz.prog l146_ren := {
  mixed := by kernel_rfl
  f125 := Tryz.func197.trans (congrArg some (by kernel_rfl))
  f128 := Tryz.func257.trans (congrArg some (by kernel_rfl))
  f129 := Tryz.func191.trans (congrArg some (by kernel_rfl))
  f190 := Tryz.func146.trans (congrArg some (by kernel_rfl))
  f258 := Tryz.func200.trans (congrArg some (by kernel_rfl))
  f302 := Tryz.func258.trans (congrArg some (by kernel_rfl))
  f303 := Tryz.func259.trans (congrArg some (by kernel_rfl))
  f304 := Tryz.func260.trans (congrArg some (by kernel_rfl))
  f305 := Tryz.func261.trans (congrArg some (by kernel_rfl))
  f306 := Tryz.func262.trans (congrArg some (by kernel_rfl))
  f307 := Tryz.func263.trans (congrArg some (by kernel_rfl))
  f308 := Tryz.func264.trans (congrArg some (by kernel_rfl))
  f309 := Tryz.func265.trans (congrArg some (by kernel_rfl))
  f310 := Tryz.func266.trans (congrArg some (by kernel_rfl))
  f329 := Tryz.func301.trans (congrArg some (by kernel_rfl))
  f330 := Tryz.func302.trans (congrArg some (by kernel_rfl))
  f333 := Tryz.func305.trans (congrArg some (by kernel_rfl))
  f334 := Tryz.func306.trans (congrArg some (by kernel_rfl))
  f335 := Tryz.func307.trans (congrArg some (by kernel_rfl))
  f336 := Tryz.func308.trans (congrArg some (by kernel_rfl))
  f344 := Tryz.func330.trans (congrArg some (by kernel_rfl))
  t0 := Tryz.underlying0
  a0 := Tryz.isAgg0
  z0 := Tryz.sizeOf0
  v0 := Tryz.zeroValue0
  t3 := Tryz.underlying3
  a3 := Tryz.isAgg3
  z3 := Tryz.sizeOf3
  v3 := Tryz.zeroValue3
  t4 := Tryz.underlying4
  a4 := Tryz.isAgg4
  z4 := Tryz.sizeOf4
  v4 := Tryz.zeroValue4
  t5 := Tryz.underlying5
  a5 := Tryz.isAgg5
  z5 := Tryz.sizeOf5
  v5 := Tryz.zeroValue5
  t9 := Tryz.underlying9
  a9 := Tryz.isAgg9
  z9 := Tryz.sizeOf9
  v9 := Tryz.zeroValue9
  t31 := Tryz.underlying22
  a31 := Tryz.isAgg22
  z31 := Tryz.sizeOf22
  v31 := Tryz.zeroValue22
  t46 := Tryz.underlying57
  a46 := Tryz.isAgg57
  z46 := Tryz.sizeOf57
  v46 := Tryz.zeroValue57
  t51 := Tryz.underlying217
  a51 := Tryz.isAgg217
  z51 := Tryz.sizeOf217
  v51 := Tryz.zeroValue217
  t53 := Tryz.underlying176
  a53 := Tryz.isAgg176
  z53 := Tryz.sizeOf176
  v53 := Tryz.zeroValue176
  t131 := Tryz.underlying209
  a131 := Tryz.isAgg209
  z131 := Tryz.sizeOf209
  v131 := Tryz.zeroValue209
  t182 := Tryz.underlying295
  a182 := Tryz.isAgg295
  z182 := Tryz.sizeOf295
  v182 := Tryz.zeroValue295
  t183 := Tryz.underlying296
  a183 := Tryz.isAgg296
  z183 := Tryz.sizeOf296
  v183 := Tryz.zeroValue296
  t218 := Tryz.underlying331
  a218 := Tryz.isAgg331
  z218 := Tryz.sizeOf331
  v218 := Tryz.zeroValue331
  t222 := Tryz.underlying335
  a222 := Tryz.isAgg335
  z222 := Tryz.sizeOf335
  v222 := Tryz.zeroValue335
  t228 := Tryz.underlying353
  a228 := Tryz.isAgg353
  z228 := Tryz.sizeOf353
  v228 := Tryz.zeroValue353
  t229 := Tryz.underlying213
  a229 := Tryz.isAgg213
  z229 := Tryz.sizeOf213
  v229 := Tryz.zeroValue213 }
end Go.Proofs.YtklnnpacfjnnlaaGreatDoor
