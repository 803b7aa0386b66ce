/- The library contracts of the kit, in this program's own numbers. -/
import Derived.Shelf.SlicesE.IndexFunc
import Derived.Shelf.SlicesQ.IndexFunc
import Derived.Shelf.SlMaps.Clone
import Derived.Shelf.SlGeneric
import Derived.Ground.SlgfProg
import Derived.Ground.SlmcProg
import Derived.Test.YtklnnpacfjnnlaaGreatDoorRows
namespace Go.Proofs.YtklnnpacfjnnlaaGreatDoor
open Go.Shelf
def l103_ren : Go.Shelf.Ren := ⟨fun | 8 => 103 | 6 => 163 | n => n, fun | 22 => 98 | 23 => 5 | 25 => 147 | 4 => 4 | 3 => 3 | 0 => 0 | n => n, fun | n => n⟩
theorem l103 : Go.Proofs.SlLaysH.n8 Tryz.prog l103_ren := {
  mixed := by kernel_rfl
  f6 := ⟨Tryz.f163.name, by decide, Tryz.func163.trans (congrArg some (by kernel_rfl))⟩
  f8 := ⟨Tryz.f103.name, by decide, Tryz.func103.trans (congrArg some (by kernel_rfl))⟩
  t0 := Tryz.underlying0
  a0 := Tryz.isAgg0
  z0 := Tryz.sizeOf0
  v0 := Tryz.zeroValue0
  t3 := Tryz.underlying3
  a3 := Tryz.isAgg3
  z3 := Tryz.sizeOf3
  v3 := Tryz.zeroValue3
  t4 := Tryz.underlying4
  a4 := Tryz.isAgg4
  z4 := Tryz.sizeOf4
  v4 := Tryz.zeroValue4
  t22 := Tryz.underlying98
  a22 := Tryz.isAgg98
  z22 := Tryz.sizeOf98
  v22 := Tryz.zeroValue98
  a23 := Tryz.isAgg5
  z23 := Tryz.sizeOf5
  t25 := Tryz.underlying147
  a25 := Tryz.isAgg147
  z25 := Tryz.sizeOf147
  v25 := Tryz.zeroValue147 }
def l202_ren : Go.Shelf.Ren := ⟨fun | 8 => 202 | 6 => 209 | n => n, fun | 22 => 117 | 23 => 121 | 25 => 183 | 4 => 4 | 3 => 3 | 0 => 0 | n => n, fun | n => n⟩
theorem l202 : Go.Proofs.SlLaysH0.n8 Tryz.prog l202_ren := {
  mixed := by kernel_rfl
  f6 := ⟨Tryz.f209.name, by decide, Tryz.func209.trans (congrArg some (by kernel_rfl))⟩
  f8 := ⟨Tryz.f202.name, by decide, Tryz.func202.trans (congrArg some (by kernel_rfl))⟩
  t0 := Tryz.underlying0
  a0 := Tryz.isAgg0
  z0 := Tryz.sizeOf0
  v0 := Tryz.zeroValue0
  t3 := Tryz.underlying3
  a3 := Tryz.isAgg3
  z3 := Tryz.sizeOf3
  v3 := Tryz.zeroValue3
  t4 := Tryz.underlying4
  a4 := Tryz.isAgg4
  z4 := Tryz.sizeOf4
  v4 := Tryz.zeroValue4
  t22 := Tryz.underlying117
  a22 := Tryz.isAgg117
  z22 := Tryz.sizeOf117
  v22 := Tryz.zeroValue117
  t25 := Tryz.underlying183
  a25 := Tryz.isAgg183
  z25 := Tryz.sizeOf183
  v25 := Tryz.zeroValue183 }
def l209_ren : Go.Shelf.Ren := ⟨fun | 6 => 209 | n => n, fun | 22 => 117 | 23 => 121 | 25 => 183 | 3 => 3 | 0 => 0 | 4 => 4 | n => n, fun | n => n⟩
theorem l209 : Go.Proofs.SlLaysH0.n6 Tryz.prog l209_ren := {
  mixed := by kernel_rfl
  f6 := ⟨Tryz.f209.name, by decide, Tryz.func209.trans (congrArg some (by kernel_rfl))⟩
  t0 := Tryz.underlying0
  a0 := Tryz.isAgg0
  z0 := Tryz.sizeOf0
  v0 := Tryz.zeroValue0
  t3 := Tryz.underlying3
  a3 := Tryz.isAgg3
  z3 := Tryz.sizeOf3
  v3 := Tryz.zeroValue3
  t4 := Tryz.underlying4
  a4 := Tryz.isAgg4
  z4 := Tryz.sizeOf4
  v4 := Tryz.zeroValue4
  t22 := Tryz.underlying117
  a22 := Tryz.isAgg117
  z22 := Tryz.sizeOf117
  v22 := Tryz.zeroValue117
  t25 := Tryz.underlying183
  a25 := Tryz.isAgg183
  z25 := Tryz.sizeOf183
  v25 := Tryz.zeroValue183 }
def l154_ren : Go.Shelf.Ren := ⟨fun | 5 => 154 | 7 => 201 | n => n, fun | 23 => 125 | 25 => 9 | 3 => 138 | 4 => 4 | 20 => 20 | n => n, fun | n => n⟩
theorem l154 : Go.Proofs.SlLaysW.n5 Tryz.prog l154_ren := {
  mixed := by kernel_rfl
  f5 := ⟨Tryz.f154.name, by decide, Tryz.func154.trans (congrArg some (by kernel_rfl))⟩
  f7 := Tryz.func201.trans (congrArg some (by kernel_rfl))
  t4 := Tryz.underlying4
  a4 := Tryz.isAgg4
  z4 := Tryz.sizeOf4
  v4 := Tryz.zeroValue4
  t20 := Tryz.underlying20
  a20 := Tryz.isAgg20
  z20 := Tryz.sizeOf20
  v20 := Tryz.zeroValue20
  t23 := Tryz.underlying125
  a23 := Tryz.isAgg125
  z23 := Tryz.sizeOf125
  v23 := Tryz.zeroValue125 }
def l155_ren : Go.Shelf.Ren := ⟨fun | 5 => 155 | 7 => 201 | n => n, fun | 23 => 126 | 25 => 9 | 3 => 41 | 4 => 4 | 20 => 20 | n => n, fun | n => n⟩
theorem l155 : Go.Proofs.SlLaysW.n5 Tryz.prog l155_ren := {
  mixed := by kernel_rfl
  f5 := ⟨Tryz.f155.name, by decide, Tryz.func155.trans (congrArg some (by kernel_rfl))⟩
  f7 := Tryz.func201.trans (congrArg some (by kernel_rfl))
  t4 := Tryz.underlying4
  a4 := Tryz.isAgg4
  z4 := Tryz.sizeOf4
  v4 := Tryz.zeroValue4
  t20 := Tryz.underlying20
  a20 := Tryz.isAgg20
  z20 := Tryz.sizeOf20
  v20 := Tryz.zeroValue20
  t23 := Tryz.underlying126
  a23 := Tryz.isAgg126
  z23 := Tryz.sizeOf126
  v23 := Tryz.zeroValue126 }
end Go.Proofs.YtklnnpacfjnnlaaGreatDoor
