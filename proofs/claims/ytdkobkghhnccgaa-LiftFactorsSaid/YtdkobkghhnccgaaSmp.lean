/- The library contracts of the kit, in this program's own numbers. -/
import Derived.Shelf.Bits.Mul64
import Derived.Ground.NamesProg
import Derived.Test.YtdkobkghhnccgaaRows
namespace Go.Proofs.Ytdkobkghhnccgaa
open Go.Shelf
def l76_ren : Go.Shelf.Ren := ⟨fun | 212 => 76 | 263 => 81 | 264 => 82 | n => n, fun | 46 => 74 | 51 => 105 | 146 => 106 | 53 => 108 | 148 => 109 | n => n, fun | n => n⟩
theorem l76 : Go.Proofs.Lays.n212 Try.prog l76_ren := {
  mixed := by kernel_rfl
  f212 := Try.func76.trans (congrArg some (by kernel_rfl))
  f263 := Try.func81.trans (congrArg some (by kernel_rfl))
  f264 := Try.func82.trans (congrArg some (by kernel_rfl))
  t46 := Try.underlying74
  a46 := Try.isAgg74
  z46 := Try.sizeOf74
  v46 := Try.zeroValue74
  t51 := Try.underlying105
  a51 := Try.isAgg105
  z51 := Try.sizeOf105
  v51 := Try.zeroValue105
  t53 := Try.underlying108
  a53 := Try.isAgg108
  z53 := Try.sizeOf108
  v53 := Try.zeroValue108
  t146 := Try.underlying106
  a146 := Try.isAgg106
  z146 := Try.sizeOf106
  v146 := Try.zeroValue106
  t148 := Try.underlying109
  a148 := Try.isAgg109
  z148 := Try.sizeOf109
  v148 := Try.zeroValue109 }
end Go.Proofs.Ytdkobkghhnccgaa
