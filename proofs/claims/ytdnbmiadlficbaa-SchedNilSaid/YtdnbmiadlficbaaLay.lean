/- The library functions of this program are those of which the shelf speaks: number by number. -/
import Derived.Shelf.Lays2
import Derived.Test.YtdnbmiadlficbaaProg
namespace Go.Proofs
open Go.Shelf
def Try.l21_ren : Go.Shelf.Ren := ⟨fun | 21 => 27 | 27 => 30 | 28 => 31 | 35 => 32 | 39 => 33 | n => n, fun | 22 => 22 | 3 => 3 | 4 => 4 | 0 => 0 | n => n, fun | n => n⟩
theorem Try.l21 : Go.Proofs.Lays2.n21 Try.prog Try.l21_ren := {
  mixed := by kernel_rfl
  f21 := Try.func27.trans (congrArg some (by kernel_rfl))
  f27 := Try.func30.trans (congrArg some (by kernel_rfl))
  f28 := Try.func31.trans (congrArg some (by kernel_rfl))
  f35 := Try.func32.trans (congrArg some (by kernel_rfl))
  f39 := Try.func33.trans (congrArg some (by kernel_rfl))
  t0 := Try.underlying0
  a0 := Try.isAgg0
  z0 := Try.sizeOf0
  v0 := Try.zeroValue0
  t3 := Try.underlying3
  a3 := Try.isAgg3
  z3 := Try.sizeOf3
  v3 := Try.zeroValue3
  t4 := Try.underlying4
  a4 := Try.isAgg4
  z4 := Try.sizeOf4
  v4 := Try.zeroValue4
  t22 := Try.underlying22
  a22 := Try.isAgg22
  z22 := Try.sizeOf22
  v22 := Try.zeroValue22
  i3 := by kernel_rfl }
end Go.Proofs
