/- The library functions of this program are those of which the shelf speaks: number by number. -/
import Derived.Shelf.Strings.FieldsFuncGrows
import Derived.Test.YtmjbfdidhakoaaaDoorProg
namespace Go.Proofs
open Go.Shelf
def Tryd.l229_ren : Go.Shelf.Ren := ⟨fun | 229 => 23 | n => n, fun | 9 => 9 | 40 => 39 | 31 => 25 | 152 => 54 | 3 => 3 | 0 => 0 | 4 => 4 | 21 => 21 | 154 => 56 | n => n, fun | n => n⟩
theorem Tryd.l229 : Go.Proofs.Lays.n229 Tryd.prog Tryd.l229_ren := {
  mixed := by kernel_rfl
  f229 := Tryd.func23.trans (congrArg some (by kernel_rfl))
  t0 := Tryd.underlying0
  a0 := Tryd.isAgg0
  z0 := Tryd.sizeOf0
  v0 := Tryd.zeroValue0
  t3 := Tryd.underlying3
  a3 := Tryd.isAgg3
  z3 := Tryd.sizeOf3
  v3 := Tryd.zeroValue3
  t4 := Tryd.underlying4
  a4 := Tryd.isAgg4
  z4 := Tryd.sizeOf4
  v4 := Tryd.zeroValue4
  t9 := Tryd.underlying9
  a9 := Tryd.isAgg9
  z9 := Tryd.sizeOf9
  v9 := Tryd.zeroValue9
  t21 := Tryd.underlying21
  a21 := Tryd.isAgg21
  z21 := Tryd.sizeOf21
  v21 := Tryd.zeroValue21
  t31 := Tryd.underlying25
  a31 := Tryd.isAgg25
  z31 := Tryd.sizeOf25
  v31 := Tryd.zeroValue25
  t40 := Tryd.underlying39
  a40 := Tryd.isAgg39
  z40 := Tryd.sizeOf39
  v40 := Tryd.zeroValue39
  t152 := Tryd.underlying54
  a152 := Tryd.isAgg54
  z152 := Tryd.sizeOf54
  v152 := Tryd.zeroValue54
  t154 := Tryd.underlying56
  a154 := Tryd.isAgg56
  z154 := Tryd.sizeOf56
  v154 := Tryd.zeroValue56 }
end Go.Proofs
