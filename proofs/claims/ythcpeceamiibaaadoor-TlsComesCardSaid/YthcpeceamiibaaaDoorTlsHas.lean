/-
  Package tls's strings.Contains laid out as the kit's shelf wants it. Printed by program. No condition.
-/
import Derived.Test.YthcpeceamiibaaaDoorPolL
import Derived.Shelf.Strings.Search3
namespace Go.Proofs.YthcpeceamiibaaaDoor
open Go.RowKit Go.Shelf
def Tryd.hasL_ren : Go.Shelf.Ren := ⟨fun | 144 => 17 | 143 => 45 | 219 => 75 | 217 => 93 | 225 => 94 | 224 => 95 | 267 => 96 | 266 => 104 | 314 => 105 | n => n, fun | 9 => 9 | 4 => 4 | 3 => 3 | 5 => 5 | 46 => 52 | 146 => 105 | 51 => 104 | n => n, fun | 1 => 1 | n => n⟩
theorem Tryd.hasL : Go.Proofs.Lays.n144 Tryd.prog Tryd.hasL_ren := {
  mixed := by kernel_rfl,
  f143 := Tryd.func45.trans (congrArg some (by kernel_rfl)),
  f144 := Tryd.func17.trans (congrArg some (by kernel_rfl)),
  f217 := Tryd.func93.trans (congrArg some (by kernel_rfl)),
  f219 := Tryd.func75.trans (congrArg some (by kernel_rfl)),
  f224 := Tryd.func95.trans (congrArg some (by kernel_rfl)),
  f225 := Tryd.func94.trans (congrArg some (by kernel_rfl)),
  f266 := Tryd.func104.trans (congrArg some (by kernel_rfl)),
  f267 := Tryd.func96.trans (congrArg some (by kernel_rfl)),
  f314 := Tryd.func105.trans (congrArg some (by kernel_rfl)),
  t3 := Tryd.underlying3,
  a3 := Tryd.isAgg3,
  z3 := Tryd.sizeOf3,
  v3 := Tryd.zeroValue3,
  t4 := Tryd.underlying4,
  a4 := Tryd.isAgg4,
  z4 := Tryd.sizeOf4,
  v4 := Tryd.zeroValue4,
  t5 := Tryd.underlying5,
  a5 := Tryd.isAgg5,
  z5 := Tryd.sizeOf5,
  v5 := Tryd.zeroValue5,
  t9 := Tryd.underlying9,
  a9 := Tryd.isAgg9,
  z9 := Tryd.sizeOf9,
  v9 := Tryd.zeroValue9,
  t46 := Tryd.underlying52,
  a46 := Tryd.isAgg52,
  z46 := Tryd.sizeOf52,
  v46 := Tryd.zeroValue52,
  t51 := Tryd.underlying104,
  a51 := Tryd.isAgg104,
  z51 := Tryd.sizeOf104,
  v51 := Tryd.zeroValue104,
  t146 := Tryd.underlying105,
  a146 := Tryd.isAgg105,
  z146 := Tryd.sizeOf105,
  v146 := Tryd.zeroValue105,
  g1 := by kernel_rfl }
end Go.Proofs.YthcpeceamiibaaaDoor
