/-
  The builder's layout as strings.Repeat's contract wants it. Printed by program. No condition.
-/
import Derived.Test.YtjppfdilfcokeaaDoorPolL
import Derived.Shelf.Strings.Repeat
namespace Go.Proofs.YtjppfdilfcokeaaDoor
open Go.RowKit Go.Shelf
theorem Tryd.repX : Builder.Extra Tryd.prog Tryd.repL_ren := {
  sizeBuilder := by kernel_rfl,
  liesBuilder := by kernel_rfl,
  t5 := Tryd.underlying5,
  a5 := Tryd.isAgg5,
  z5 := Tryd.sizeOf5,
  v5 := Tryd.zeroValue5,
  infoByte := by kernel_rfl,
  cellsByte := by kernel_rfl,
  sizeByte := by kernel_rfl,
  neB5 := by decide }
end Go.Proofs.YtjppfdilfcokeaaDoor
