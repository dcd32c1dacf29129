/-
  The library functions of reasm laid out as the kit's shelf wants them, their contracts for the evaluator; the helper law wakes, reckoned by the evaluator. No condition.
-/
import Derived.Test.YtakgohocimlagaaEvV
import Derived.Test.YtakgohocimlagaaRows
import Derived.Shelf.SortM.Plain
import Derived.Shelf.SortM.SortNone
import Derived.Ground.GgzProg
import Derived.Ground.SlgmProg
import Derived.Ground.SlmcProg
namespace Go.Proofs.Ytakgohocimlagaa
open Go.RowKit Go.Maps Go.Sort Go.Shelf
def Try.cloneL_ren : Go.Shelf.Ren := ⟨fun | 5 => 53 | 7 => 67 | n => n, fun | 23 => 66 | 25 => 3 | 3 => 5 | 4 => 4 | 20 => 20 | n => n, fun | n => n⟩
theorem Try.cloneL : Go.Proofs.SlLaysW.n5 Try.prog Try.cloneL_ren := {
  mixed := by kernel_rfl,
  f5 := ⟨Try.f53.name, by decide, Try.func53.trans (congrArg some (by kernel_rfl))⟩,
  f7 := Try.func67.trans (congrArg some (by kernel_rfl)),
  t4 := Try.underlying4,
  a4 := Try.isAgg4,
  z4 := Try.sizeOf4,
  v4 := Try.zeroValue4,
  t20 := Try.underlying20,
  a20 := Try.isAgg20,
  z20 := Try.sizeOf20,
  v20 := Try.zeroValue20,
  t23 := Try.underlying66,
  a23 := Try.isAgg66,
  z23 := Try.sizeOf66,
  v23 := Try.zeroValue66 }
def Try.sortedL_ren : Go.Shelf.Ren := ⟨fun | 6 => 68 | 8 => 77 | 9 => 78 | 11 => 80 | 13 => 82 | 12 => 81 | 23 => 92 | 24 => 93 | 14 => 83 | 15 => 84 | 16 => 85 | 17 => 86 | 18 => 87 | 19 => 88 | 20 => 89 | 21 => 90 | 22 => 91 | 25 => 94 | 26 => 95 | 27 => 96 | 28 => 97 | 29 => 98 | 30 => 99 | 31 => 100 | n => n, fun | 26 => 3 | 28 => 122 | 24 => 119 | 0 => 0 | 3 => 3 | 37 => 45 | 48 => 23 | 50 => 26 | 4 => 4 | 40 => 134 | 39 => 133 | 45 => 80 | 5 => 5 | 9 => 9 | 51 => 142 | 55 => 146 | 57 => 148 | 58 => 149 | 33 => 103 | n => n, fun | n => n⟩
theorem Try.sortedL : Go.Proofs.SlLaysZI.n6 Try.prog Try.sortedL_ren := {
  mixed := by kernel_rfl,
  f6 := ⟨Try.f68.name, by decide, Try.func68.trans (congrArg some (by kernel_rfl))⟩,
  f8 := ⟨Try.f77.name, by decide, Try.func77.trans (congrArg some (by kernel_rfl))⟩,
  f11 := ⟨Try.f80.name, by decide, Try.func80.trans (congrArg some (by kernel_rfl))⟩,
  t0 := Try.underlying0,
  a0 := Try.isAgg0,
  z0 := Try.sizeOf0,
  v0 := Try.zeroValue0,
  t24 := Try.underlying119,
  a24 := Try.isAgg119,
  z24 := Try.sizeOf119,
  v24 := Try.zeroValue119,
  t26 := Try.underlying3,
  a26 := Try.isAgg3,
  z26 := Try.sizeOf3,
  v26 := Try.zeroValue3,
  t28 := Try.underlying122,
  a28 := Try.isAgg122,
  z28 := Try.sizeOf122,
  v28 := Try.zeroValue122,
  i26 := by kernel_rfl }
def Try.keysL_ren : Go.Shelf.Ren := ⟨fun | 10 => 79 | n => n, fun | 33 => 103 | 23 => 66 | 0 => 0 | 4 => 4 | 26 => 3 | 3 => 5 | n => n, fun | n => n⟩
theorem Try.keysL : Go.Proofs.SlLaysZI.n10 Try.prog Try.keysL_ren := {
  mixed := by kernel_rfl,
  f10 := ⟨Try.f79.name, by decide, Try.func79.trans (congrArg some (by kernel_rfl))⟩,
  t0 := Try.underlying0,
  a0 := Try.isAgg0,
  z0 := Try.sizeOf0,
  v0 := Try.zeroValue0,
  t4 := Try.underlying4,
  a4 := Try.isAgg4,
  z4 := Try.sizeOf4,
  v4 := Try.zeroValue4,
  t23 := Try.underlying66,
  a23 := Try.isAgg66,
  z23 := Try.sizeOf66,
  v23 := Try.zeroValue66,
  t26 := Try.underlying3,
  a26 := Try.isAgg3,
  z26 := Try.sizeOf3,
  v26 := Try.zeroValue3,
  t33 := Try.underlying103,
  a33 := Try.isAgg103,
  z33 := Try.sizeOf103,
  v33 := Try.zeroValue103 }
def Try.sortL_ren : Go.Shelf.Ren := ⟨fun | 5 => 78 | 8 => 82 | 7 => 81 | 19 => 92 | 20 => 93 | 10 => 83 | 11 => 84 | 12 => 85 | 13 => 86 | 14 => 87 | 15 => 88 | 16 => 89 | 17 => 90 | 18 => 91 | 30 => 94 | 31 => 95 | 32 => 96 | 33 => 97 | 34 => 98 | 35 => 99 | 40 => 100 | n => n, fun | 23 => 119 | 25 => 3 | 3 => 3 | 32 => 45 | 22 => 119 | 0 => 0 | 44 => 23 | 46 => 26 | 4 => 4 | 36 => 134 | 35 => 133 | 41 => 80 | 5 => 5 | 9 => 9 | 53 => 142 | 57 => 146 | 63 => 148 | 64 => 149 | n => n, fun | n => n⟩
theorem Try.sortL : Go.Proofs.SlLaysM.n5 Try.prog Try.sortL_ren := {
  mixed := by kernel_rfl,
  f5 := ⟨Try.f78.name, by decide, Try.func78.trans (congrArg some (by kernel_rfl))⟩,
  f7 := ⟨Try.f81.name, by decide, Try.func81.trans (congrArg some (by kernel_rfl))⟩,
  f8 := Try.func82.trans (congrArg some (by kernel_rfl)),
  f10 := ⟨Try.f83.name, by decide, Try.func83.trans (congrArg some (by kernel_rfl))⟩,
  f11 := ⟨Try.f84.name, by decide, Try.func84.trans (congrArg some (by kernel_rfl))⟩,
  f12 := ⟨Try.f85.name, by decide, Try.func85.trans (congrArg some (by kernel_rfl))⟩,
  f13 := ⟨Try.f86.name, by decide, Try.func86.trans (congrArg some (by kernel_rfl))⟩,
  f14 := ⟨Try.f87.name, by decide, Try.func87.trans (congrArg some (by kernel_rfl))⟩,
  f15 := ⟨Try.f88.name, by decide, Try.func88.trans (congrArg some (by kernel_rfl))⟩,
  f16 := ⟨Try.f89.name, by decide, Try.func89.trans (congrArg some (by kernel_rfl))⟩,
  f17 := ⟨Try.f90.name, by decide, Try.func90.trans (congrArg some (by kernel_rfl))⟩,
  f18 := ⟨Try.f91.name, by decide, Try.func91.trans (congrArg some (by kernel_rfl))⟩,
  f19 := Try.func92.trans (congrArg some (by kernel_rfl)),
  f20 := Try.func93.trans (congrArg some (by kernel_rfl)),
  f30 := ⟨Try.f94.name, by decide, Try.func94.trans (congrArg some (by kernel_rfl))⟩,
  f31 := Try.func95.trans (congrArg some (by kernel_rfl)),
  f32 := Try.func96.trans (congrArg some (by kernel_rfl)),
  f33 := ⟨Try.f97.name, by decide, Try.func97.trans (congrArg some (by kernel_rfl))⟩,
  f34 := ⟨Try.f98.name, by decide, Try.func98.trans (congrArg some (by kernel_rfl))⟩,
  f35 := ⟨Try.f99.name, by decide, Try.func99.trans (congrArg some (by kernel_rfl))⟩,
  f40 := ⟨Try.f100.name, by decide, Try.func100.trans (congrArg some (by kernel_rfl))⟩,
  t0 := Try.underlying0,
  a0 := Try.isAgg0,
  z0 := Try.sizeOf0,
  v0 := Try.zeroValue0,
  t3 := Try.underlying3,
  a3 := Try.isAgg3,
  z3 := Try.sizeOf3,
  v3 := Try.zeroValue3,
  t4 := Try.underlying4,
  a4 := Try.isAgg4,
  z4 := Try.sizeOf4,
  v4 := Try.zeroValue4,
  t5 := Try.underlying5,
  a5 := Try.isAgg5,
  z5 := Try.sizeOf5,
  v5 := Try.zeroValue5,
  t9 := Try.underlying9,
  a9 := Try.isAgg9,
  z9 := Try.sizeOf9,
  v9 := Try.zeroValue9,
  t22 := Try.underlying119,
  a22 := Try.isAgg119,
  z22 := Try.sizeOf119,
  v22 := Try.zeroValue119,
  t23 := Try.underlying119,
  a23 := Try.isAgg119,
  z23 := Try.sizeOf119,
  v23 := Try.zeroValue119,
  t25 := Try.underlying3,
  a25 := Try.isAgg3,
  z25 := Try.sizeOf3,
  v25 := Try.zeroValue3,
  t32 := Try.underlying45,
  a32 := Try.isAgg45,
  z32 := Try.sizeOf45,
  v32 := Try.zeroValue45,
  t35 := Try.underlying133,
  a35 := Try.isAgg133,
  z35 := Try.sizeOf133,
  v35 := Try.zeroValue133,
  t36 := Try.underlying134,
  a36 := Try.isAgg134,
  z36 := Try.sizeOf134,
  v36 := Try.zeroValue134,
  t41 := Try.underlying80,
  a41 := Try.isAgg80,
  z41 := Try.sizeOf80,
  v41 := Try.zeroValue80,
  t44 := Try.underlying23,
  a44 := Try.isAgg23,
  z44 := Try.sizeOf23,
  v44 := Try.zeroValue23,
  t46 := Try.underlying26,
  a46 := Try.isAgg26,
  z46 := Try.sizeOf26,
  v46 := Try.zeroValue26,
  t53 := Try.underlying142,
  a53 := Try.isAgg142,
  z53 := Try.sizeOf142,
  v53 := Try.zeroValue142,
  t57 := Try.underlying146,
  a57 := Try.isAgg146,
  z57 := Try.sizeOf146,
  v57 := Try.zeroValue146,
  t63 := Try.underlying148,
  a63 := Try.isAgg148,
  z63 := Try.sizeOf148,
  v63 := Try.zeroValue148,
  t64 := Try.underlying149,
  a64 := Try.isAgg149,
  z64 := Try.sizeOf149,
  v64 := Try.zeroValue149 }
open Ev
theorem sorts (m : Nat) : AnyZI.SortsIn Try.prog Try.sortedL_ren Fence.wide m :=
  ⟨fun blk off cap ss W hH hblk hsz => callsIn_wide.2 (AnyM.slices_Sort_int Try.sortL blk off cap ss W hH hblk hsz),
   fun p cap W => callsIn_wide.2 (AnyM.slices_Sort_int_none Try.sortL p cap W)⟩
def table : List (Nat × XK) := [(53, .clone), (68, .sorted 79)]
theorem table_good (f : Nat) (k : XK) (h : xlk table f = some k) : XGood Try.prog noG f k := by
  unfold table at h
  simp only [xlk] at h
  split at h
  · rename_i hb
    cases h
    cases Nat.eq_of_beq_eq_true hb
    exact clone_good Try.cloneL rfl (enters_of Try.func53 (by kernel_rfl) rfl)
  · split at h
    · rename_i hb
      cases h
      cases Nat.eq_of_beq_eq_true hb
      exact sorted_good Try.sortedL Try.keysL rfl rfl sorts (enters_of Try.func68 (by kernel_rfl) rfl) (enters_of Try.func78 (by kernel_rfl) rfl) (enters_of Try.func79 (by kernel_rfl) rfl)
    · cases h
theorem wakes_true : lawTrueX Try.prog table 400 10 = True := by kernel_rfl
theorem wakes_any (W : World) : Calls Try.prog 10 #[] W fun e W' => e = .returned (.bool true) ∧ Below W.heap.size W W' := lawTrueX_calls table_good wakes_true W
end Go.Proofs.Ytakgohocimlagaa
