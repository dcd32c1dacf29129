/-
  Package reasm's library functions laid out as the kit's shelf wants them (maps.Clone, slices.Sorted over maps.Keys), and their contracts for the evaluator; the helper law wakes, reckoned by the evaluator. No condition.
-/
import Derived.Test.YtknlcieceghaiaaEvV
import Derived.Test.YtknlcieceghaiaaRows
import Derived.Shelf.SortM.Plain
import Derived.Shelf.SortM.SortNone
import Derived.Ground.GgzProg
import Derived.Ground.SlgmProg
import Derived.Ground.SlmcProg
namespace Go.Proofs.Ytknlcieceghaiaa
open Go.RowKit Go.Maps Go.Sort Go.Shelf
def Try.cloneL_ren : Go.Shelf.Ren := ⟨fun | 5 => 26 | 7 => 32 | n => n, fun | 23 => 57 | 25 => 3 | 3 => 5 | 4 => 4 | 20 => 20 | n => n, fun | n => n⟩
theorem Try.cloneL : Go.Proofs.SlLaysW.n5 Try.prog Try.cloneL_ren := {
  mixed := by kernel_rfl,
  f5 := ⟨Try.f26.name, by decide, Try.func26.trans (congrArg some (by kernel_rfl))⟩,
  f7 := Try.func32.trans (congrArg some (by kernel_rfl)),
  t4 := Try.underlying4,
  a4 := Try.isAgg4,
  z4 := Try.sizeOf4,
  v4 := Try.zeroValue4,
  t20 := Try.underlying20,
  a20 := Try.isAgg20,
  z20 := Try.sizeOf20,
  v20 := Try.zeroValue20,
  t23 := Try.underlying57,
  a23 := Try.isAgg57,
  z23 := Try.sizeOf57,
  v23 := Try.zeroValue57 }
def Try.sortedL_ren : Go.Shelf.Ren := ⟨fun | 6 => 33 | 8 => 35 | 9 => 36 | 11 => 38 | 13 => 40 | 12 => 39 | 23 => 50 | 24 => 51 | 14 => 41 | 15 => 42 | 16 => 43 | 17 => 44 | 18 => 45 | 19 => 46 | 20 => 47 | 21 => 48 | 22 => 49 | 25 => 52 | 26 => 53 | 27 => 54 | 28 => 55 | 29 => 56 | 30 => 57 | 31 => 58 | n => n, fun | 26 => 3 | 28 => 74 | 24 => 71 | 0 => 0 | 3 => 3 | 37 => 81 | 48 => 23 | 50 => 93 | 4 => 4 | 40 => 84 | 39 => 83 | 45 => 89 | 5 => 5 | 9 => 9 | 51 => 94 | 55 => 98 | 57 => 100 | 58 => 50 | 33 => 77 | n => n, fun | n => n⟩
theorem Try.sortedL : Go.Proofs.SlLaysZI.n6 Try.prog Try.sortedL_ren := {
  mixed := by kernel_rfl,
  f6 := ⟨Try.f33.name, by decide, Try.func33.trans (congrArg some (by kernel_rfl))⟩,
  f8 := ⟨Try.f35.name, by decide, Try.func35.trans (congrArg some (by kernel_rfl))⟩,
  f11 := ⟨Try.f38.name, by decide, Try.func38.trans (congrArg some (by kernel_rfl))⟩,
  t0 := Try.underlying0,
  a0 := Try.isAgg0,
  z0 := Try.sizeOf0,
  v0 := Try.zeroValue0,
  t24 := Try.underlying71,
  a24 := Try.isAgg71,
  z24 := Try.sizeOf71,
  v24 := Try.zeroValue71,
  t26 := Try.underlying3,
  a26 := Try.isAgg3,
  z26 := Try.sizeOf3,
  v26 := Try.zeroValue3,
  t28 := Try.underlying74,
  a28 := Try.isAgg74,
  z28 := Try.sizeOf74,
  v28 := Try.zeroValue74,
  i26 := by kernel_rfl }
def Try.keysL_ren : Go.Shelf.Ren := ⟨fun | 10 => 37 | n => n, fun | 33 => 77 | 23 => 57 | 0 => 0 | 4 => 4 | 26 => 3 | 3 => 5 | n => n, fun | n => n⟩
theorem Try.keysL : Go.Proofs.SlLaysZI.n10 Try.prog Try.keysL_ren := {
  mixed := by kernel_rfl,
  f10 := ⟨Try.f37.name, by decide, Try.func37.trans (congrArg some (by kernel_rfl))⟩,
  t0 := Try.underlying0,
  a0 := Try.isAgg0,
  z0 := Try.sizeOf0,
  v0 := Try.zeroValue0,
  t4 := Try.underlying4,
  a4 := Try.isAgg4,
  z4 := Try.sizeOf4,
  v4 := Try.zeroValue4,
  t23 := Try.underlying57,
  a23 := Try.isAgg57,
  z23 := Try.sizeOf57,
  v23 := Try.zeroValue57,
  t26 := Try.underlying3,
  a26 := Try.isAgg3,
  z26 := Try.sizeOf3,
  v26 := Try.zeroValue3,
  t33 := Try.underlying77,
  a33 := Try.isAgg77,
  z33 := Try.sizeOf77,
  v33 := Try.zeroValue77 }
def Try.sortL_ren : Go.Shelf.Ren := ⟨fun | 5 => 36 | 8 => 40 | 7 => 39 | 19 => 50 | 20 => 51 | 10 => 41 | 11 => 42 | 12 => 43 | 13 => 44 | 14 => 45 | 15 => 46 | 16 => 47 | 17 => 48 | 18 => 49 | 30 => 52 | 31 => 53 | 32 => 54 | 33 => 55 | 34 => 56 | 35 => 57 | 40 => 58 | n => n, fun | 23 => 71 | 25 => 3 | 3 => 3 | 32 => 81 | 22 => 71 | 0 => 0 | 44 => 23 | 46 => 93 | 4 => 4 | 36 => 84 | 35 => 83 | 41 => 89 | 5 => 5 | 9 => 9 | 53 => 94 | 57 => 98 | 63 => 100 | 64 => 50 | n => n, fun | n => n⟩
theorem Try.sortL : Go.Proofs.SlLaysM.n5 Try.prog Try.sortL_ren := {
  mixed := by kernel_rfl,
  f5 := ⟨Try.f36.name, by decide, Try.func36.trans (congrArg some (by kernel_rfl))⟩,
  f7 := ⟨Try.f39.name, by decide, Try.func39.trans (congrArg some (by kernel_rfl))⟩,
  f8 := Try.func40.trans (congrArg some (by kernel_rfl)),
  f10 := ⟨Try.f41.name, by decide, Try.func41.trans (congrArg some (by kernel_rfl))⟩,
  f11 := ⟨Try.f42.name, by decide, Try.func42.trans (congrArg some (by kernel_rfl))⟩,
  f12 := ⟨Try.f43.name, by decide, Try.func43.trans (congrArg some (by kernel_rfl))⟩,
  f13 := ⟨Try.f44.name, by decide, Try.func44.trans (congrArg some (by kernel_rfl))⟩,
  f14 := ⟨Try.f45.name, by decide, Try.func45.trans (congrArg some (by kernel_rfl))⟩,
  f15 := ⟨Try.f46.name, by decide, Try.func46.trans (congrArg some (by kernel_rfl))⟩,
  f16 := ⟨Try.f47.name, by decide, Try.func47.trans (congrArg some (by kernel_rfl))⟩,
  f17 := ⟨Try.f48.name, by decide, Try.func48.trans (congrArg some (by kernel_rfl))⟩,
  f18 := ⟨Try.f49.name, by decide, Try.func49.trans (congrArg some (by kernel_rfl))⟩,
  f19 := Try.func50.trans (congrArg some (by kernel_rfl)),
  f20 := Try.func51.trans (congrArg some (by kernel_rfl)),
  f30 := ⟨Try.f52.name, by decide, Try.func52.trans (congrArg some (by kernel_rfl))⟩,
  f31 := Try.func53.trans (congrArg some (by kernel_rfl)),
  f32 := Try.func54.trans (congrArg some (by kernel_rfl)),
  f33 := ⟨Try.f55.name, by decide, Try.func55.trans (congrArg some (by kernel_rfl))⟩,
  f34 := ⟨Try.f56.name, by decide, Try.func56.trans (congrArg some (by kernel_rfl))⟩,
  f35 := ⟨Try.f57.name, by decide, Try.func57.trans (congrArg some (by kernel_rfl))⟩,
  f40 := ⟨Try.f58.name, by decide, Try.func58.trans (congrArg some (by kernel_rfl))⟩,
  t0 := Try.underlying0,
  a0 := Try.isAgg0,
  z0 := Try.sizeOf0,
  v0 := Try.zeroValue0,
  t3 := Try.underlying3,
  a3 := Try.isAgg3,
  z3 := Try.sizeOf3,
  v3 := Try.zeroValue3,
  t4 := Try.underlying4,
  a4 := Try.isAgg4,
  z4 := Try.sizeOf4,
  v4 := Try.zeroValue4,
  t5 := Try.underlying5,
  a5 := Try.isAgg5,
  z5 := Try.sizeOf5,
  v5 := Try.zeroValue5,
  t9 := Try.underlying9,
  a9 := Try.isAgg9,
  z9 := Try.sizeOf9,
  v9 := Try.zeroValue9,
  t22 := Try.underlying71,
  a22 := Try.isAgg71,
  z22 := Try.sizeOf71,
  v22 := Try.zeroValue71,
  t23 := Try.underlying71,
  a23 := Try.isAgg71,
  z23 := Try.sizeOf71,
  v23 := Try.zeroValue71,
  t25 := Try.underlying3,
  a25 := Try.isAgg3,
  z25 := Try.sizeOf3,
  v25 := Try.zeroValue3,
  t32 := Try.underlying81,
  a32 := Try.isAgg81,
  z32 := Try.sizeOf81,
  v32 := Try.zeroValue81,
  t35 := Try.underlying83,
  a35 := Try.isAgg83,
  z35 := Try.sizeOf83,
  v35 := Try.zeroValue83,
  t36 := Try.underlying84,
  a36 := Try.isAgg84,
  z36 := Try.sizeOf84,
  v36 := Try.zeroValue84,
  t41 := Try.underlying89,
  a41 := Try.isAgg89,
  z41 := Try.sizeOf89,
  v41 := Try.zeroValue89,
  t44 := Try.underlying23,
  a44 := Try.isAgg23,
  z44 := Try.sizeOf23,
  v44 := Try.zeroValue23,
  t46 := Try.underlying93,
  a46 := Try.isAgg93,
  z46 := Try.sizeOf93,
  v46 := Try.zeroValue93,
  t53 := Try.underlying94,
  a53 := Try.isAgg94,
  z53 := Try.sizeOf94,
  v53 := Try.zeroValue94,
  t57 := Try.underlying98,
  a57 := Try.isAgg98,
  z57 := Try.sizeOf98,
  v57 := Try.zeroValue98,
  t63 := Try.underlying100,
  a63 := Try.isAgg100,
  z63 := Try.sizeOf100,
  v63 := Try.zeroValue100,
  t64 := Try.underlying50,
  a64 := Try.isAgg50,
  z64 := Try.sizeOf50,
  v64 := Try.zeroValue50 }
open Ev
theorem sorts (m : Nat) : AnyZI.SortsIn Try.prog Try.sortedL_ren Fence.wide m :=
  ⟨fun blk off cap ss W hH hblk hsz => callsIn_wide.2 (AnyM.slices_Sort_int Try.sortL blk off cap ss W hH hblk hsz),
   fun p cap W => callsIn_wide.2 (AnyM.slices_Sort_int_none Try.sortL p cap W)⟩
def table : List (Nat × XK) := [(26, .clone), (33, .sorted 37)]
theorem table_good (f : Nat) (k : XK) (h : xlk table f = some k) : XGood Try.prog noG f k := by
  unfold table at h
  simp only [xlk] at h
  split at h
  · rename_i hb
    cases h
    cases Nat.eq_of_beq_eq_true hb
    exact clone_good Try.cloneL rfl (enters_of Try.func26 (by kernel_rfl) rfl)
  · split at h
    · rename_i hb
      cases h
      cases Nat.eq_of_beq_eq_true hb
      exact sorted_good Try.sortedL Try.keysL rfl rfl sorts (enters_of Try.func33 (by kernel_rfl) rfl) (enters_of Try.func36 (by kernel_rfl) rfl) (enters_of Try.func37 (by kernel_rfl) rfl)
    · cases h
theorem wakes_true : lawTrueX Try.prog table 400 15 = True := by kernel_rfl
theorem wakes_any (W : World) : Calls Try.prog 15 #[] W fun e W' => e = .returned (.bool true) ∧ Below W.heap.size W W' := lawTrueX_calls table_good wakes_true W
end Go.Proofs.Ytknlcieceghaiaa
