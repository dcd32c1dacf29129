/-
  The library functions of reasm laid out as the kit's shelf wants them, their contracts for the evaluator; the helper law wakes, reckoned by the evaluator. No condition.
-/
import Derived.Test.YtakgohocimlagaaGreatEvV
import Derived.Test.YtakgohocimlagaaGreatRows
import Derived.Shelf.SortM.Plain
import Derived.Shelf.SortM.SortNone
import Derived.Ground.GgzProg
import Derived.Ground.SlgmProg
import Derived.Ground.SlmcProg
namespace Go.Proofs.YtakgohocimlagaaGreat
open Go.RowKit Go.Maps Go.Sort Go.Shelf
def Tryz.cloneL_ren : Go.Shelf.Ren := ⟨fun | 5 => 57 | 7 => 87 | n => n, fun | 23 => 92 | 25 => 3 | 3 => 5 | 4 => 4 | 20 => 20 | n => n, fun | n => n⟩
theorem Tryz.cloneL : Go.Proofs.SlLaysW.n5 Tryz.prog Tryz.cloneL_ren := {
  mixed := by kernel_rfl,
  f5 := ⟨Tryz.f57.name, by decide, Tryz.func57.trans (congrArg some (by kernel_rfl))⟩,
  f7 := Tryz.func87.trans (congrArg some (by kernel_rfl)),
  t4 := Tryz.underlying4,
  a4 := Tryz.isAgg4,
  z4 := Tryz.sizeOf4,
  v4 := Tryz.zeroValue4,
  t20 := Tryz.underlying20,
  a20 := Tryz.isAgg20,
  z20 := Tryz.sizeOf20,
  v20 := Tryz.zeroValue20,
  t23 := Tryz.underlying92,
  a23 := Tryz.isAgg92,
  z23 := Tryz.sizeOf92,
  v23 := Tryz.zeroValue92 }
def Tryz.sortedL_ren : Go.Shelf.Ren := ⟨fun | 6 => 100 | 8 => 104 | 9 => 105 | 11 => 107 | 13 => 109 | 12 => 108 | 23 => 119 | 24 => 120 | 14 => 110 | 15 => 111 | 16 => 112 | 17 => 113 | 18 => 114 | 19 => 115 | 20 => 116 | 21 => 117 | 22 => 118 | 25 => 121 | 26 => 122 | 27 => 123 | 28 => 124 | 29 => 125 | 30 => 126 | 31 => 127 | n => n, fun | 26 => 3 | 28 => 147 | 24 => 144 | 0 => 0 | 3 => 3 | 37 => 127 | 48 => 22 | 50 => 25 | 4 => 4 | 40 => 155 | 39 => 154 | 45 => 110 | 5 => 5 | 9 => 9 | 51 => 163 | 55 => 167 | 57 => 169 | 58 => 170 | 33 => 119 | n => n, fun | n => n⟩
theorem Tryz.sortedL : Go.Proofs.SlLaysZI.n6 Tryz.prog Tryz.sortedL_ren := {
  mixed := by kernel_rfl,
  f6 := ⟨Tryz.f100.name, by decide, Tryz.func100.trans (congrArg some (by kernel_rfl))⟩,
  f8 := ⟨Tryz.f104.name, by decide, Tryz.func104.trans (congrArg some (by kernel_rfl))⟩,
  f11 := ⟨Tryz.f107.name, by decide, Tryz.func107.trans (congrArg some (by kernel_rfl))⟩,
  t0 := Tryz.underlying0,
  a0 := Tryz.isAgg0,
  z0 := Tryz.sizeOf0,
  v0 := Tryz.zeroValue0,
  t24 := Tryz.underlying144,
  a24 := Tryz.isAgg144,
  z24 := Tryz.sizeOf144,
  v24 := Tryz.zeroValue144,
  t26 := Tryz.underlying3,
  a26 := Tryz.isAgg3,
  z26 := Tryz.sizeOf3,
  v26 := Tryz.zeroValue3,
  t28 := Tryz.underlying147,
  a28 := Tryz.isAgg147,
  z28 := Tryz.sizeOf147,
  v28 := Tryz.zeroValue147,
  i26 := by kernel_rfl }
def Tryz.keysL_ren : Go.Shelf.Ren := ⟨fun | 10 => 106 | n => n, fun | 33 => 119 | 23 => 92 | 0 => 0 | 4 => 4 | 26 => 3 | 3 => 5 | n => n, fun | n => n⟩
theorem Tryz.keysL : Go.Proofs.SlLaysZI.n10 Tryz.prog Tryz.keysL_ren := {
  mixed := by kernel_rfl,
  f10 := ⟨Tryz.f106.name, by decide, Tryz.func106.trans (congrArg some (by kernel_rfl))⟩,
  t0 := Tryz.underlying0,
  a0 := Tryz.isAgg0,
  z0 := Tryz.sizeOf0,
  v0 := Tryz.zeroValue0,
  t4 := Tryz.underlying4,
  a4 := Tryz.isAgg4,
  z4 := Tryz.sizeOf4,
  v4 := Tryz.zeroValue4,
  t23 := Tryz.underlying92,
  a23 := Tryz.isAgg92,
  z23 := Tryz.sizeOf92,
  v23 := Tryz.zeroValue92,
  t26 := Tryz.underlying3,
  a26 := Tryz.isAgg3,
  z26 := Tryz.sizeOf3,
  v26 := Tryz.zeroValue3,
  t33 := Tryz.underlying119,
  a33 := Tryz.isAgg119,
  z33 := Tryz.sizeOf119,
  v33 := Tryz.zeroValue119 }
def Tryz.sortL_ren : Go.Shelf.Ren := ⟨fun | 5 => 105 | 8 => 109 | 7 => 108 | 19 => 119 | 20 => 120 | 10 => 110 | 11 => 111 | 12 => 112 | 13 => 113 | 14 => 114 | 15 => 115 | 16 => 116 | 17 => 117 | 18 => 118 | 30 => 121 | 31 => 122 | 32 => 123 | 33 => 124 | 34 => 125 | 35 => 126 | 40 => 127 | n => n, fun | 23 => 144 | 25 => 3 | 3 => 3 | 32 => 127 | 22 => 144 | 0 => 0 | 44 => 22 | 46 => 25 | 4 => 4 | 36 => 155 | 35 => 154 | 41 => 110 | 5 => 5 | 9 => 9 | 53 => 163 | 57 => 167 | 63 => 169 | 64 => 170 | n => n, fun | n => n⟩
theorem Tryz.sortL : Go.Proofs.SlLaysM.n5 Tryz.prog Tryz.sortL_ren := {
  mixed := by kernel_rfl,
  f5 := ⟨Tryz.f105.name, by decide, Tryz.func105.trans (congrArg some (by kernel_rfl))⟩,
  f7 := ⟨Tryz.f108.name, by decide, Tryz.func108.trans (congrArg some (by kernel_rfl))⟩,
  f8 := Tryz.func109.trans (congrArg some (by kernel_rfl)),
  f10 := ⟨Tryz.f110.name, by decide, Tryz.func110.trans (congrArg some (by kernel_rfl))⟩,
  f11 := ⟨Tryz.f111.name, by decide, Tryz.func111.trans (congrArg some (by kernel_rfl))⟩,
  f12 := ⟨Tryz.f112.name, by decide, Tryz.func112.trans (congrArg some (by kernel_rfl))⟩,
  f13 := ⟨Tryz.f113.name, by decide, Tryz.func113.trans (congrArg some (by kernel_rfl))⟩,
  f14 := ⟨Tryz.f114.name, by decide, Tryz.func114.trans (congrArg some (by kernel_rfl))⟩,
  f15 := ⟨Tryz.f115.name, by decide, Tryz.func115.trans (congrArg some (by kernel_rfl))⟩,
  f16 := ⟨Tryz.f116.name, by decide, Tryz.func116.trans (congrArg some (by kernel_rfl))⟩,
  f17 := ⟨Tryz.f117.name, by decide, Tryz.func117.trans (congrArg some (by kernel_rfl))⟩,
  f18 := ⟨Tryz.f118.name, by decide, Tryz.func118.trans (congrArg some (by kernel_rfl))⟩,
  f19 := Tryz.func119.trans (congrArg some (by kernel_rfl)),
  f20 := Tryz.func120.trans (congrArg some (by kernel_rfl)),
  f30 := ⟨Tryz.f121.name, by decide, Tryz.func121.trans (congrArg some (by kernel_rfl))⟩,
  f31 := Tryz.func122.trans (congrArg some (by kernel_rfl)),
  f32 := Tryz.func123.trans (congrArg some (by kernel_rfl)),
  f33 := ⟨Tryz.f124.name, by decide, Tryz.func124.trans (congrArg some (by kernel_rfl))⟩,
  f34 := ⟨Tryz.f125.name, by decide, Tryz.func125.trans (congrArg some (by kernel_rfl))⟩,
  f35 := ⟨Tryz.f126.name, by decide, Tryz.func126.trans (congrArg some (by kernel_rfl))⟩,
  f40 := ⟨Tryz.f127.name, by decide, Tryz.func127.trans (congrArg some (by kernel_rfl))⟩,
  t0 := Tryz.underlying0,
  a0 := Tryz.isAgg0,
  z0 := Tryz.sizeOf0,
  v0 := Tryz.zeroValue0,
  t3 := Tryz.underlying3,
  a3 := Tryz.isAgg3,
  z3 := Tryz.sizeOf3,
  v3 := Tryz.zeroValue3,
  t4 := Tryz.underlying4,
  a4 := Tryz.isAgg4,
  z4 := Tryz.sizeOf4,
  v4 := Tryz.zeroValue4,
  t5 := Tryz.underlying5,
  a5 := Tryz.isAgg5,
  z5 := Tryz.sizeOf5,
  v5 := Tryz.zeroValue5,
  t9 := Tryz.underlying9,
  a9 := Tryz.isAgg9,
  z9 := Tryz.sizeOf9,
  v9 := Tryz.zeroValue9,
  t22 := Tryz.underlying144,
  a22 := Tryz.isAgg144,
  z22 := Tryz.sizeOf144,
  v22 := Tryz.zeroValue144,
  t23 := Tryz.underlying144,
  a23 := Tryz.isAgg144,
  z23 := Tryz.sizeOf144,
  v23 := Tryz.zeroValue144,
  t25 := Tryz.underlying3,
  a25 := Tryz.isAgg3,
  z25 := Tryz.sizeOf3,
  v25 := Tryz.zeroValue3,
  t32 := Tryz.underlying127,
  a32 := Tryz.isAgg127,
  z32 := Tryz.sizeOf127,
  v32 := Tryz.zeroValue127,
  t35 := Tryz.underlying154,
  a35 := Tryz.isAgg154,
  z35 := Tryz.sizeOf154,
  v35 := Tryz.zeroValue154,
  t36 := Tryz.underlying155,
  a36 := Tryz.isAgg155,
  z36 := Tryz.sizeOf155,
  v36 := Tryz.zeroValue155,
  t41 := Tryz.underlying110,
  a41 := Tryz.isAgg110,
  z41 := Tryz.sizeOf110,
  v41 := Tryz.zeroValue110,
  t44 := Tryz.underlying22,
  a44 := Tryz.isAgg22,
  z44 := Tryz.sizeOf22,
  v44 := Tryz.zeroValue22,
  t46 := Tryz.underlying25,
  a46 := Tryz.isAgg25,
  z46 := Tryz.sizeOf25,
  v46 := Tryz.zeroValue25,
  t53 := Tryz.underlying163,
  a53 := Tryz.isAgg163,
  z53 := Tryz.sizeOf163,
  v53 := Tryz.zeroValue163,
  t57 := Tryz.underlying167,
  a57 := Tryz.isAgg167,
  z57 := Tryz.sizeOf167,
  v57 := Tryz.zeroValue167,
  t63 := Tryz.underlying169,
  a63 := Tryz.isAgg169,
  z63 := Tryz.sizeOf169,
  v63 := Tryz.zeroValue169,
  t64 := Tryz.underlying170,
  a64 := Tryz.isAgg170,
  z64 := Tryz.sizeOf170,
  v64 := Tryz.zeroValue170 }
open Ev
theorem sorts (m : Nat) : AnyZI.SortsIn Tryz.prog Tryz.sortedL_ren Fence.wide m :=
  ⟨fun blk off cap ss W hH hblk hsz => callsIn_wide.2 (AnyM.slices_Sort_int Tryz.sortL blk off cap ss W hH hblk hsz),
   fun p cap W => callsIn_wide.2 (AnyM.slices_Sort_int_none Tryz.sortL p cap W)⟩
def table : List (Nat × XK) := [(57, .clone), (100, .sorted 106)]
theorem table_good [E : Inhabited EnvT] (f : Nat) (k : XK) (h : xlk table f = some k) : XGood Tryz.prog noG f k := by
  unfold table at h
  simp only [xlk] at h
  split at h
  · rename_i hb
    cases h
    cases Nat.eq_of_beq_eq_true hb
    exact clone_good Tryz.cloneL rfl (enters_of Tryz.func57 (by kernel_rfl) rfl)
  · split at h
    · rename_i hb
      cases h
      cases Nat.eq_of_beq_eq_true hb
      exact sorted_good Tryz.sortedL Tryz.keysL rfl rfl sorts (enters_of Tryz.func100 (by kernel_rfl) rfl) (enters_of Tryz.func105 (by kernel_rfl) rfl) (enters_of Tryz.func106 (by kernel_rfl) rfl)
    · cases h
theorem wakes_true : @lawSymX noE Tryz.prog table 400 16 [] = True := by kernel_rfl
theorem wakes_any (W : World) : Calls Tryz.prog 16 #[] W fun e W' => e = .returned (.bool true) ∧ Below W.heap.size W W' := @lawTrueX_calls noE Tryz.prog table 400 16 (@table_good noE) wakes_true W (fun b hb => absurd hb (Nat.not_lt_zero b)) (Nat.zero_le _)
end Go.Proofs.YtakgohocimlagaaGreat
