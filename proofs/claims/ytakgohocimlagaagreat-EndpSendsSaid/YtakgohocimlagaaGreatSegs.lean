/-
  Segments of package api; the walk of tcp.Length. Condition: numbers are in the ranges of their kinds.
-/
import Derived.Test.YtakgohocimlagaaGreatOptF
import Derived.StillTailTactics
import Derived.Deep.RegionHeld3
namespace Go.Proofs.YtakgohocimlagaaGreat
open Go.RowKit
set_option linter.unusedVariables false
set_option linter.unusedSimpArgs false

/-- A segment's plain state. -/
structure Seg where
  (sp dp sq ak fl wn ug : Int)
  (ops : List O)
  (data : List UInt8)
structure Seg.Ok (s : Seg) : Prop where
  sp : 0 ≤ s.sp ∧ s.sp ≤ 65535
  dp : 0 ≤ s.dp ∧ s.dp ≤ 65535
  sq : U32 s.sq
  ak : U32 s.ak
  fl : 0 ≤ s.fl ∧ s.fl ≤ 255
  wn : 0 ≤ s.wn ∧ s.wn ≤ 65535
  ug : 0 ≤ s.ug ∧ s.ug ≤ 65535
  len : s.data.length ≤ 1073741824
def segV (s : Seg) (ov dv : Value) : Value := .agg #[.int .u16 s.sp, .int .u16 s.dp, .int .u32 s.sq, .int .u32 s.ak, .int .u8 s.fl, .int .u16 s.wn, .int .u16 s.ug, ov, dv]
/-- ov, dv read as the segment's options and data. -/
def SegAt (w : World) (s : Seg) (ov dv : Value) : Prop := OptsV w ov s.ops ∧ BytesV w dv s.data

def has (f m : Int) : Bool := bits .and .u8 f m != 0
theorem has_eq (f m : Int) : (bits .and .u8 f m == 0) = !has f m := by simp [has, bne]
def bI (b : Bool) : Int := if b then 1 else 0
def lenI (s : Seg) : Int := s.data.length + bI (has s.fl 2) + bI (has s.fl 1)

set_option maxRecDepth 100000 in
set_option maxHeartbeats 1000000 in
theorem length_any (w : World) (s : Seg) (ok : s.Ok) (A1 A2 : Option Addr) (n1 c1 c2 : Nat) :
    Calls Tryz.prog 66 #[segV s (.slice A1 n1 c1) (.slice A2 s.data.length c2)] w fun e w' => e = .returned (.int .u32 (lenI s)) ∧ Keeps [] w w' := by
  obtain ⟨sp, dp, sq, ak, fl, wn, ug, ops, data⟩ := s
  have hl := ok.len
  have hf := ok.fl
  unfold segV
  simp only at hl hf ⊢
  have i0 : ∀ w, (Instr.index 133 (.agg #[.int .u8 2, .int .u8 1]) (.int .i64 0)).run Tryz.prog w = .ok (.int .u8 2) w := fun _ => by kernel_rfl
  have i1 : ∀ w, (Instr.index 133 (.agg #[.int .u8 2, .int .u8 1]) (.int .i64 1)).run Tryz.prog w = .ok (.int .u8 1) w := fun _ => by kernel_rfl
  cases h2 : has fl 2 <;> cases h1 : has fl 1
  · have F := Lib.hid (show lenI ⟨sp, dp, sq, ak, fl, wn, ug, ops, data⟩ = data.length by unfold lenI; simp only [h2, h1, bI]; simp)
    unfold has at h1 h2
    clear ok
    go_enter Tryz.func66, Tryz.ntmps66
    go_wp2
    go_loop [3, 11] (fun c i => (i = .int .i64 0 ∧ c = .int .u32 data.length) ∨ (i = .int .i64 1 ∧ c = .int .u32 data.length) ∨ (i = .int .i64 2 ∧ c = .int .u32 data.length)) (fun _ i => 2 - (intOf i).toNat)
    case atStart => exact Or.inl ⟨rfl, rfl⟩
    case round =>
      rcases hrel with ⟨rfl, rfl⟩ | ⟨rfl, rfl⟩ | ⟨rfl, rfl⟩
      · go_wp2
        go_round
        case rel => exact Or.inr (Or.inl ⟨rfl, rfl⟩)
        case measure => simp [intOf]
      · go_wp2
        go_round
        case rel => exact Or.inr (Or.inr ⟨rfl, by first | rfl | (rw [Int.add_assoc]; rfl)⟩)
        case measure => simp [intOf]
      · go_wp2
        go_ret
        exact ⟨ret_i F.out.symm, Keeps.alloc _ _ _⟩
  · have F := Lib.hid (show lenI ⟨sp, dp, sq, ak, fl, wn, ug, ops, data⟩ = (data.length + 1) by unfold lenI; simp only [h2, h1, bI]; simp)
    unfold has at h1 h2
    clear ok
    go_enter Tryz.func66, Tryz.ntmps66
    go_wp2
    go_loop [3, 11] (fun c i => (i = .int .i64 0 ∧ c = .int .u32 data.length) ∨ (i = .int .i64 1 ∧ c = .int .u32 data.length) ∨ (i = .int .i64 2 ∧ c = .int .u32 (data.length + 1))) (fun _ i => 2 - (intOf i).toNat)
    case atStart => exact Or.inl ⟨rfl, rfl⟩
    case round =>
      rcases hrel with ⟨rfl, rfl⟩ | ⟨rfl, rfl⟩ | ⟨rfl, rfl⟩
      · go_wp2
        go_round
        case rel => exact Or.inr (Or.inl ⟨rfl, rfl⟩)
        case measure => simp [intOf]
      · go_wp2
        go_round
        case rel => exact Or.inr (Or.inr ⟨rfl, by first | rfl | (rw [Int.add_assoc]; rfl)⟩)
        case measure => simp [intOf]
      · go_wp2
        go_ret
        exact ⟨ret_i F.out.symm, Keeps.alloc _ _ _⟩
  · have F := Lib.hid (show lenI ⟨sp, dp, sq, ak, fl, wn, ug, ops, data⟩ = (data.length + 1) by unfold lenI; simp only [h2, h1, bI]; simp)
    unfold has at h1 h2
    clear ok
    go_enter Tryz.func66, Tryz.ntmps66
    go_wp2
    go_loop [3, 11] (fun c i => (i = .int .i64 0 ∧ c = .int .u32 data.length) ∨ (i = .int .i64 1 ∧ c = .int .u32 (data.length + 1)) ∨ (i = .int .i64 2 ∧ c = .int .u32 (data.length + 1))) (fun _ i => 2 - (intOf i).toNat)
    case atStart => exact Or.inl ⟨rfl, rfl⟩
    case round =>
      rcases hrel with ⟨rfl, rfl⟩ | ⟨rfl, rfl⟩ | ⟨rfl, rfl⟩
      · go_wp2
        go_round
        case rel => exact Or.inr (Or.inl ⟨rfl, rfl⟩)
        case measure => simp [intOf]
      · go_wp2
        go_round
        case rel => exact Or.inr (Or.inr ⟨rfl, by first | rfl | (rw [Int.add_assoc]; rfl)⟩)
        case measure => simp [intOf]
      · go_wp2
        go_ret
        exact ⟨ret_i F.out.symm, Keeps.alloc _ _ _⟩
  · have F := Lib.hid (show lenI ⟨sp, dp, sq, ak, fl, wn, ug, ops, data⟩ = (data.length + 2) by unfold lenI; simp only [h2, h1, bI]; simp; omega)
    unfold has at h1 h2
    clear ok
    go_enter Tryz.func66, Tryz.ntmps66
    go_wp2
    go_loop [3, 11] (fun c i => (i = .int .i64 0 ∧ c = .int .u32 data.length) ∨ (i = .int .i64 1 ∧ c = .int .u32 (data.length + 1)) ∨ (i = .int .i64 2 ∧ c = .int .u32 (data.length + 2))) (fun _ i => 2 - (intOf i).toNat)
    case atStart => exact Or.inl ⟨rfl, rfl⟩
    case round =>
      rcases hrel with ⟨rfl, rfl⟩ | ⟨rfl, rfl⟩ | ⟨rfl, rfl⟩
      · go_wp2
        go_round
        case rel => exact Or.inr (Or.inl ⟨rfl, rfl⟩)
        case measure => simp [intOf]
      · go_wp2
        go_round
        case rel => exact Or.inr (Or.inr ⟨rfl, by first | rfl | (rw [Int.add_assoc]; rfl)⟩)
        case measure => simp [intOf]
      · go_wp2
        go_ret
        exact ⟨ret_i F.out.symm, Keeps.alloc _ _ _⟩
end Go.Proofs.YtakgohocimlagaaGreat
