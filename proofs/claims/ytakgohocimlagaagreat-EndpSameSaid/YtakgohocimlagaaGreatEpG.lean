/-
  The walks of package endp (6): may, Accept. Condition: a setup that may be; the facts tell no SACK.
-/
import Derived.Test.YtakgohocimlagaaGreatEpF
import Derived.Test.YtakgohocimlagaaGreatReasmV
namespace Go.Proofs.YtakgohocimlagaaGreat
open Go.RowKit
set_option linter.unusedVariables false
set_option linter.unusedSimpArgs false

theorem two_allocs (w : World) (o1 o2 : Obj) : ((w.alloc o1).alloc o2).heap[w.heap.size]? = some o1 ∧ ((w.alloc o1).alloc o2).heap[w.heap.size + 1]? = some o2 := by
  have h := (MapKept.heap_alloc (w.alloc o1) o2).1
  have e : (w.alloc o1).heap.size = w.heap.size + 1 := by simp
  rw [e] at h
  exact ⟨(Below.heap_alloc (w.alloc o1) o2 w.heap.size (by simp)).trans (MapKept.heap_alloc w o1).1, h⟩
/-- a setup's value -/
def setupV (loc rem iss mss scl : Int) (sack : Bool) (room rto tries : Int) : Value := .agg #[.int .u16 loc, .int .u16 rem, .int .u32 iss, .int .u16 mss, .int .i64 scl, .bool sack, .int .i64 room, .int .u64 rto, .int .i64 tries]
def factsV (iss irs mss scl : Int) (sack : Bool) (win : Int) : Value := .agg #[.int .u32 iss, .int .u32 irs, .int .u16 mss, .int .i64 scl, .bool sack, .int .u32 win]

set_option maxRecDepth 100000 in
set_option maxHeartbeats 2000000 in
theorem emay_ok (w : World) (loc rem iss mss scl : Int) (sack : Bool) (room rto tries : Int) (h1 : 88 ≤ mss) (h2 : mss ≤ 1460) (h3 : -1 ≤ scl) (h4 : scl ≤ 14) (h5 : 0 ≤ room) (h6 : room ≤ 16384) (h7 : 1 ≤ rto) (h8 : rto ≤ 1073741824) (h9 : 1 ≤ tries) (h10 : tries ≤ 10) :
    Calls Tryz.prog 28 #[setupV loc rem iss mss scl sack room rto tries] w fun e w' => e = .returned (.bool true) ∧ Keeps [] w w' := by
  have d1 : decide (88 ≤ mss) = true := decide_eq_true h1
  have d2 : decide (mss ≤ 1460) = true := decide_eq_true h2
  have d3 : decide (-1 ≤ scl) = true := decide_eq_true h3
  have d4 : decide (scl ≤ 14) = true := decide_eq_true h4
  have d5 : decide (0 ≤ room) = true := decide_eq_true h5
  have d6 : decide (room ≤ 16384) = true := decide_eq_true h6
  have d7 : decide (1 ≤ rto) = true := decide_eq_true h7
  have d8 : decide (rto ≤ 1073741824) = true := decide_eq_true h8
  have d9 : decide (1 ≤ tries) = true := decide_eq_true h9
  have d10 : decide (tries ≤ 10) = true := decide_eq_true h10
  unfold setupV
  go_enter Tryz.func28, Tryz.ntmps28
  go_wp2_with fail
  go_ret
  exact ⟨rfl, Keeps.alloc _ _ _⟩

/-- the end that Accept makes -/
def acceptS (loc rem iss mss scl : Int) (sack : Bool) (room rto tries : Int) (irs fmss fscl fwin : Int) (b : Nat) : ES :=
  ⟨loc, rem, iss, mss, scl, sack, room, rto, tries, iss, irs, fmss, fscl, false, fwin, 2, .pointer (some ⟨b, 0, none⟩), .slice none 0 0, false, .pointer none, .slice none 0 0, 0, 0, 0⟩
set_option maxRecDepth 100000 in
set_option maxHeartbeats 4000000 in
theorem eaccept_ok (w : World) (loc rem iss mss scl : Int) (sack : Bool) (room rto tries : Int) (l0 : 0 ≤ loc ∧ loc ≤ 65535) (l1 : 0 ≤ rem ∧ rem ≤ 65535) (hu : U32 iss) (h1 : 88 ≤ mss) (h2 : mss ≤ 1460) (h3 : 0 ≤ scl) (h4 : scl ≤ 14) (h5 : 0 ≤ room) (h6 : room ≤ 16384) (h7 : 1 ≤ rto) (h8 : rto ≤ 1073741824) (h9 : 1 ≤ tries) (h10 : tries ≤ 10)
    (fiss irs fmss fscl fwin : Int) (hi : U32 irs) (f1 : -1 ≤ fscl) (f2 : fscl ≤ 14) :
    Calls Tryz.prog 8 #[setupV loc rem iss mss scl sack room rto tries, factsV fiss irs fmss fscl false fwin] w fun e w' => ∃ x b mb, e = .returned (.tuple #[.pointer (some ⟨x, 0, none⟩), .int .i64 0]) ∧
      Cli w' w.heap.size x b mb (acceptS loc rem iss mss scl sack room rto tries irs fmss fscl fwin b) ⟨(irs + 1) % 4294967296, 0, room, []⟩ [] ∧ Keeps [] w w' := by
  have HM := Lib.hid (fun W => emay_ok W loc rem iss mss scl sack room rto tries h1 h2 (by omega) h4 h5 h6 h7 h8 h9 h10)
  have d1 : decide (fscl < -1) = false := decide_eq_false (by omega)
  have d2 : decide (14 < fscl) = false := decide_eq_false (by omega)
  have d3 : decide (scl < 0) = false := decide_eq_false (by omega)
  have hw : IntKind.u32.wrap (irs + 1) = (irs + 1) % 4294967296 := IntKind.wrap_u32 _
  unfold setupV at HM ⊢
  unfold factsV
  go_enter Tryz.func8, Tryz.ntmps8
  go_wp2_with fail
  refine (HM.out _).mono ?_
  rintro e w1 ⟨rfl, k1⟩
  have hS := (k1.block w.heap.size (by simp; omega) (by simp)).trans (two_allocs w _ _).1
  have hF := (k1.block (w.heap.size + 1) (by simp) (by simp)).trans (two_allocs w _ _).2
  have k0 : Keeps [] w w1 := ((Keeps.alloc [] w _).trans (Keeps.alloc [] _ _)).trans k1
  have K1 := Lib.hid k0
  have HS := Lib.hid hS
  have HF := Lib.hid hF
  clear k1 k0 HM
  have hSc0 := cell_of_block hS 0
  have hSc1 := cell_of_block hS 1
  have hSc2 := cell_of_block hS 2
  have hSc3 := cell_of_block hS 3
  have hSc4 := cell_of_block hS 4
  have hSc5 := cell_of_block hS 5
  have hSc6 := cell_of_block hS 6
  have hSc7 := cell_of_block hS 7
  have hSc8 := cell_of_block hS 8
  simp at hSc0 hSc1 hSc2 hSc3 hSc4 hSc5 hSc6 hSc7 hSc8
  have hSf0 := free_of_block hS 0
  have hSf1 := free_of_block hS 1
  have hSf2 := free_of_block hS 2
  have hSf3 := free_of_block hS 3
  have hSf4 := free_of_block hS 4
  have hSf5 := free_of_block hS 5
  have hSf6 := free_of_block hS 6
  have hSf7 := free_of_block hS 7
  have hSf8 := free_of_block hS 8
  have hFc0 := cell_of_block hF 0
  have hFc1 := cell_of_block hF 1
  have hFc2 := cell_of_block hF 2
  have hFc3 := cell_of_block hF 3
  have hFc4 := cell_of_block hF 4
  have hFc5 := cell_of_block hF 5
  simp at hFc0 hFc1 hFc2 hFc3 hFc4 hFc5
  have hFf0 := free_of_block hF 0
  have hFf1 := free_of_block hF 1
  have hFf2 := free_of_block hF 2
  have hFf3 := free_of_block hF 3
  have hFf4 := free_of_block hF 4
  have hFf5 := free_of_block hF 5
  clear hS hF
  go_upto_region 3 with fail
  go_region
  go_upto_region 4 with fail
  refine wp_gn (fun W3 hW3 => ?_)
  have hF3 : W3.heap[w.heap.size + 1]? = some (.cells #[.int .u32 iss, .int .u32 irs, .int .u16 fmss, .int .i64 fscl, .bool false, .int .u32 fwin] 34 (0, 0)) := by rw [hW3]; exact heap_setCell_self (heap_setCell_self HF.out 0 _) 4 _
  have k3 : Keeps [w.heap.size + 1] w1 W3 := by rw [hW3]; exact (((Keeps.refl _ _).setCell' (Or.inr (by simp)) _).setCell' (Or.inr (by simp)) _).drew'
  have hS3 := (k3.block w.heap.size (lt_of_block HS.out) (by simp)).trans HS.out
  have K3 := Lib.hid (((K1.out.mono (T := [w.heap.size + 1]) (by simp)).trans k3).fresh (T := []) (by intro x hx hlt; simp at hx; omega))
  have HS3 := Lib.hid hS3
  have HF3 := Lib.hid hF3
  clear hW3 k3 hSc0 hSc1 hSc2 hSc3 hSc4 hSc5 hSc6 hSc7 hSc8 hSf0 hSf1 hSf2 hSf3 hSf4 hSf5 hSf6 hSf7 hSf8 hFc0 hFc1 hFc2 hFc3 hFc4 hFc5 hFf0 hFf1 hFf2 hFf3 hFf4 hFf5
  have hS3c0 := cell_of_block hS3 0
  have hS3c1 := cell_of_block hS3 1
  have hS3c2 := cell_of_block hS3 2
  have hS3c3 := cell_of_block hS3 3
  have hS3c4 := cell_of_block hS3 4
  have hS3c5 := cell_of_block hS3 5
  have hS3c6 := cell_of_block hS3 6
  have hS3c7 := cell_of_block hS3 7
  have hS3c8 := cell_of_block hS3 8
  simp at hS3c0 hS3c1 hS3c2 hS3c3 hS3c4 hS3c5 hS3c6 hS3c7 hS3c8
  have hF3c0 := cell_of_block hF3 0
  have hF3c1 := cell_of_block hF3 1
  have hF3c2 := cell_of_block hF3 2
  have hF3c3 := cell_of_block hF3 3
  have hF3c4 := cell_of_block hF3 4
  have hF3c5 := cell_of_block hF3 5
  simp at hF3c0 hF3c1 hF3c2 hF3c3 hF3c4 hF3c5
  clear hS3 hF3
  go_wp2_with fail
  refine (bnew_ok W3 ((irs + 1) % 4294967296) room h5 h6).mono ?_
  rintro e w4 ⟨b, mb, rfl, hb, k4, hbs, hms⟩
  have hS4 := (k4.block w.heap.size (lt_of_block HS3.out) (by simp)).trans HS3.out
  have hF4 := (k4.block (w.heap.size + 1) (lt_of_block HF3.out) (by simp)).trans HF3.out
  have HB := Lib.hid hb
  have K4 := Lib.hid (K3.out.trans k4)
  have hz3 := K3.out.size
  have hz4 := K4.out.size
  have hne := hb.ne
  have hlb := lt_of_block hb.head
  have hlm := hb.map.lt
  clear k4 hb hS3c0 hS3c1 hS3c2 hS3c3 hS3c4 hS3c5 hS3c6 hS3c7 hS3c8 hF3c0 hF3c1 hF3c2 hF3c3 hF3c4 hF3c5
  have hS4c0 := cell_of_block hS4 0
  have hS4c1 := cell_of_block hS4 1
  have hS4c2 := cell_of_block hS4 2
  have hS4c3 := cell_of_block hS4 3
  have hS4c4 := cell_of_block hS4 4
  have hS4c5 := cell_of_block hS4 5
  have hS4c6 := cell_of_block hS4 6
  have hS4c7 := cell_of_block hS4 7
  have hS4c8 := cell_of_block hS4 8
  simp at hS4c0 hS4c1 hS4c2 hS4c3 hS4c4 hS4c5 hS4c6 hS4c7 hS4c8
  have hF4c0 := cell_of_block hF4 0
  have hF4c1 := cell_of_block hF4 1
  have hF4c2 := cell_of_block hF4 2
  have hF4c3 := cell_of_block hF4 3
  have hF4c4 := cell_of_block hF4 4
  have hF4c5 := cell_of_block hF4 5
  simp at hF4c0 hF4c1 hF4c2 hF4c3 hF4c4 hF4c5
  clear hS4 hF4
  go_wp2_with fail
  go_ret2
  refine ⟨w4.heap.size, b, mb, rfl, ⟨(MapKept.heap_alloc w4 _).1, ?_, by simp [acceptS], rfl, rfl, rfl, HB.out.keep (Keeps.alloc [] w4 _) (by simp) (by simp), ?_, World.ownsRow_nil _ _ _ _, fun j hj => by simp [acceptS, Value.ownBlock] at hj, by omega, by omega, hz4, by omega, by omega, rfl⟩, K4.out.alloc' _⟩
  · exact ⟨l0, l1, hu, fun _ => h3, h4, ⟨f1, f2⟩, hi⟩
  · exact ⟨⟨by show 0 ≤ (irs + 1) % 4294967296; omega, by show (irs + 1) % 4294967296 ≤ 4294967295; omega⟩, Int.le_refl _, h5, h6, by simp [AL.keys], by simp [AL.keys]⟩
end Go.Proofs.YtakgohocimlagaaGreat
