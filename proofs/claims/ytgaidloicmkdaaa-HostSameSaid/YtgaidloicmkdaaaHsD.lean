/-
  The walks of package host: culvertref30.Same of two rows of at most one ACK, which are the same. No condition but that they lie in memory.
-/
import Derived.Test.YtgaidloicmkdaaaHsB
namespace Go.Proofs.Ytgaidloicmkdaaa
open Go.RowKit
set_option linter.unusedVariables false
set_option linter.unusedSimpArgs false

set_option maxRecDepth 100000 in
set_option maxHeartbeats 400000 in
theorem r5same_nil (w : World) : Calls Try.prog 81 #[.slice none 0 0, .slice none 0 0] w fun e w' => e = .returned (.bool true) ∧ Keeps [] w w' := by
  go_enter Try.func81, Try.ntmps81
  go_wp2_with fail
  go_loopw [5] (fun iv wx => iv = .int .i64 0 ∧ wx = w) (fun _ _ => 0)
  case atStart => exact ⟨rfl, rfl⟩
  case round =>
    obtain ⟨rfl, rfl⟩ := hrel
    go_wp2_with fail
    go_ret
    exact ⟨rfl, Keeps.refl _ _⟩
set_option maxRecDepth 100000 in
set_option maxHeartbeats 1000000 in
theorem r6same_bare (w : World) (a b c d e f g : Int) :
    Calls Try.prog 65 #[.agg #[.int .u16 a, .int .u16 b, .int .u32 c, .int .u32 d, .int .u8 e, .int .u16 f, .int .u16 g, .slice none 0 0, .slice none 0 0], .agg #[.int .u16 a, .int .u16 b, .int .u32 c, .int .u32 d, .int .u8 e, .int .u16 f, .int .u16 g, .slice none 0 0, .slice none 0 0]] w fun e w' => e = .returned (.bool true) ∧ Keeps [] w w' := by
  have hcv : ∀ W : World, (convert 28 9 (.slice none 0 0)).run Try.prog W = .ok (.string ⟨#[]⟩) W := fun W => (BytesV.nil W).str0 (P := Try.prog) 28 9 5 Try.underlying28 Try.underlying5 Try.underlying9
  go_enter Try.func65, Try.ntmps65
  go_upto_region 1 with fail
  refine wp_gn (fun W1 hW1 => ?_)
  have k1 : Keeps [] w W1 := by rw [hW1]; exact (Keeps.alloc _ _ _).alloc' _
  have b2 : W1.heap[w.heap.size]? = some (.cells #[.int .u16 a, .int .u16 b, .int .u32 c, .int .u32 d, .int .u8 e, .int .u16 f, .int .u16 g, .slice none 0 0, .slice none 0 0] 30 (0, 0)) := by
    rw [hW1]
    have h := (MapKept.heap_alloc w (.cells #[.int .u16 a, .int .u16 b, .int .u32 c, .int .u32 d, .int .u8 e, .int .u16 f, .int .u16 g, .slice none 0 0, .slice none 0 0] 30 (0, 0))).1
    exact ((Keeps.alloc [] _ _).block _ (lt_of_block h) (List.not_mem_nil)).trans h
  have b3 : W1.heap[w.heap.size + 1]? = some (.cells #[.int .u16 a, .int .u16 b, .int .u32 c, .int .u32 d, .int .u8 e, .int .u16 f, .int .u16 g, .slice none 0 0, .slice none 0 0] 30 (0, 0)) := by
    rw [hW1]
    have h := (MapKept.heap_alloc (w.alloc (.cells #[.int .u16 a, .int .u16 b, .int .u32 c, .int .u32 d, .int .u8 e, .int .u16 f, .int .u16 g, .slice none 0 0, .slice none 0 0] 30 (0, 0))) (.cells #[.int .u16 a, .int .u16 b, .int .u32 c, .int .u32 d, .int .u8 e, .int .u16 f, .int .u16 g, .slice none 0 0, .slice none 0 0] 30 (0, 0))).1
    rwa [show (w.alloc (.cells #[.int .u16 a, .int .u16 b, .int .u32 c, .int .u32 d, .int .u8 e, .int .u16 f, .int .u16 g, .slice none 0 0, .slice none 0 0] 30 (0, 0))).heap.size = w.heap.size + 1 by simp] at h
  have K1 := Lib.hid k1
  have b2c0 := cell_of_block b2 0
  have b2c1 := cell_of_block b2 1
  have b2c2 := cell_of_block b2 2
  have b2c3 := cell_of_block b2 3
  have b2c4 := cell_of_block b2 4
  have b2c5 := cell_of_block b2 5
  have b2c6 := cell_of_block b2 6
  have b2c7 := cell_of_block b2 7
  have b2c8 := cell_of_block b2 8
  simp at b2c0 b2c1 b2c2 b2c3 b2c4 b2c5 b2c6 b2c7 b2c8
  have b3c0 := cell_of_block b3 0
  have b3c1 := cell_of_block b3 1
  have b3c2 := cell_of_block b3 2
  have b3c3 := cell_of_block b3 3
  have b3c4 := cell_of_block b3 4
  have b3c5 := cell_of_block b3 5
  have b3c6 := cell_of_block b3 6
  have b3c7 := cell_of_block b3 7
  have b3c8 := cell_of_block b3 8
  simp at b3c0 b3c1 b3c2 b3c3 b3c4 b3c5 b3c6 b3c7 b3c8
  clear hW1 k1 b2 b3
  go_wp2_with fail
  refine (r5same_nil _).mono ?_
  rintro e w1 ⟨rfl, k2⟩
  have q2 := cell_keeps k2 b2c8 (by simp)
  have q3 := cell_keeps k2 b3c8 (by simp)
  have K2 := Lib.hid (K1.out.trans k2)
  clear k2 b2c0 b2c1 b2c2 b2c3 b2c4 b2c5 b2c6 b2c7 b2c8 b3c0 b3c1 b3c2 b3c3 b3c4 b3c5 b3c6 b3c7 b3c8
  go_wp2_with fail
  go_ret
  exact ⟨rfl, K2.out⟩
/-- nil, or one ACK -/
def ToldH (w : World) (v : Value) (is : Bool) (g : Seg) : Prop := (is = false ∧ v = .slice none 0 0) ∨ (is = true ∧ OneSeg w v g (.slice none 0 0) (.slice none 0 0))
theorem ToldH.keep0 {w w' : World} {v : Value} {is : Bool} {g : Seg} (h : ToldH w v is g) (k : Keeps [] w w') : ToldH w' v is g := by
  rcases h with h | ⟨h1, h2⟩
  · exact .inl h
  · exact .inr ⟨h1, h2.keep0 k⟩
theorem ToldH.keep {w w' : World} {v : Value} {is : Bool} {g : Seg} {b : Nat} (h : ToldH w v is g) (k : Keeps [b] w w') (hb : NoU8 w b) (hne : ∀ A n c, v = .slice (some A) n c → A.block ≠ b) : ToldH w' v is g := by
  rcases h with h | ⟨h1, r, c, e, h2, h3, h4, h5⟩
  · exact .inl h
  · exact .inr ⟨h1, r, c, e, h2, h3, fun i u hu => cell_keeps k (h4 i u hu) (by have := hne _ _ _ e; simpa using this), h5.keep k hb⟩
theorem ToldH.slice {w : World} {v : Value} {is : Bool} {g : Seg} (h : ToldH w v is g) : ∃ A n c, v = .slice A n c := by
  rcases h with ⟨_, rfl⟩ | ⟨_, r, c, rfl, _⟩
  · exact ⟨_, _, _, rfl⟩
  · exact ⟨_, _, _, rfl⟩
set_option maxRecDepth 100000 in
set_option maxHeartbeats 1000000 in
/-- of two rows of at most one ACK, which is the same: they are the same -/
theorem r30same_told (w : World) {v1 v2 : Value} {is : Bool} {g : Seg} (h1 : ToldH w v1 is g) (h2 : ToldH w v2 is g) :
    Calls Try.prog 38 #[v1, v2] w fun e w' => e = .returned (.bool true) ∧ Keeps [] w w' := by
  rcases h1 with ⟨hi, rfl⟩ | ⟨hi, r1, m1, rfl, hm1, _, hc1, _⟩ <;> rcases h2 with ⟨hj, rfl⟩ | ⟨hj, r2, m2, rfl, hm2, _, hc2, _⟩
  · go_enter Try.func38, Try.ntmps38
    go_wp2_with fail
    go_loopw [5] (fun iv wx => iv = .int .i64 0 ∧ wx = w) (fun _ _ => 0)
    case atStart => exact ⟨rfl, rfl⟩
    case round =>
      obtain ⟨rfl, rfl⟩ := hrel
      go_wp2_with fail
      go_ret
      exact ⟨rfl, Keeps.refl _ _⟩
  · rw [hi] at hj; cases hj
  · rw [hi] at hj; cases hj
  · clear hi hj
    have HR1 := Lib.hid hc1
    have HR2 := Lib.hid hc2
    clear hc1 hc2
    go_enter Try.func38, Try.ntmps38
    go_wp2_with fail
    go_loopw [5] (fun iv wx => ∃ j : Nat, iv = .int .i64 j ∧ j ≤ 1 ∧ Hid (Keeps [] w wx)) (fun iv _ => 1 - (intOf iv).toNat)
    case atStart => exact ⟨0, rfl, by omega, Lib.hid (Keeps.refl [] w)⟩
    case round =>
      obtain ⟨j, rfl, hj, hk⟩ := hrel
      by_cases hj0 : j = 0
      · subst hj0
        have p0 := cell_keeps hk.out (HR1.out 0 _ rfl) (by simp)
        have p1 := cell_keeps hk.out (HR1.out 1 _ rfl) (by simp)
        have p2 := cell_keeps hk.out (HR1.out 2 _ rfl) (by simp)
        have p3 := cell_keeps hk.out (HR1.out 3 _ rfl) (by simp)
        have p4 := cell_keeps hk.out (HR1.out 4 _ rfl) (by simp)
        have p5 := cell_keeps hk.out (HR1.out 5 _ rfl) (by simp)
        have p6 := cell_keeps hk.out (HR1.out 6 _ rfl) (by simp)
        have p7 := cell_keeps hk.out (HR1.out 7 _ rfl) (by simp)
        have p8 := cell_keeps hk.out (HR1.out 8 _ rfl) (by simp)
        have q0 := cell_keeps hk.out (HR2.out 0 _ rfl) (by simp)
        have q1 := cell_keeps hk.out (HR2.out 1 _ rfl) (by simp)
        have q2 := cell_keeps hk.out (HR2.out 2 _ rfl) (by simp)
        have q3 := cell_keeps hk.out (HR2.out 3 _ rfl) (by simp)
        have q4 := cell_keeps hk.out (HR2.out 4 _ rfl) (by simp)
        have q5 := cell_keeps hk.out (HR2.out 5 _ rfl) (by simp)
        have q6 := cell_keeps hk.out (HR2.out 6 _ rfl) (by simp)
        have q7 := cell_keeps hk.out (HR2.out 7 _ rfl) (by simp)
        have q8 := cell_keeps hk.out (HR2.out 8 _ rfl) (by simp)
        unfold segC at *
        go_upto_region 6 with fail
        go_region_held3 (fun w' => w'.cell? ⟨r1, 0, none⟩ = some (.int .u16 g.sp) ∧ w'.cell? ⟨r1, 1, none⟩ = some (.int .u16 g.dp) ∧ w'.cell? ⟨r1, 2, none⟩ = some (.int .u32 g.sq) ∧ w'.cell? ⟨r1, 3, none⟩ = some (.int .u32 g.ak) ∧ w'.cell? ⟨r1, 4, none⟩ = some (.int .u8 g.fl) ∧ w'.cell? ⟨r1, 5, none⟩ = some (.int .u16 g.wn) ∧ w'.cell? ⟨r1, 6, none⟩ = some (.int .u16 g.ug) ∧ w'.cell? ⟨r1, 7, none⟩ = some (.slice none 0 0) ∧ w'.cell? ⟨r1, 8, none⟩ = some (.slice none 0 0) ∧ w'.cell? ⟨r2, 0, none⟩ = some (.int .u16 g.sp) ∧ w'.cell? ⟨r2, 1, none⟩ = some (.int .u16 g.dp) ∧ w'.cell? ⟨r2, 2, none⟩ = some (.int .u32 g.sq) ∧ w'.cell? ⟨r2, 3, none⟩ = some (.int .u32 g.ak) ∧ w'.cell? ⟨r2, 4, none⟩ = some (.int .u8 g.fl) ∧ w'.cell? ⟨r2, 5, none⟩ = some (.int .u16 g.wn) ∧ w'.cell? ⟨r2, 6, none⟩ = some (.int .u16 g.ug) ∧ w'.cell? ⟨r2, 7, none⟩ = some (.slice none 0 0) ∧ w'.cell? ⟨r2, 8, none⟩ = some (.slice none 0 0)) ((refine (fun kx => ⟨cell_keeps kx p0 (by simp), cell_keeps kx p1 (by simp), cell_keeps kx p2 (by simp), cell_keeps kx p3 (by simp), cell_keeps kx p4 (by simp), cell_keeps kx p5 (by simp), cell_keeps kx p6 (by simp), cell_keeps kx p7 (by simp), cell_keeps kx p8 (by simp), cell_keeps kx q0 (by simp), cell_keeps kx q1 (by simp), cell_keeps kx q2 (by simp), cell_keeps kx q3 (by simp), cell_keeps kx q4 (by simp), cell_keeps kx q5 (by simp), cell_keeps kx q6 (by simp), cell_keeps kx q7 (by simp), cell_keeps kx q8 (by simp)⟩ : Keeps [] wr _ → _) ?_; (repeat (first | with_reducible assumption | with_reducible exact Keeps.refl _ _ | with_reducible apply Keeps.alloc' | with_reducible apply Keeps.drew' | with_reducible apply Keeps.drewN' | (with_reducible apply Keeps.setCell'; rotate_left; · simp))))) (first | (go_at_call 65; (with_reducible refine (r6same_bare _ _ _ _ _ _ _ _).mono ?_); rintro e w2 ⟨rfl, k2⟩; have kz : Keeps [] wr w2 := Keeps.trans (by (repeat (first | with_reducible assumption | with_reducible exact Keeps.refl _ _ | with_reducible apply Keeps.alloc' | with_reducible apply Keeps.drew' | with_reducible apply Keeps.drewN' | (with_reducible apply Keeps.setCell'; rotate_left; · simp)))) k2; have K2 := Lib.hid (hk.out.trans kz); clear k2) | fail)
        go_wp2_with fail
        exact ⟨⟨1, rfl, Nat.le_refl 1, K2⟩, Nat.zero_lt_one⟩
      · obtain rfl : j = 1 := by omega
        go_wp2_with fail
        go_ret
        exact ⟨rfl, hk.out⟩
set_option maxRecDepth 100000 in
/-- the law's own same -/
theorem hsame_told (w : World) {v1 v2 : Value} {is : Bool} {g : Seg} (h1 : ToldH w v1 is g) (h2 : ToldH w v2 is g) :
    Calls Try.prog 16 #[v1, v2] w fun e w' => e = .returned (.bool true) ∧ Keeps [] w w' := by
  have H := Lib.hid (fun (W : World) (k : Keeps [] w W) => r30same_told W (h1.keep0 k) (h2.keep0 k))
  clear h1 h2
  go_enter Try.func16, Try.ntmps16
  go_wp2_with fail
  refine (H.out _ (Keeps.refl _ _)).mono ?_
  rintro e w1 ⟨rfl, k⟩
  have K := Lib.hid k
  clear k
  go_wp2_with fail
  go_ret
  exact ⟨rfl, K.out⟩
end Go.Proofs.Ytgaidloicmkdaaa
