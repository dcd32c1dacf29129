/-
  A sniffer that has room: what Take and Close make of it; the walk of Take there. Condition: the library's variables lie as listed.
-/
import Derived.Test.YtpoheemjdieogaaGreatDoorSnY
namespace Go.Proofs.YtpoheemjdieogaaGreatDoor
open Go.RowKit Go.Lib
set_option linter.unusedVariables false
set_option linter.unusedSimpArgs false

theorem LW.far {w w' : World} {S : List Nat} (h : LW w) (k : Keeps S w w') (hS : ∀ x ∈ S, w.heap.size ≤ x) : LW w' := h.keep0 (k.fresh fun x hx hl => by have := hS x hx; omega)
theorem Keeps.far {w w' : World} {S : List Nat} (k : Keeps S w w') (hS : ∀ x ∈ S, w.heap.size ≤ x) : Keeps [] w w' := k.fresh fun x hx hl => by have := hS x hx; omega
/-- what is told as long as there is room -/
def tellAt (b : List UInt8) : Int × ByteArray := if (look0 b).1 ≠ 0 then look0 b else (0, ByteArray.empty)
def stAt (b : List UInt8) : SS := ⟨b, 16384, false, (tellAt b).1, (tellAt b).2⟩
theorem look_tell {b : List UInt8} {most : Nat} (h : b.length < most) : lookS b most false = tellAt b := by
  unfold lookS tellAt
  by_cases h0 : (look0 b).1 ≠ 0
  · rw [if_pos h0, if_pos h0]
  · rw [if_neg h0, if_neg h0, if_neg (by omega)]
    rfl
theorem tellAt_zero {b : List UInt8} (h : (tellAt b).1 = 0) : (look0 b).1 = 0 := by
  unfold tellAt at h
  by_cases h0 : (look0 b).1 ≠ 0
  · rw [if_pos h0] at h; exact h
  · exact Classical.not_not.1 h0
theorem tellAt_stays {b x : List UInt8} (h : (tellAt b).1 ≠ 0) : tellAt (b ++ x) = tellAt b := by
  have h0 : (look0 b).1 ≠ 0 := by
    unfold tellAt at h
    by_cases h0 : (look0 b).1 ≠ 0
    · exact h0
    · rw [if_neg h0] at h; exact absurd rfl h
  unfold tellAt
  rw [look0_stays b x h0]
theorem tellS_zero {s : SS} (h : s.told = 0) : tellS s = { s with told := (lookS s.b s.most s.closed).1, name := (lookS s.b s.most s.closed).2 } := if_pos h
theorem tellS_ne {s : SS} (h : s.told ≠ 0) : tellS s = s := if_neg h
/-- more bytes at a sniffer that has room -/
theorem step_at {b x : List UInt8} (h : (b ++ x).length < 16384) : takeS (stAt b) x = (0, { stAt b with b := b ++ x }) ∧ tellS { stAt b with b := b ++ x } = stAt (b ++ x) := by
  have hl : b.length + x.length < 16384 := by rw [List.length_append] at h; exact h
  constructor
  · unfold takeS stAt
    dsimp only
    rw [if_neg (by simp), if_neg (by omega)]
  · by_cases h0 : (tellAt b).1 = 0
    · rw [tellS_zero (show ({ stAt b with b := b ++ x } : SS).told = 0 from h0)]
      show SS.mk (b ++ x) 16384 false (lookS (b ++ x) ((16384 : Nat) : Int) false).1 (lookS (b ++ x) ((16384 : Nat) : Int) false).2 = _
      rw [look_tell h]
      rfl
    · rw [tellS_ne (show ({ stAt b with b := b ++ x } : SS).told ≠ 0 from h0)]
      show SS.mk (b ++ x) 16384 false (tellAt b).1 (tellAt b).2 = _
      unfold stAt
      rw [tellAt_stays h0]
theorem SOk.at {b : List UInt8} (h : b.length < 16384) : SOk (stAt b) := ⟨by simp [stAt], by simp [stAt], by simp only [stAt]; omega⟩
theorem stAt_nil : stAt [] = ⟨[], 16384, false, 0, ByteArray.empty⟩ := rfl
theorem ans_at {b x : List UInt8} (h : (b ++ x).length < 16384) : ansS (takeS (stAt b) x) = (((stAt (b ++ x)).told, (stAt (b ++ x)).name, 0), stAt (b ++ x)) := by
  rw [(step_at h).1]
  unfold ansS
  rw [if_neg (by simp), (step_at h).2]
/-- Take at a sniffer that has room -/
theorem take_at (w : World) (B p : Nat) (b : List UInt8) (hw : ∀ x, Keeps [p] w x → LW x) (hs : SnAt w B p (stAt b)) (A : Option Addr) (n c : Nat) (x : List UInt8) (hx : BytesV w (.slice A n c) x) (h : (b ++ x).length < 16384) :
    Calls Tryz.prog 13 #[.pointer (some ⟨p, 0, none⟩), .slice A n c] w fun e w' => e = .returned (.tuple #[.int .i64 (tellAt (b ++ x)).1, .string (tellAt (b ++ x)).2, .int .i64 0]) ∧ SnAt w' B p (stAt (b ++ x)) ∧ Keeps [p] w w' := by
  have hl : b.length + x.length < 16384 := by rw [List.length_append] at h; exact h
  refine (stake_any w B p (stAt b) hw hs (SOk.at (by omega)) A n c x hx (by have := hx.form.1; omega)).mono ?_
  rintro e w' ⟨rfl, -, h2⟩
  have h3 := h2 (by rw [(step_at h).1])
  rw [(step_at h).1, (step_at h).2] at h3
  refine ⟨by rw [ans_at h]; rfl, h3.1.weak hs.2.1 hs.1, h3.2⟩
def clAt (b : List UInt8) : SS := tellS { stAt b with closed := true }
theorem SOk.cl {b : List UInt8} (h : b.length < 16384) : SOk (clAt b) := SOk.tell (SOk.close (SOk.at h))
theorem clAt_b (b : List UInt8) : (clAt b).b = b := by unfold clAt tellS; split <;> rfl
theorem clAt_most (b : List UInt8) : (clAt b).most = 16384 := by unfold clAt tellS; split <;> rfl
end Go.Proofs.YtpoheemjdieogaaGreatDoor
