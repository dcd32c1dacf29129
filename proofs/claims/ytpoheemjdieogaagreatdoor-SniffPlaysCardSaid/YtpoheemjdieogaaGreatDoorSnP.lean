/-
  The plain law of package sniff: what is told of bytes; a sniffer as a plain state; what is told stays. No condition.
-/
import Derived.Test.YtpoheemjdieogaaGreatDoorHttpC
import Derived.Test.YtpoheemjdieogaaGreatDoorTlsP
namespace Go.Proofs.YtpoheemjdieogaaGreatDoor
open Go.RowKit Go.Lib
set_option linter.unusedVariables false
set_option linter.unusedSimpArgs false

/-- what bytes tell as they stand -/
def look0 : List UInt8 → Int × ByteArray
  | [] => (0, ByteArray.empty)
  | c :: t => if c = 22 then lookP (c :: t) else ((lookH (c :: t)).1, ⟨(lookH (c :: t)).2.toArray⟩)
/-- what is told of bytes, of at most so many; closed: nothing comes behind -/
def lookS (b : List UInt8) (most : Int) (closed : Bool) : Int × ByteArray :=
  if (look0 b).1 ≠ 0 then look0 b else if most ≤ (b.length : Int) then (3, ByteArray.empty) else if closed = true then (2, ByteArray.empty) else (0, ByteArray.empty)
theorem look0_stays (b x : List UInt8) (h : (look0 b).1 ≠ 0) : look0 (b ++ x) = look0 b := by
  cases b with
  | nil => exact absurd rfl h
  | cons c t =>
    rw [List.cons_append]
    unfold look0 at h ⊢
    by_cases hc : c = 22
    · simp only [hc, if_true] at h ⊢
      exact lookP_stays (22 :: t) x h
    · simp only [hc, if_false] at h ⊢
      have := lookH_stays (c :: t) x h
      rw [List.cons_append] at this
      rw [this]
structure SS where
  b : List UInt8
  most : Nat
  closed : Bool
  told : Int
  name : ByteArray
def takeS (s : SS) (x : List UInt8) : Int × SS := if s.closed = true then (24, s) else if s.most - s.b.length < x.length then (3, s) else (0, { s with b := s.b ++ x })
def tellS (s : SS) : SS := if s.told = 0 then { s with told := (lookS s.b s.most s.closed).1, name := (lookS s.b s.most s.closed).2 } else s
def ansS (x : Int × SS) : (Int × ByteArray × Int) × SS := if x.1 ≠ 0 then ((0, ByteArray.empty, x.1), x.2) else (((tellS x.2).told, (tellS x.2).name, 0), tellS x.2)
structure SOk (s : SS) : Prop where
  one : 1 ≤ s.most
  most : s.most ≤ 16384
  room : s.b.length ≤ s.most
theorem SOk.new {n : Nat} (h1 : 1 ≤ n) (h2 : n ≤ 16384) : SOk ⟨[], n, false, 0, ByteArray.empty⟩ := ⟨h1, h2, by simp⟩
theorem SOk.tell {s : SS} (h : SOk s) : SOk (tellS s) := by
  unfold tellS; split
  · exact ⟨h.one, h.most, h.room⟩
  · exact h
theorem SOk.take {s : SS} (h : SOk s) (x : List UInt8) : SOk (takeS s x).2 := by
  unfold takeS
  by_cases h1 : s.closed = true
  · rw [if_pos h1]; exact h
  · rw [if_neg h1]
    by_cases h2 : s.most - s.b.length < x.length
    · rw [if_pos h2]; exact h
    · rw [if_neg h2]
      exact ⟨h.one, h.most, by have := h.room; simp only [List.length_append]; omega⟩
theorem SOk.ans {x : Int × SS} (h : SOk x.2) : SOk (ansS x).2 := by
  unfold ansS; split
  · exact h
  · exact h.tell
theorem SOk.close {s : SS} (h : SOk s) : SOk { s with closed := true } := ⟨h.one, h.most, h.room⟩
end Go.Proofs.YtpoheemjdieogaaGreatDoor
