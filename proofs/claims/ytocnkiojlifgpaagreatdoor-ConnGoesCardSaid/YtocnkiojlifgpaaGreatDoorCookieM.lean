/-
  The walks of package cookie: making a cookie, and the reference's. Condition: numbers are in the ranges of their kinds.
-/
import Derived.Test.YtocnkiojlifgpaaGreatDoorCookieH
namespace Go.Proofs.YtocnkiojlifgpaaGreatDoor
open Go.RowKit

structure Inf where
  (cl : Int)
  (sk : Bool)
  (sc : Int)
def Inf.Ok (x : Inf) : Prop := (0 ≤ x.cl ∧ x.cl ≤ 7) ∧ (-1 ≤ x.sc ∧ x.sc ≤ 14)
instance (x : Inf) : Decidable x.Ok := by unfold Inf.Ok; infer_instance
structure Inf.In (x : Inf) : Prop where
  c0 : -9223372036854775808 ≤ x.cl
  c1 : x.cl ≤ 9223372036854775807
  s0 : -9223372036854775808 ≤ x.sc
  s1 : x.sc ≤ 9223372036854775807
def infV (x : Inf) : Value := .agg #[.int .i64 x.cl, .bool x.sk, .int .i64 x.sc]
def says (x : Inf) : Int := x.cl * 32 + (if x.sk then 16 else 0) + (if x.sc < 0 then 15 else x.sc)
def topOf (h : Int) : Int := h / 4294967296 / 256 * 256
def makeC (key : Int) (t : Tup) (cl tick : Int) (x : Inf) : Int := if x.Ok then topOf (hashOf key t cl (tick / 64)) + says x else 0
def makeE (x : Inf) : Int := if x.Ok then 0 else 1

theorem two_allocs (w : World) (o1 o2 : Obj) : ((w.alloc o1).alloc o2).heap[w.heap.size]? = some o1 ∧ ((w.alloc o1).alloc o2).heap[w.heap.size + 1]? = some o2 := by
  have h := (MapKept.heap_alloc (w.alloc o1) o2).1
  have e : (w.alloc o1).heap.size = w.heap.size + 1 := by simp
  rw [e] at h
  exact ⟨(Below.heap_alloc (w.alloc o1) o2 w.heap.size (by simp)).trans (MapKept.heap_alloc w o1).1, h⟩

set_option maxHeartbeats 2000000 in
theorem make_any (w : World) (hL : Laid w) (key : Int) (t : Tup) (cl tick : Int) (x : Inf) (hk : U64 key) (ht : t.Ok) (hc0 : 0 ≤ cl) (hc1 : cl ≤ 4294967295) (he0 : 0 ≤ tick) (he1 : tick ≤ 18446744073709551615) (hx : x.In) :
    Calls Tryz.prog 50 #[.int .u64 key, tupV t, .int .u32 cl, .int .u64 tick, infV x] w fun e w' => e = .returned (.tuple #[.int .u32 (makeC key t cl tick x), .int .i64 (makeE x)]) ∧ Keeps [] w w' := by
  have HO := Lib.hid (show x.Ok → makeC key t cl tick x = topOf (hashOf key t cl (tick / 64)) + says x ∧ makeE x = 0 from fun h => by unfold makeC makeE; rw [if_pos h, if_pos h]; exact ⟨rfl, rfl⟩)
  have HN := Lib.hid (show ¬ x.Ok → makeC key t cl tick x = 0 ∧ makeE x = 1 from fun h => by unfold makeC makeE; rw [if_neg h, if_neg h]; exact ⟨rfl, rfl⟩)
  have HH := Lib.hid (hashOf_bd hk t cl (tick / 64))
  have HK := Lib.hid hk
  have HL := Lib.hid hL
  have HT := Lib.hid ht
  generalize makeC key t cl tick x = rc at *
  generalize makeE x = re at *
  obtain ⟨c, k, s⟩ := x
  obtain ⟨x0, x1, x2, x3⟩ := hx
  obtain ⟨tp, ta, tb, tc, td⟩ := t
  simp only at x0 x1 x2 x3
  clear hk hL ht
  unfold infV tupV
  go_enter Tryz.func50, Tryz.ntmps50
  go_upto_region 1 with fail
  refine wp_gn (fun W1 hW1 => ?_)
  have kW : Keeps [] w W1 := by rw [hW1]; exact ((Keeps.refl _ _).alloc' _).alloc' _
  have ⟨hx0, hx1⟩ := two_allocs w (.cells #[.int .u8 tp, .int .u32 ta, .int .u32 tb, .int .u16 tc, .int .u16 td] 65) (.cells #[.int .i64 c, .bool k, .int .i64 s] 116)
  rw [← hW1] at hx0 hx1
  have q0 := cell_of_block hx0 0
  have q1 := cell_of_block hx0 1
  have q2 := cell_of_block hx0 2
  have q3 := cell_of_block hx0 3
  have q4 := cell_of_block hx0 4
  have r0 := cell_of_block hx1 0
  have r1 := cell_of_block hx1 1
  have r2 := cell_of_block hx1 2
  simp at q0 q1 q2 q3 q4 r0 r1 r2
  have KW := Lib.hid kW
  clear kW hx0 hx1 hW1
  have LW := HL.out.keep KW.out
  have LW1 := Lib.hid LW
  clear LW
  go_wp2_with fail
  refine (size_any _ LW1.out _ x0 x1).mono ?_
  rintro e w1 ⟨rfl, rfl⟩
  by_cases hc : 0 ≤ c ∧ c ≤ 7
  case neg =>
    have he : szE c = 1 := by unfold szE; rw [if_neg hc]
    rw [he]
    obtain ⟨e1, e2⟩ := HN.out (fun h => hc h.1)
    clear he hc
    subst e1 e2
    go_wp2_with fail
    go_ret2
    exact ⟨rfl, KW.out⟩
  have he : szE c = 0 := by unfold szE; rw [if_pos hc]
  rw [he]
  clear he
  by_cases hs : -1 ≤ s ∧ s ≤ 14
  case neg =>
    obtain ⟨e1, e2⟩ := HN.out (fun h => hs h.2)
    clear hc
    subst e1 e2
    rcases Int.lt_or_le s (-1) with h | h
    · clear hs
      go_wp2_with fail
      go_ret2
      exact ⟨rfl, KW.out⟩
    · have h2 : 14 < s := by omega
      clear hs
      go_wp2_with fail
      go_ret2
      exact ⟨rfl, KW.out⟩
  obtain ⟨e1, e2⟩ := HO.out ⟨hc, hs⟩
  obtain ⟨c0, c1⟩ := hc
  obtain ⟨s0, s1⟩ := hs
  have E1 := Lib.hid e1
  have E2 := Lib.hid e2
  clear e1 e2 HO HN x0 x1 x2 x3
  obtain ⟨h0, h1⟩ := HH.out
  have ho : ∀ y : Int, 0 ≤ y → y < 256 → bits .or .u32 (topOf (hashOf key ⟨tp, ta, tb, tc, td⟩ cl (tick / 64))) y = topOf (hashOf key ⟨tp, ta, tb, tc, td⟩ cl (tick / 64)) + y := fun y y0 y1 => or_add32 8 (by unfold topOf; exact ⟨by omega, by omega⟩) (by omega) (by unfold topOf; omega) (by omega) (by omega)
  have HOR := Lib.hid ho
  clear ho
  have hys := Lib.hid (show says ⟨c, k, s⟩ = c * 32 + (if k then 16 else 0) + (if s < 0 then 15 else s) from rfl)
  cases k with
  | true =>
    rcases Int.lt_or_le s 0 with h | h
    · have o1 := Lib.hid (or_add32 (a := c * 32) (b := 16) 5 ⟨by omega, by omega⟩ (by omega) (by omega) (by decide) (by omega))
      have o2 := Lib.hid (or_add32 (a := c * 32 + 16) (b := 15) 4 ⟨by omega, by omega⟩ (by omega) (by omega) (by omega) (by omega))
      have hy := Lib.hid (show says ⟨c, true, s⟩ = c * 32 + 16 + 15 by rw [hys.out]; (repeat' split) <;> first | omega | contradiction)
      go_upto_region 10 with fail
      rw [o1.out, o2.out]
      go_wp2_with fail
      refine (hash_any _ _ ⟨tp, ta, tb, tc, td⟩ _ _ HK.out HT.out hc0 hc1 (by omega) (by omega)).mono ?_
      rintro e w2 ⟨rfl, k2⟩
      have KW2 := Lib.hid (KW.out.trans k2)
      clear k2
      have E1' := Lib.hid (E1.out.trans (by rw [hy.out, ← HOR.out _ (by omega) (by omega)]))
      generalize hashOf key ⟨tp, ta, tb, tc, td⟩ cl (tick / 64) = H at *
      go_wp2_with fail
      refine (top_any _ _ h0 h1).mono ?_
      rintro e w3 ⟨rfl, rfl⟩
      go_wp2_with fail
      go_ret2
      rw [E1'.out, E2.out]
      exact ⟨rfl, KW2.out⟩
    · have o1 := Lib.hid (or_add32 (a := c * 32) (b := 16) 5 ⟨by omega, by omega⟩ (by omega) (by omega) (by decide) (by omega))
      have o2 := Lib.hid (or_add32 (a := c * 32 + 16) (b := s) 4 ⟨by omega, by omega⟩ (by omega) (by omega) (by omega) (by omega))
      have hy := Lib.hid (show says ⟨c, true, s⟩ = c * 32 + 16 + s by rw [hys.out]; (repeat' split) <;> first | omega | contradiction)
      go_upto_region 10 with fail
      rw [o1.out, o2.out]
      go_wp2_with fail
      refine (hash_any _ _ ⟨tp, ta, tb, tc, td⟩ _ _ HK.out HT.out hc0 hc1 (by omega) (by omega)).mono ?_
      rintro e w2 ⟨rfl, k2⟩
      have KW2 := Lib.hid (KW.out.trans k2)
      clear k2
      have E1' := Lib.hid (E1.out.trans (by rw [hy.out, ← HOR.out _ (by omega) (by omega)]))
      generalize hashOf key ⟨tp, ta, tb, tc, td⟩ cl (tick / 64) = H at *
      go_wp2_with fail
      refine (top_any _ _ h0 h1).mono ?_
      rintro e w3 ⟨rfl, rfl⟩
      go_wp2_with fail
      go_ret2
      rw [E1'.out, E2.out]
      exact ⟨rfl, KW2.out⟩
  | false =>
    rcases Int.lt_or_le s 0 with h | h
    · have o2 := Lib.hid (or_add32 (a := c * 32) (b := 15) 4 ⟨by omega, by omega⟩ (by omega) (by omega) (by omega) (by omega))
      have hy := Lib.hid (show says ⟨c, false, s⟩ = c * 32 + 15 by rw [hys.out]; (repeat' split) <;> first | omega | contradiction)
      go_upto_region 10 with fail
      rw [o2.out]
      go_wp2_with fail
      refine (hash_any _ _ ⟨tp, ta, tb, tc, td⟩ _ _ HK.out HT.out hc0 hc1 (by omega) (by omega)).mono ?_
      rintro e w2 ⟨rfl, k2⟩
      have KW2 := Lib.hid (KW.out.trans k2)
      clear k2
      have E1' := Lib.hid (E1.out.trans (by rw [hy.out, ← HOR.out _ (by omega) (by omega)]))
      generalize hashOf key ⟨tp, ta, tb, tc, td⟩ cl (tick / 64) = H at *
      go_wp2_with fail
      refine (top_any _ _ h0 h1).mono ?_
      rintro e w3 ⟨rfl, rfl⟩
      go_wp2_with fail
      go_ret2
      rw [E1'.out, E2.out]
      exact ⟨rfl, KW2.out⟩
    · have o2 := Lib.hid (or_add32 (a := c * 32) (b := s) 4 ⟨by omega, by omega⟩ (by omega) (by omega) (by omega) (by omega))
      have hy := Lib.hid (show says ⟨c, false, s⟩ = c * 32 + s by rw [hys.out]; (repeat' split) <;> first | omega | contradiction)
      go_upto_region 10 with fail
      rw [o2.out]
      go_wp2_with fail
      refine (hash_any _ _ ⟨tp, ta, tb, tc, td⟩ _ _ HK.out HT.out hc0 hc1 (by omega) (by omega)).mono ?_
      rintro e w2 ⟨rfl, k2⟩
      have KW2 := Lib.hid (KW.out.trans k2)
      clear k2
      have E1' := Lib.hid (E1.out.trans (by rw [hy.out, ← HOR.out _ (by omega) (by omega)]))
      generalize hashOf key ⟨tp, ta, tb, tc, td⟩ cl (tick / 64) = H at *
      go_wp2_with fail
      refine (top_any _ _ h0 h1).mono ?_
      rintro e w3 ⟨rfl, rfl⟩
      go_wp2_with fail
      go_ret2
      rw [E1'.out, E2.out]
      exact ⟨rfl, KW2.out⟩
end Go.Proofs.YtocnkiojlifgpaaGreatDoor
