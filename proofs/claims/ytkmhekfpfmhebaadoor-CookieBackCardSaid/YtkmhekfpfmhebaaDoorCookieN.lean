/-
  The walks of package cookie's reference: making a cookie. Condition: numbers are in the ranges of their kinds.
-/
import Derived.Test.YtkmhekfpfmhebaaDoorCookieM
namespace Go.Proofs.YtkmhekfpfmhebaaDoor
open Go.RowKit

set_option maxHeartbeats 2000000 in
theorem rmake_any (w : World) (key : Int) (t : Tup) (cl tick : Int) (x : Inf) (hk : U64 key) (ht : t.Ok) (hc0 : 0 ≤ cl) (hc1 : cl ≤ 4294967295) (he0 : 0 ≤ tick) (he1 : tick ≤ 18446744073709551615) (hx : x.In) :
    Calls Tryd.prog 14 #[.int .u64 key, tupV t, .int .u32 cl, .int .u64 tick, infV x] w fun e w' => e = .returned (.tuple #[.int .u32 (makeC key t cl tick x), .int .i64 (makeE x)]) ∧ Keeps [] w w' := by
  have HO := Lib.hid (show x.Ok → makeC key t cl tick x = topOf (hashOf key t cl (tick / 64)) + says x ∧ makeE x = 0 from fun h => by unfold makeC makeE; rw [if_pos h, if_pos h]; exact ⟨rfl, rfl⟩)
  have HN := Lib.hid (show ¬ x.Ok → makeC key t cl tick x = 0 ∧ makeE x = 1 from fun h => by unfold makeC makeE; rw [if_neg h, if_neg h]; exact ⟨rfl, rfl⟩)
  have HH := Lib.hid (hashOf_bd hk t cl (tick / 64))
  have HK := Lib.hid hk
  have HT := Lib.hid ht
  generalize makeC key t cl tick x = rc at *
  generalize makeE x = re at *
  obtain ⟨c, k, s⟩ := x
  obtain ⟨x0, x1, x2, x3⟩ := hx
  obtain ⟨tp, ta, tb, tc, td⟩ := t
  simp only at x0 x1 x2 x3
  clear hk ht
  unfold infV tupV
  go_enter Tryd.func14, Tryd.ntmps14
  go_upto_region 1 with fail
  refine wp_gn (fun W1 hW1 => ?_)
  have kW : Keeps [] w W1 := by rw [hW1]; exact ((Keeps.refl _ _).alloc' _).alloc' _
  have ⟨hx0, hx1⟩ := two_allocs w (.cells #[.int .u8 tp, .int .u32 ta, .int .u32 tb, .int .u16 tc, .int .u16 td] 26) (.cells #[.int .i64 c, .bool k, .int .i64 s] 42)
  rw [← hW1] at hx0 hx1
  have q0 := cell_of_block hx0 0
  have q1 := cell_of_block hx0 1
  have q2 := cell_of_block hx0 2
  have q3 := cell_of_block hx0 3
  have q4 := cell_of_block hx0 4
  have r0 := cell_of_block hx1 0
  have r1 := cell_of_block hx1 1
  have r2 := cell_of_block hx1 2
  simp at q0 q1 q2 q3 q4 r0 r1 r2
  have KW := Lib.hid kW
  clear kW hx0 hx1 hW1
  by_cases hc : 0 ≤ c ∧ c ≤ 7
  case neg =>
    obtain ⟨e1, e2⟩ := HN.out (fun h => hc h.1)
    subst e1 e2
    rcases Int.lt_or_le c 0 with h | h
    · clear hc
      go_wp2_with fail
      go_ret2
      exact ⟨rfl, KW.out⟩
    · have h2 : 7 < c := by omega
      clear hc
      go_wp2_with fail
      go_ret2
      exact ⟨rfl, KW.out⟩
  by_cases hs : -1 ≤ s ∧ s ≤ 14
  case neg =>
    obtain ⟨e1, e2⟩ := HN.out (fun h => hs h.2)
    obtain ⟨c0, c1⟩ := hc
    subst e1 e2
    rcases Int.lt_or_le s (-1) with h | h
    · clear hs
      go_wp2_with fail
      go_ret2
      exact ⟨rfl, KW.out⟩
    · have h2 : 14 < s := by omega
      clear hs
      go_wp2_with fail
      go_ret2
      exact ⟨rfl, KW.out⟩
  obtain ⟨e1, e2⟩ := HO.out ⟨hc, hs⟩
  obtain ⟨c0, c1⟩ := hc
  obtain ⟨s0, s1⟩ := hs
  have E1 := Lib.hid e1
  have E2 := Lib.hid e2
  clear e1 e2 HO HN x0 x1 x2 x3
  obtain ⟨h0, h1⟩ := HH.out
  have hys := Lib.hid (show says ⟨c, k, s⟩ = c * 32 + (if k then 16 else 0) + (if s < 0 then 15 else s) from rfl)
  cases k with
  | true =>
    rcases Int.lt_or_le s 0 with h | h
    · obtain rfl : s = -1 := by omega
      have hy := Lib.hid (show says ⟨c, true, -1⟩ = c * 32 + 16 + 15 by rw [hys.out]; (repeat' split) <;> first | omega | contradiction)
      clear hys h s0 s1
      go_upto_region 9 with fail
      go_wp2_with fail
      refine (rhash_any _ _ ⟨tp, ta, tb, tc, td⟩ _ _ HK.out HT.out hc0 hc1 (by omega) (by omega)).mono ?_
      rintro e w2 ⟨rfl, k2⟩
      have KW2 := Lib.hid (KW.out.trans k2)
      clear k2
      have E1' := Lib.hid (E1.out.trans (by rw [hy.out]))
      generalize hashOf key ⟨tp, ta, tb, tc, td⟩ cl (tick / 64) = H at *
      go_wp2_with fail
      go_ret2
      rw [E1'.out, E2.out, show topOf H = H / 1099511627776 * 256 by unfold topOf; omega]
      exact ⟨rfl, KW2.out⟩
    · have hy := Lib.hid (show says ⟨c, true, s⟩ = c * 32 + 16 + s by rw [hys.out]; (repeat' split) <;> first | omega | contradiction)
      have hsn : (s == -1) = false := by simp; omega
      go_upto_region 9 with fail
      go_wp2_with fail
      refine (rhash_any _ _ ⟨tp, ta, tb, tc, td⟩ _ _ HK.out HT.out hc0 hc1 (by omega) (by omega)).mono ?_
      rintro e w2 ⟨rfl, k2⟩
      have KW2 := Lib.hid (KW.out.trans k2)
      clear k2
      have E1' := Lib.hid (E1.out.trans (by rw [hy.out]))
      generalize hashOf key ⟨tp, ta, tb, tc, td⟩ cl (tick / 64) = H at *
      go_wp2_with fail
      go_ret2
      rw [E1'.out, E2.out, show topOf H = H / 1099511627776 * 256 by unfold topOf; omega]
      exact ⟨rfl, KW2.out⟩
  | false =>
    rcases Int.lt_or_le s 0 with h | h
    · obtain rfl : s = -1 := by omega
      have hy := Lib.hid (show says ⟨c, false, -1⟩ = c * 32 + 15 by rw [hys.out]; (repeat' split) <;> first | omega | contradiction)
      clear hys h s0 s1
      go_upto_region 9 with fail
      go_wp2_with fail
      refine (rhash_any _ _ ⟨tp, ta, tb, tc, td⟩ _ _ HK.out HT.out hc0 hc1 (by omega) (by omega)).mono ?_
      rintro e w2 ⟨rfl, k2⟩
      have KW2 := Lib.hid (KW.out.trans k2)
      clear k2
      have E1' := Lib.hid (E1.out.trans (by rw [hy.out]))
      generalize hashOf key ⟨tp, ta, tb, tc, td⟩ cl (tick / 64) = H at *
      go_wp2_with fail
      go_ret2
      rw [E1'.out, E2.out, show topOf H = H / 1099511627776 * 256 by unfold topOf; omega]
      exact ⟨rfl, KW2.out⟩
    · have hy := Lib.hid (show says ⟨c, false, s⟩ = c * 32 + s by rw [hys.out]; (repeat' split) <;> first | omega | contradiction)
      have hsn : (s == -1) = false := by simp; omega
      go_upto_region 9 with fail
      go_wp2_with fail
      refine (rhash_any _ _ ⟨tp, ta, tb, tc, td⟩ _ _ HK.out HT.out hc0 hc1 (by omega) (by omega)).mono ?_
      rintro e w2 ⟨rfl, k2⟩
      have KW2 := Lib.hid (KW.out.trans k2)
      clear k2
      have E1' := Lib.hid (E1.out.trans (by rw [hy.out]))
      generalize hashOf key ⟨tp, ta, tb, tc, td⟩ cl (tick / 64) = H at *
      go_wp2_with fail
      go_ret2
      rw [E1'.out, E2.out, show topOf H = H / 1099511627776 * 256 by unfold topOf; omega]
      exact ⟨rfl, KW2.out⟩
end Go.Proofs.YtkmhekfpfmhebaaDoor
