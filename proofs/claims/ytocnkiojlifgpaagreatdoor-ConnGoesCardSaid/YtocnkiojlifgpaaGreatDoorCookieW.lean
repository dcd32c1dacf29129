/-
  The walks of package cookie's and the reference's small functions. Condition: numbers are in the ranges of their kinds.
-/
import Derived.Test.YtocnkiojlifgpaaGreatDoorRows
import Derived.Test.YtocnkiojlifgpaaGreatDoorKitA
import Derived.Test.YtocnkiojlifgpaaGreatDoorCookieP
import Derived.ProofKit
import Derived.Lib.Hide
import Derived.Outline
import Derived.BigQuiet
import Derived.Deep.QuietTactic
import Derived.Deep.DeepCutAuto
namespace Go.Proofs.YtocnkiojlifgpaaGreatDoor
open Go.RowKit

def foldMix (x : Int) (l : List Int) : Int := l.foldl (fun x n => mix (xr x n)) x
theorem foldMix_take (x : Int) (l : List Int) (k : Nat) (h : k < l.length) : foldMix x (l.take (k + 1)) = mix (xr (foldMix x (l.take k)) (l.getD k 0)) := by
  rw [List.take_succ_eq_append_getElem h]
  unfold foldMix
  rw [List.foldl_append]
  simp [List.getD, List.getElem?_eq_getElem h]
theorem foldMix_bd {x : Int} (hx : U64 x) (l : List Int) : U64 (foldMix x l) := by
  induction l generalizing x with
  | nil => exact hx
  | cons a r ih => exact ih (mix_bd _)

set_option maxHeartbeats 1000000 in
theorem mixed_any (w : World) (x : Int) (l : List Int) (blk : Nat) (hc : ∀ i, i < l.length → w.cell? ⟨blk, i, none⟩ = some (.int .u64 (l.getD i 0))) (hb : ∀ i, i < l.length → U64 (l.getD i 0)) (hl : l.length ≤ 5) (hx : U64 x) :
    Calls Tryz.prog 154 #[.int .u64 x, .slice (some ⟨blk, 0, none⟩) l.length l.length] w fun e w' => e = .returned (.int .u64 (foldMix x l)) ∧ w = w' := by
  have HC := Lib.hid hc
  have HB := Lib.hid hb
  have HX := Lib.hid hx
  clear hc hb hx
  go_enter Tryz.func154, Tryz.ntmps154
  go_wp2_with fail
  go_loop [0, 9] (fun x' c => ∃ k : Nat, k ≤ l.length ∧ c = .int .i64 k ∧ x' = .int .u64 (foldMix x (l.take k))) (fun _ c => l.length - (intOf c).toNat)
  case atStart => exact ⟨0, by omega, rfl, rfl⟩
  case round =>
    obtain ⟨k, hk, rfl, rfl⟩ := hrel
    by_cases hlt : k < l.length
    · have hcell := HC.out k hlt
      have hn := HB.out k hlt
      have hy := foldMix_bd HX.out (l.take k)
      have hnext := foldMix_take x l k hlt
      generalize foldMix x (l.take k) = y at *
      generalize l.getD k 0 = n at *
      have B0 := Lib.hid (xr_bd hy hn)
      have HN := Lib.hid hnext
      obtain ⟨y0, y1⟩ := hy
      obtain ⟨n0, n1⟩ := hn
      clear hnext
      go_upto_region 5 with fail
      rw [← xr.eq_1]
      generalize xr y n = z at *
      have b1 := xr_bd B0.out (div_bd 1073741824 (by omega) B0.out)
      have b2 := wrap_bd (xr z (z / 1073741824) * 13787848793156543929)
      have e1 : mix z = mixS3 (mixS2 (IntKind.u64.wrap (xr z (z / 1073741824) * 13787848793156543929))) := rfl
      have E1 := Lib.hid e1
      have B2 := Lib.hid b2
      obtain ⟨x0, x1⟩ := B0.out
      clear e1 b1 b2 n0 n1 y0 y1 hcell
      go_upto_region 6 with fail
      rw [← xr.eq_1]
      generalize IntKind.u64.wrap (xr z (z / 1073741824) * 13787848793156543929) = b at *
      have b2 := wrap_bd (xr b (b / 134217728) * 10723151780598845931)
      have e1 : mix z = mixS3 (IntKind.u64.wrap (xr b (b / 134217728) * 10723151780598845931)) := E1.out
      have E2 := Lib.hid e1
      have B4 := Lib.hid b2
      clear x0 x1
      obtain ⟨x0, x1⟩ := B2.out
      clear e1 b2 B2 E1
      go_upto_region 7 with fail
      rw [← xr.eq_1]
      generalize IntKind.u64.wrap (xr b (b / 134217728) * 10723151780598845931) = d at *
      obtain ⟨d0, d1⟩ := B4.out
      have e3 : mix z = bits .xor .u64 d (d / 2147483648) := E2.out
      have E3 := Lib.hid e3
      clear e3 E2 x0 x1
      go_wp2_with fail
      go_round
      case rel => exact ⟨k + 1, by omega, by go_num, by rw [HN.out, E3.out]⟩
      case measure => simp [intOf]; omega
    · have hkl : k = l.length := by omega
      subst hkl
      clear hlt hk
      go_wp2_with fail
      go_ret
      exact ⟨by simp, rfl⟩

set_option maxHeartbeats 400000 in
theorem top_any (w : World) (x : Int) (h0 : 0 ≤ x) (h1 : x ≤ 18446744073709551615) :
    Calls Tryz.prog 97 #[.int .u64 x] w fun e w' => e = .returned (.int .u32 (x / 4294967296 / 256 * 256)) ∧ w = w' := by
  go_enter Tryz.func97, Tryz.ntmps97
  go_wp2
  go_ret
  exact ⟨rfl, rfl⟩
end Go.Proofs.YtocnkiojlifgpaaGreatDoor
