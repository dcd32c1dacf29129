/-
  Plain facts on the cookies' numbers. No condition.
-/
import Derived.WalkKit
import Derived.Laws.BitsAllLaws
import Derived.IntWalk
namespace Go.Proofs.YtocnkiojlifgpaaGreatDoor
open Go.RowKit

def U64 (x : Int) : Prop := 0 ≤ x ∧ x ≤ 18446744073709551615
def U32 (x : Int) : Prop := 0 ≤ x ∧ x ≤ 4294967295
def xr (a b : Int) : Int := bits .xor .u64 a b
theorem xr_bd {a b : Int} (ha : U64 a) (hb : U64 b) : U64 (xr a b) := by
  obtain ⟨a0, a1⟩ := ha
  obtain ⟨b0, b1⟩ := hb
  unfold xr
  rw [u64_xor a b a0 (by omega) b0 (by omega)]
  have h : a.toNat ^^^ b.toNat < 2 ^ 64 := Nat.xor_lt_two_pow (by omega) (by omega)
  constructor <;> omega
theorem wrap_bd (x : Int) : U64 (IntKind.u64.wrap x) := by
  rw [IntKind.wrap_u64]; constructor <;> omega
def mixS1 (x : Int) : Int := IntKind.u64.wrap (xr x (x / 1073741824) * 13787848793156543929)
def mixS2 (x : Int) : Int := IntKind.u64.wrap (xr x (x / 134217728) * 10723151780598845931)
def mixS3 (x : Int) : Int := xr x (x / 2147483648)
def mix (x : Int) : Int := mixS3 (mixS2 (mixS1 x))
theorem div_bd {x : Int} (d : Int) (hd : 1 ≤ d) (h : U64 x) : U64 (x / d) := by
  obtain ⟨h0, h1⟩ := h
  have := Int.ediv_nonneg h0 (show 0 ≤ d by omega)
  have := Int.ediv_le_self d h0
  exact ⟨by omega, by omega⟩
theorem mixS3_bd {x : Int} (h : U64 x) : U64 (mixS3 x) := xr_bd h (div_bd _ (by omega) h)
theorem mix_bd (x : Int) : U64 (mix x) := mixS3_bd (wrap_bd _)
theorem or_add {a b : Int} (k : Nat) (ha : U64 a) (hb : 0 ≤ b) (hm : a.toNat % 2 ^ k = 0) (hk : b.toNat < 2 ^ k) (hb2 : b ≤ 18446744073709551615) : bits .or .u64 a b = a + b := by
  obtain ⟨a0, a1⟩ := ha
  rw [u64_or a b a0 (by omega) hb (by omega), nat_join k _ _ hm hk]
  omega
theorem or_add32 {a b : Int} (k : Nat) (ha : U32 a) (hb : 0 ≤ b) (hm : a.toNat % 2 ^ k = 0) (hk : b.toNat < 2 ^ k) (hb2 : b ≤ 4294967295) : bits .or .u32 a b = a + b := by
  obtain ⟨a0, a1⟩ := ha
  rw [u32_or a b a0 (by omega) hb (by omega), nat_join k _ _ hm hk]
  omega
end Go.Proofs.YtocnkiojlifgpaaGreatDoor
