/-
  The law ConnShakes: it returns true at any arguments, and leaves what was there: its paths, put together. Condition: the listed variables lie as listed; the numbers are in the ranges of their kinds. Printed by program. Package conn's laid variables out of the row's condition; a world in which they lie, for the frames. No condition. Arguments of conn's laws opened: a script's numbers, a row's form. No condition. The typed theorem of the law ConnShakes. Condition: the listed variables lie as listed.
-/
import Derived.Test.YtijkbcjpbhcfcaaGreatDoorCnT0
import Derived.Test.YtijkbcjpbhcfcaaGreatDoorCnT1
import Derived.Test.YtijkbcjpbhcfcaaGreatDoorCnT2
import Derived.Test.YtijkbcjpbhcfcaaGreatDoorCnT3
import Derived.Test.YtijkbcjpbhcfcaaGreatDoorCnB
import Derived.Lib.LaidTab
import Derived.Test.YtijkbcjpbhcfcaaGreatDoorRows
import Derived.ProofKit
import Derived.OpenShut
import Derived.Lib.SmallJoins
import Derived.PinnedBridge
import Derived.Lib.LaidCase
import Derived.Lib.LaidU8
import Derived.HandedShaped
import Derived.ChangeMaps5
import Derived.Shelf.Vars
import Derived.Lib.LaidCaseMet
import Derived.Handed
import Derived.LaidLaws
import Derived.SizedLaws
namespace Go.Proofs.YtijkbcjpbhcfcaaGreatDoor
open Ev Go.RowKit
set_option linter.unusedVariables false
set_option linter.unusedSimpArgs false

theorem tmod_bd {a : Int} (m : Int) (h0 : 0 ≤ a) (hm : 0 < m) : a.tmod m = a % m := Int.tmod_eq_emod_of_nonneg h0

set_option maxRecDepth 100000 in
theorem shakes00 (W : World) (hC : CW W) (sn ms sc sq lt vm vs tu : Int) (i0 : -9223372036854775808 ≤ sn ∧ sn ≤ 9223372036854775807) (i1 : 0 ≤ ms ∧ ms ≤ 65535) (i2 : -9223372036854775808 ≤ sc ∧ sc ≤ 9223372036854775807) (i3 : 0 ≤ sq ∧ sq ≤ 4294967295) (i5 : 0 ≤ lt ∧ lt ≤ 255) (i6 : 0 ≤ vm ∧ vm ≤ 65535) (i7 : -9223372036854775808 ≤ vs ∧ vs ≤ 9223372036854775807) (i8 : 0 ≤ tu ∧ tu ≤ 4294967295) (A1 : Option Addr) (n1 k1 : Nat) (A2 : Option Addr) (n2 k2 : Nat) :
    Calls Tryz.prog 3 #[.agg #[.int .i64 sn, .int .u16 ms, .int .i64 sc, .bool false, .int .u32 sq, .slice A1 n1 k1, .int .u8 lt, .slice A2 n2 k2], .agg #[.int .u16 vm, .int .i64 vs, .bool false, .int .u32 tu]] W fun e W' => e = .returned (.bool true) ∧ Below W.heap.size W W' := by
  obtain ⟨cl, hcl⟩ : ∃ cl, clsI vm = cl := ⟨_, rfl⟩
  obtain ⟨sx, hsx⟩ : ∃ sx, IntKind.u8.wrap (min (max vs 0) 14) = sx := ⟨_, rfl⟩
  obtain ⟨th, hth⟩ : ∃ th, IntKind.u64.wrap (1000 + IntKind.u64.wrap (lt.tmod 65)) = th := ⟨_, rfl⟩
  obtain ⟨sm, hsm⟩ : ∃ sm, IntKind.i64.wrap (1 + IntKind.i64.wrap ((IntKind.u64.wrap sn).tmod 2000)) = sm := ⟨_, rfl⟩
  obtain ⟨mm, hmm⟩ : ∃ mm, IntKind.u16.wrap (88 + ms.tmod 1373) = mm := ⟨_, rfl⟩
  obtain ⟨sl, hsl⟩ : ∃ sl, IntKind.i64.wrap (IntKind.i64.wrap ((IntKind.u64.wrap sc).tmod 16) - 1) = sl := ⟨_, rfl⟩
  obtain ⟨s8, hs8⟩ : ∃ s8, IntKind.u8.wrap (min (max sl 0) 14) = s8 := ⟨_, rfl⟩
  obtain ⟨o, ho⟩ : ∃ o, IntKind.u32.wrap (IntKind.u32.wrap (IntKind.u32.wrap (sq + 1) + tu) - 1) = o := ⟨_, rfl⟩
  have bsx : 0 ≤ sx ∧ sx ≤ 14 := by rw [← hsx]; simp only [IntKind.wrap_u8]; omega
  have bth : 1000 ≤ th ∧ th ≤ 1064 := by rw [← hth, tmod_bd 65 i5.1 (by decide)]; simp only [IntKind.wrap_u64]; omega
  have bsm : 1 ≤ sm ∧ sm ≤ 2000 := by
    have hu : 0 ≤ IntKind.u64.wrap sn := by simp only [IntKind.wrap_u64]; omega
    rw [← hsm, tmod_bd 2000 hu (by decide)]
    generalize IntKind.u64.wrap sn = q at *
    simp only [IntKind.wrap_i64]; omega
  have bmm : 88 ≤ mm ∧ mm ≤ 1460 := by rw [← hmm, tmod_bd 1373 i1.1 (by decide)]; simp only [IntKind.wrap_u16]; omega
  have bsl : -1 ≤ sl ∧ sl ≤ 14 := by
    have hu : 0 ≤ IntKind.u64.wrap sc := by simp only [IntKind.wrap_u64]; omega
    rw [← hsl, tmod_bd 16 hu (by decide)]
    generalize IntKind.u64.wrap sc = q at *
    simp only [IntKind.wrap_i64]; omega
  have bs8 : 0 ≤ s8 ∧ s8 ≤ 14 ∧ (0 ≤ sl → s8 = sl) := by rw [← hs8]; simp only [IntKind.wrap_u8]; omega
  have bo : 0 ≤ o ∧ o ≤ 4294967295 := by rw [← ho]; simp only [IntKind.wrap_u32]; omega
  obtain ⟨g0, hg0⟩ : ∃ g, hashOf keyC tupC o (th / 64) = g := ⟨_, rfl⟩
  obtain ⟨g1, hg1⟩ : ∃ g, hashOf keyC tupC o (th / 64 - 1) = g := ⟨_, rfl⟩
  obtain ⟨sz, hsz⟩ : ∃ z, szI cl = z := ⟨_, rfl⟩
  cases his : clsB vm with
  | false =>
    obtain ⟨ck, hck⟩ : ∃ c, makeC keyC tupC sq 1000 ⟨cl, false, if 0 ≤ vs then min sx 14 else -1⟩ = c := ⟨_, rfl⟩
    have hok : (⟨cl, false, if 0 ≤ vs then min sx 14 else -1⟩ : Inf).Ok := ⟨by rw [← hcl]; exact cls_bd vm, by simp only []; split <;> omega⟩
    have hcb := ck_bd (sq := sq) hok
    rw [hck] at hcb
    have H : ShH sn ms sc sq lt vm vs tu cl ck sz g0 g1 sx th sm mm sl s8 o := ⟨i3.1, i3.2, hcb.1, hcb.2, i6.1, i6.2, hth, ho, hsm, hmm, hsl, hsx, hs8, bsm.1, bsm.2, bmm.1, bmm.2, bsl.1, bsl.2, bsx.1, bsx.2, bs8.1, bs8.2.1, bs8.2.2⟩
    by_cases hv : 0 ≤ vs
    · rw [if_pos hv] at hck
      letI : Inhabited EnvT := shE W sn ms sc sq lt vm vs tu cl ck sz g0 g1 sx th sm mm sl s8 o A1 n1 k1 A2 n2 k2 shF1 (shF1_ok sn ms sc sq lt vm vs tu cl ck sz g0 g1 sx th sm mm sl s8 o H hv)
      exact lawSymX_calls (Vs := [.agg ⟨[.int .i64 sn, .int .u16 ms, .int .i64 sc, .bool false, .int .u32 sq, .slice A1 n1 k1, .int .u8 lt, .slice A2 n2 k2]⟩, .agg ⟨[.int .u16 vm, .int .i64 vs, .bool false, .int .u32 tu]⟩]) (sh_good W hC sn ms sc sq lt vm vs tu cl ck sz g0 g1 sx th sm mm sl s8 o A1 n1 k1 A2 n2 k2 shF1 (shF1_ok sn ms sc sq lt vm vs tu cl ck sz g0 g1 sx th sm mm sl s8 o H hv) false (.sx .i64 (.mn (.v 13) (.c 14))) false false (min sx 14) (by omega) (by omega) rfl (fun _ => .sx _ _) H bth.1 bth.2 bo.1 bo.2 hcl his hck hsz hg0 hg1 (fun h => by cases h)) (shT001100 W sn ms sc sq lt vm vs tu cl ck sz g0 g1 sx th sm mm sl s8 o A1 n1 k1 A2 n2 k2 (shF1_ok sn ms sc sq lt vm vs tu cl ck sz g0 g1 sx th sm mm sl s8 o H hv)) (.cons (.agg (.cons (.sx _ (.v 0)) (.cons (.sx _ (.v 1)) (.cons (.sx _ (.v 2)) (.cons (.bool _) (.cons (.sx _ (.v 3)) (.cons (.ov 0) (.cons (.sx _ (.v 4)) (.cons (.ov 1) .nil))))))))) (.cons (.agg (.cons (.sx _ (.v 5)) (.cons (.sx _ (.v 6)) (.cons (.bool _) (.cons (.sx _ (.v 7)) .nil))))) .nil)) W (fun b _ => rfl) (Nat.le_refl _)
    · rw [if_neg hv] at hck
      have hv : vs < 0 := by omega
      letI : Inhabited EnvT := shE W sn ms sc sq lt vm vs tu cl ck sz g0 g1 sx th sm mm sl s8 o A1 n1 k1 A2 n2 k2 shF0 (shF0_ok sn ms sc sq lt vm vs tu cl ck sz g0 g1 sx th sm mm sl s8 o H hv)
      exact lawSymX_calls (Vs := [.agg ⟨[.int .i64 sn, .int .u16 ms, .int .i64 sc, .bool false, .int .u32 sq, .slice A1 n1 k1, .int .u8 lt, .slice A2 n2 k2]⟩, .agg ⟨[.int .u16 vm, .int .i64 vs, .bool false, .int .u32 tu]⟩]) (sh_good W hC sn ms sc sq lt vm vs tu cl ck sz g0 g1 sx th sm mm sl s8 o A1 n1 k1 A2 n2 k2 shF0 (shF0_ok sn ms sc sq lt vm vs tu cl ck sz g0 g1 sx th sm mm sl s8 o H hv) false (.int .i64 (-1)) false false (-1) (by decide) (by decide) rfl (fun _ => .int _ _) H bth.1 bth.2 bo.1 bo.2 hcl his hck hsz hg0 hg1 (fun h => by cases h)) (shT000100 W sn ms sc sq lt vm vs tu cl ck sz g0 g1 sx th sm mm sl s8 o A1 n1 k1 A2 n2 k2 (shF0_ok sn ms sc sq lt vm vs tu cl ck sz g0 g1 sx th sm mm sl s8 o H hv)) (.cons (.agg (.cons (.sx _ (.v 0)) (.cons (.sx _ (.v 1)) (.cons (.sx _ (.v 2)) (.cons (.bool _) (.cons (.sx _ (.v 3)) (.cons (.ov 0) (.cons (.sx _ (.v 4)) (.cons (.ov 1) .nil))))))))) (.cons (.agg (.cons (.sx _ (.v 5)) (.cons (.sx _ (.v 6)) (.cons (.bool _) (.cons (.sx _ (.v 7)) .nil))))) .nil)) W (fun b _ => rfl) (Nat.le_refl _)
  | true =>
    have hz : sz ≤ vm := by rw [← hsz, ← hcl]; exact (sz_le his).1
    obtain ⟨ck, hck⟩ : ∃ c, makeC keyC tupC sq 1000 ⟨cl, false, if 0 ≤ vs ∧ 0 ≤ sl then min sx 14 else -1⟩ = c := ⟨_, rfl⟩
    have hok : (⟨cl, false, if 0 ≤ vs ∧ 0 ≤ sl then min sx 14 else -1⟩ : Inf).Ok := ⟨by rw [← hcl]; exact cls_bd vm, by simp only []; split <;> omega⟩
    have hcb := ck_bd (sq := sq) hok
    rw [hck] at hcb
    have H : ShH sn ms sc sq lt vm vs tu cl ck sz g0 g1 sx th sm mm sl s8 o := ⟨i3.1, i3.2, hcb.1, hcb.2, i6.1, i6.2, hth, ho, hsm, hmm, hsl, hsx, hs8, bsm.1, bsm.2, bmm.1, bmm.2, bsl.1, bsl.2, bsx.1, bsx.2, bs8.1, bs8.2.1, bs8.2.2⟩
    by_cases hv : 0 ≤ vs
    · by_cases hs : 0 ≤ sl
      · skip
        rw [if_pos ⟨hv, hs⟩] at hck
        cases h0 : (opI .shr .u64 g0 40 == IntKind.u64.wrap (opI .shr .u32 ck 8)) with
        | true =>
          letI : Inhabited EnvT := shE W sn ms sc sq lt vm vs tu cl ck sz g0 g1 sx th sm mm sl s8 o A1 n1 k1 A2 n2 k2 shF111 (shF111_ok sn ms sc sq lt vm vs tu cl ck sz g0 g1 sx th sm mm sl s8 o H hv hs hz h0)
          exact lawSymX_calls (Vs := [.agg ⟨[.int .i64 sn, .int .u16 ms, .int .i64 sc, .bool false, .int .u32 sq, .slice A1 n1 k1, .int .u8 lt, .slice A2 n2 k2]⟩, .agg ⟨[.int .u16 vm, .int .i64 vs, .bool false, .int .u32 tu]⟩]) (sh_good W hC sn ms sc sq lt vm vs tu cl ck sz g0 g1 sx th sm mm sl s8 o A1 n1 k1 A2 n2 k2 shF111 (shF111_ok sn ms sc sq lt vm vs tu cl ck sz g0 g1 sx th sm mm sl s8 o H hv hs hz h0) false (.sx .i64 (.mn (.v 13) (.c 14))) true false (min sx 14) (by omega) (by omega) rfl (fun _ => .sx _ _) H bth.1 bth.2 bo.1 bo.2 hcl his hck hsz hg0 hg1 (fun h => by cases h)) (shT001111 W sn ms sc sq lt vm vs tu cl ck sz g0 g1 sx th sm mm sl s8 o A1 n1 k1 A2 n2 k2 (shF111_ok sn ms sc sq lt vm vs tu cl ck sz g0 g1 sx th sm mm sl s8 o H hv hs hz h0)) (.cons (.agg (.cons (.sx _ (.v 0)) (.cons (.sx _ (.v 1)) (.cons (.sx _ (.v 2)) (.cons (.bool _) (.cons (.sx _ (.v 3)) (.cons (.ov 0) (.cons (.sx _ (.v 4)) (.cons (.ov 1) .nil))))))))) (.cons (.agg (.cons (.sx _ (.v 5)) (.cons (.sx _ (.v 6)) (.cons (.bool _) (.cons (.sx _ (.v 7)) .nil))))) .nil)) W (fun b _ => rfl) (Nat.le_refl _)
        | false =>
          cases h1 : (opI .shr .u64 g1 40 == IntKind.u64.wrap (opI .shr .u32 ck 8)) with
          | true =>
            letI : Inhabited EnvT := shE W sn ms sc sq lt vm vs tu cl ck sz g0 g1 sx th sm mm sl s8 o A1 n1 k1 A2 n2 k2 shF112 (shF112_ok sn ms sc sq lt vm vs tu cl ck sz g0 g1 sx th sm mm sl s8 o H hv hs hz h0 h1)
            exact lawSymX_calls (Vs := [.agg ⟨[.int .i64 sn, .int .u16 ms, .int .i64 sc, .bool false, .int .u32 sq, .slice A1 n1 k1, .int .u8 lt, .slice A2 n2 k2]⟩, .agg ⟨[.int .u16 vm, .int .i64 vs, .bool false, .int .u32 tu]⟩]) (sh_good W hC sn ms sc sq lt vm vs tu cl ck sz g0 g1 sx th sm mm sl s8 o A1 n1 k1 A2 n2 k2 shF112 (shF112_ok sn ms sc sq lt vm vs tu cl ck sz g0 g1 sx th sm mm sl s8 o H hv hs hz h0 h1) false (.sx .i64 (.mn (.v 13) (.c 14))) true false (min sx 14) (by omega) (by omega) rfl (fun _ => .sx _ _) H bth.1 bth.2 bo.1 bo.2 hcl his hck hsz hg0 hg1 (fun h => by cases h)) (shT001112 W sn ms sc sq lt vm vs tu cl ck sz g0 g1 sx th sm mm sl s8 o A1 n1 k1 A2 n2 k2 (shF112_ok sn ms sc sq lt vm vs tu cl ck sz g0 g1 sx th sm mm sl s8 o H hv hs hz h0 h1)) (.cons (.agg (.cons (.sx _ (.v 0)) (.cons (.sx _ (.v 1)) (.cons (.sx _ (.v 2)) (.cons (.bool _) (.cons (.sx _ (.v 3)) (.cons (.ov 0) (.cons (.sx _ (.v 4)) (.cons (.ov 1) .nil))))))))) (.cons (.agg (.cons (.sx _ (.v 5)) (.cons (.sx _ (.v 6)) (.cons (.bool _) (.cons (.sx _ (.v 7)) .nil))))) .nil)) W (fun b _ => rfl) (Nat.le_refl _)
          | false =>
            letI : Inhabited EnvT := shE W sn ms sc sq lt vm vs tu cl ck sz g0 g1 sx th sm mm sl s8 o A1 n1 k1 A2 n2 k2 shF110 (shF110_ok sn ms sc sq lt vm vs tu cl ck sz g0 g1 sx th sm mm sl s8 o H hv hs hz h0 h1)
            exact lawSymX_calls (Vs := [.agg ⟨[.int .i64 sn, .int .u16 ms, .int .i64 sc, .bool false, .int .u32 sq, .slice A1 n1 k1, .int .u8 lt, .slice A2 n2 k2]⟩, .agg ⟨[.int .u16 vm, .int .i64 vs, .bool false, .int .u32 tu]⟩]) (sh_good W hC sn ms sc sq lt vm vs tu cl ck sz g0 g1 sx th sm mm sl s8 o A1 n1 k1 A2 n2 k2 shF110 (shF110_ok sn ms sc sq lt vm vs tu cl ck sz g0 g1 sx th sm mm sl s8 o H hv hs hz h0 h1) false (.sx .i64 (.mn (.v 13) (.c 14))) true true (min sx 14) (by omega) (by omega) rfl (fun _ => .sx _ _) H bth.1 bth.2 bo.1 bo.2 hcl his hck hsz hg0 hg1 (fun _ => ⟨by rw [shr40, shr8 H.ck0 H.ck1] at h0; simpa using h0, by rw [shr40, shr8 H.ck0 H.ck1] at h1; simpa using h1⟩)) (shT001110 W sn ms sc sq lt vm vs tu cl ck sz g0 g1 sx th sm mm sl s8 o A1 n1 k1 A2 n2 k2 (shF110_ok sn ms sc sq lt vm vs tu cl ck sz g0 g1 sx th sm mm sl s8 o H hv hs hz h0 h1)) (.cons (.agg (.cons (.sx _ (.v 0)) (.cons (.sx _ (.v 1)) (.cons (.sx _ (.v 2)) (.cons (.bool _) (.cons (.sx _ (.v 3)) (.cons (.ov 0) (.cons (.sx _ (.v 4)) (.cons (.ov 1) .nil))))))))) (.cons (.agg (.cons (.sx _ (.v 5)) (.cons (.sx _ (.v 6)) (.cons (.bool _) (.cons (.sx _ (.v 7)) .nil))))) .nil)) W (fun b _ => rfl) (Nat.le_refl _)
      · have hs : sl < 0 := by omega
        rw [if_neg (by omega)] at hck
        cases h0 : (opI .shr .u64 g0 40 == IntKind.u64.wrap (opI .shr .u32 ck 8)) with
        | true =>
          letI : Inhabited EnvT := shE W sn ms sc sq lt vm vs tu cl ck sz g0 g1 sx th sm mm sl s8 o A1 n1 k1 A2 n2 k2 shF101 (shF101_ok sn ms sc sq lt vm vs tu cl ck sz g0 g1 sx th sm mm sl s8 o H hv hs hz h0)
          exact lawSymX_calls (Vs := [.agg ⟨[.int .i64 sn, .int .u16 ms, .int .i64 sc, .bool false, .int .u32 sq, .slice A1 n1 k1, .int .u8 lt, .slice A2 n2 k2]⟩, .agg ⟨[.int .u16 vm, .int .i64 vs, .bool false, .int .u32 tu]⟩]) (sh_good W hC sn ms sc sq lt vm vs tu cl ck sz g0 g1 sx th sm mm sl s8 o A1 n1 k1 A2 n2 k2 shF101 (shF101_ok sn ms sc sq lt vm vs tu cl ck sz g0 g1 sx th sm mm sl s8 o H hv hs hz h0) false (.int .i64 (-1)) true false (-1) (by decide) (by decide) rfl (fun _ => .int _ _) H bth.1 bth.2 bo.1 bo.2 hcl his hck hsz hg0 hg1 (fun h => by cases h)) (shT001011 W sn ms sc sq lt vm vs tu cl ck sz g0 g1 sx th sm mm sl s8 o A1 n1 k1 A2 n2 k2 (shF101_ok sn ms sc sq lt vm vs tu cl ck sz g0 g1 sx th sm mm sl s8 o H hv hs hz h0)) (.cons (.agg (.cons (.sx _ (.v 0)) (.cons (.sx _ (.v 1)) (.cons (.sx _ (.v 2)) (.cons (.bool _) (.cons (.sx _ (.v 3)) (.cons (.ov 0) (.cons (.sx _ (.v 4)) (.cons (.ov 1) .nil))))))))) (.cons (.agg (.cons (.sx _ (.v 5)) (.cons (.sx _ (.v 6)) (.cons (.bool _) (.cons (.sx _ (.v 7)) .nil))))) .nil)) W (fun b _ => rfl) (Nat.le_refl _)
        | false =>
          cases h1 : (opI .shr .u64 g1 40 == IntKind.u64.wrap (opI .shr .u32 ck 8)) with
          | true =>
            letI : Inhabited EnvT := shE W sn ms sc sq lt vm vs tu cl ck sz g0 g1 sx th sm mm sl s8 o A1 n1 k1 A2 n2 k2 shF102 (shF102_ok sn ms sc sq lt vm vs tu cl ck sz g0 g1 sx th sm mm sl s8 o H hv hs hz h0 h1)
            exact lawSymX_calls (Vs := [.agg ⟨[.int .i64 sn, .int .u16 ms, .int .i64 sc, .bool false, .int .u32 sq, .slice A1 n1 k1, .int .u8 lt, .slice A2 n2 k2]⟩, .agg ⟨[.int .u16 vm, .int .i64 vs, .bool false, .int .u32 tu]⟩]) (sh_good W hC sn ms sc sq lt vm vs tu cl ck sz g0 g1 sx th sm mm sl s8 o A1 n1 k1 A2 n2 k2 shF102 (shF102_ok sn ms sc sq lt vm vs tu cl ck sz g0 g1 sx th sm mm sl s8 o H hv hs hz h0 h1) false (.int .i64 (-1)) true false (-1) (by decide) (by decide) rfl (fun _ => .int _ _) H bth.1 bth.2 bo.1 bo.2 hcl his hck hsz hg0 hg1 (fun h => by cases h)) (shT001012 W sn ms sc sq lt vm vs tu cl ck sz g0 g1 sx th sm mm sl s8 o A1 n1 k1 A2 n2 k2 (shF102_ok sn ms sc sq lt vm vs tu cl ck sz g0 g1 sx th sm mm sl s8 o H hv hs hz h0 h1)) (.cons (.agg (.cons (.sx _ (.v 0)) (.cons (.sx _ (.v 1)) (.cons (.sx _ (.v 2)) (.cons (.bool _) (.cons (.sx _ (.v 3)) (.cons (.ov 0) (.cons (.sx _ (.v 4)) (.cons (.ov 1) .nil))))))))) (.cons (.agg (.cons (.sx _ (.v 5)) (.cons (.sx _ (.v 6)) (.cons (.bool _) (.cons (.sx _ (.v 7)) .nil))))) .nil)) W (fun b _ => rfl) (Nat.le_refl _)
          | false =>
            letI : Inhabited EnvT := shE W sn ms sc sq lt vm vs tu cl ck sz g0 g1 sx th sm mm sl s8 o A1 n1 k1 A2 n2 k2 shF100 (shF100_ok sn ms sc sq lt vm vs tu cl ck sz g0 g1 sx th sm mm sl s8 o H hv hs hz h0 h1)
            exact lawSymX_calls (Vs := [.agg ⟨[.int .i64 sn, .int .u16 ms, .int .i64 sc, .bool false, .int .u32 sq, .slice A1 n1 k1, .int .u8 lt, .slice A2 n2 k2]⟩, .agg ⟨[.int .u16 vm, .int .i64 vs, .bool false, .int .u32 tu]⟩]) (sh_good W hC sn ms sc sq lt vm vs tu cl ck sz g0 g1 sx th sm mm sl s8 o A1 n1 k1 A2 n2 k2 shF100 (shF100_ok sn ms sc sq lt vm vs tu cl ck sz g0 g1 sx th sm mm sl s8 o H hv hs hz h0 h1) false (.int .i64 (-1)) true true (-1) (by decide) (by decide) rfl (fun _ => .int _ _) H bth.1 bth.2 bo.1 bo.2 hcl his hck hsz hg0 hg1 (fun _ => ⟨by rw [shr40, shr8 H.ck0 H.ck1] at h0; simpa using h0, by rw [shr40, shr8 H.ck0 H.ck1] at h1; simpa using h1⟩)) (shT001010 W sn ms sc sq lt vm vs tu cl ck sz g0 g1 sx th sm mm sl s8 o A1 n1 k1 A2 n2 k2 (shF100_ok sn ms sc sq lt vm vs tu cl ck sz g0 g1 sx th sm mm sl s8 o H hv hs hz h0 h1)) (.cons (.agg (.cons (.sx _ (.v 0)) (.cons (.sx _ (.v 1)) (.cons (.sx _ (.v 2)) (.cons (.bool _) (.cons (.sx _ (.v 3)) (.cons (.ov 0) (.cons (.sx _ (.v 4)) (.cons (.ov 1) .nil))))))))) (.cons (.agg (.cons (.sx _ (.v 5)) (.cons (.sx _ (.v 6)) (.cons (.bool _) (.cons (.sx _ (.v 7)) .nil))))) .nil)) W (fun b _ => rfl) (Nat.le_refl _)
    · have hv : vs < 0 := by omega
      by_cases hs : 0 ≤ sl
      · skip
        rw [if_neg (by omega)] at hck
        cases h0 : (opI .shr .u64 g0 40 == IntKind.u64.wrap (opI .shr .u32 ck 8)) with
        | true =>
          letI : Inhabited EnvT := shE W sn ms sc sq lt vm vs tu cl ck sz g0 g1 sx th sm mm sl s8 o A1 n1 k1 A2 n2 k2 shF011 (shF011_ok sn ms sc sq lt vm vs tu cl ck sz g0 g1 sx th sm mm sl s8 o H hv hs hz h0)
          exact lawSymX_calls (Vs := [.agg ⟨[.int .i64 sn, .int .u16 ms, .int .i64 sc, .bool false, .int .u32 sq, .slice A1 n1 k1, .int .u8 lt, .slice A2 n2 k2]⟩, .agg ⟨[.int .u16 vm, .int .i64 vs, .bool false, .int .u32 tu]⟩]) (sh_good W hC sn ms sc sq lt vm vs tu cl ck sz g0 g1 sx th sm mm sl s8 o A1 n1 k1 A2 n2 k2 shF011 (shF011_ok sn ms sc sq lt vm vs tu cl ck sz g0 g1 sx th sm mm sl s8 o H hv hs hz h0) false (.int .i64 (-1)) true false (-1) (by decide) (by decide) rfl (fun _ => .int _ _) H bth.1 bth.2 bo.1 bo.2 hcl his hck hsz hg0 hg1 (fun h => by cases h)) (shT000111 W sn ms sc sq lt vm vs tu cl ck sz g0 g1 sx th sm mm sl s8 o A1 n1 k1 A2 n2 k2 (shF011_ok sn ms sc sq lt vm vs tu cl ck sz g0 g1 sx th sm mm sl s8 o H hv hs hz h0)) (.cons (.agg (.cons (.sx _ (.v 0)) (.cons (.sx _ (.v 1)) (.cons (.sx _ (.v 2)) (.cons (.bool _) (.cons (.sx _ (.v 3)) (.cons (.ov 0) (.cons (.sx _ (.v 4)) (.cons (.ov 1) .nil))))))))) (.cons (.agg (.cons (.sx _ (.v 5)) (.cons (.sx _ (.v 6)) (.cons (.bool _) (.cons (.sx _ (.v 7)) .nil))))) .nil)) W (fun b _ => rfl) (Nat.le_refl _)
        | false =>
          cases h1 : (opI .shr .u64 g1 40 == IntKind.u64.wrap (opI .shr .u32 ck 8)) with
          | true =>
            letI : Inhabited EnvT := shE W sn ms sc sq lt vm vs tu cl ck sz g0 g1 sx th sm mm sl s8 o A1 n1 k1 A2 n2 k2 shF012 (shF012_ok sn ms sc sq lt vm vs tu cl ck sz g0 g1 sx th sm mm sl s8 o H hv hs hz h0 h1)
            exact lawSymX_calls (Vs := [.agg ⟨[.int .i64 sn, .int .u16 ms, .int .i64 sc, .bool false, .int .u32 sq, .slice A1 n1 k1, .int .u8 lt, .slice A2 n2 k2]⟩, .agg ⟨[.int .u16 vm, .int .i64 vs, .bool false, .int .u32 tu]⟩]) (sh_good W hC sn ms sc sq lt vm vs tu cl ck sz g0 g1 sx th sm mm sl s8 o A1 n1 k1 A2 n2 k2 shF012 (shF012_ok sn ms sc sq lt vm vs tu cl ck sz g0 g1 sx th sm mm sl s8 o H hv hs hz h0 h1) false (.int .i64 (-1)) true false (-1) (by decide) (by decide) rfl (fun _ => .int _ _) H bth.1 bth.2 bo.1 bo.2 hcl his hck hsz hg0 hg1 (fun h => by cases h)) (shT000112 W sn ms sc sq lt vm vs tu cl ck sz g0 g1 sx th sm mm sl s8 o A1 n1 k1 A2 n2 k2 (shF012_ok sn ms sc sq lt vm vs tu cl ck sz g0 g1 sx th sm mm sl s8 o H hv hs hz h0 h1)) (.cons (.agg (.cons (.sx _ (.v 0)) (.cons (.sx _ (.v 1)) (.cons (.sx _ (.v 2)) (.cons (.bool _) (.cons (.sx _ (.v 3)) (.cons (.ov 0) (.cons (.sx _ (.v 4)) (.cons (.ov 1) .nil))))))))) (.cons (.agg (.cons (.sx _ (.v 5)) (.cons (.sx _ (.v 6)) (.cons (.bool _) (.cons (.sx _ (.v 7)) .nil))))) .nil)) W (fun b _ => rfl) (Nat.le_refl _)
          | false =>
            letI : Inhabited EnvT := shE W sn ms sc sq lt vm vs tu cl ck sz g0 g1 sx th sm mm sl s8 o A1 n1 k1 A2 n2 k2 shF010 (shF010_ok sn ms sc sq lt vm vs tu cl ck sz g0 g1 sx th sm mm sl s8 o H hv hs hz h0 h1)
            exact lawSymX_calls (Vs := [.agg ⟨[.int .i64 sn, .int .u16 ms, .int .i64 sc, .bool false, .int .u32 sq, .slice A1 n1 k1, .int .u8 lt, .slice A2 n2 k2]⟩, .agg ⟨[.int .u16 vm, .int .i64 vs, .bool false, .int .u32 tu]⟩]) (sh_good W hC sn ms sc sq lt vm vs tu cl ck sz g0 g1 sx th sm mm sl s8 o A1 n1 k1 A2 n2 k2 shF010 (shF010_ok sn ms sc sq lt vm vs tu cl ck sz g0 g1 sx th sm mm sl s8 o H hv hs hz h0 h1) false (.int .i64 (-1)) true true (-1) (by decide) (by decide) rfl (fun _ => .int _ _) H bth.1 bth.2 bo.1 bo.2 hcl his hck hsz hg0 hg1 (fun _ => ⟨by rw [shr40, shr8 H.ck0 H.ck1] at h0; simpa using h0, by rw [shr40, shr8 H.ck0 H.ck1] at h1; simpa using h1⟩)) (shT000110 W sn ms sc sq lt vm vs tu cl ck sz g0 g1 sx th sm mm sl s8 o A1 n1 k1 A2 n2 k2 (shF010_ok sn ms sc sq lt vm vs tu cl ck sz g0 g1 sx th sm mm sl s8 o H hv hs hz h0 h1)) (.cons (.agg (.cons (.sx _ (.v 0)) (.cons (.sx _ (.v 1)) (.cons (.sx _ (.v 2)) (.cons (.bool _) (.cons (.sx _ (.v 3)) (.cons (.ov 0) (.cons (.sx _ (.v 4)) (.cons (.ov 1) .nil))))))))) (.cons (.agg (.cons (.sx _ (.v 5)) (.cons (.sx _ (.v 6)) (.cons (.bool _) (.cons (.sx _ (.v 7)) .nil))))) .nil)) W (fun b _ => rfl) (Nat.le_refl _)
      · have hs : sl < 0 := by omega
        rw [if_neg (by omega)] at hck
        cases h0 : (opI .shr .u64 g0 40 == IntKind.u64.wrap (opI .shr .u32 ck 8)) with
        | true =>
          letI : Inhabited EnvT := shE W sn ms sc sq lt vm vs tu cl ck sz g0 g1 sx th sm mm sl s8 o A1 n1 k1 A2 n2 k2 shF001 (shF001_ok sn ms sc sq lt vm vs tu cl ck sz g0 g1 sx th sm mm sl s8 o H hv hs hz h0)
          exact lawSymX_calls (Vs := [.agg ⟨[.int .i64 sn, .int .u16 ms, .int .i64 sc, .bool false, .int .u32 sq, .slice A1 n1 k1, .int .u8 lt, .slice A2 n2 k2]⟩, .agg ⟨[.int .u16 vm, .int .i64 vs, .bool false, .int .u32 tu]⟩]) (sh_good W hC sn ms sc sq lt vm vs tu cl ck sz g0 g1 sx th sm mm sl s8 o A1 n1 k1 A2 n2 k2 shF001 (shF001_ok sn ms sc sq lt vm vs tu cl ck sz g0 g1 sx th sm mm sl s8 o H hv hs hz h0) false (.int .i64 (-1)) true false (-1) (by decide) (by decide) rfl (fun _ => .int _ _) H bth.1 bth.2 bo.1 bo.2 hcl his hck hsz hg0 hg1 (fun h => by cases h)) (shT000011 W sn ms sc sq lt vm vs tu cl ck sz g0 g1 sx th sm mm sl s8 o A1 n1 k1 A2 n2 k2 (shF001_ok sn ms sc sq lt vm vs tu cl ck sz g0 g1 sx th sm mm sl s8 o H hv hs hz h0)) (.cons (.agg (.cons (.sx _ (.v 0)) (.cons (.sx _ (.v 1)) (.cons (.sx _ (.v 2)) (.cons (.bool _) (.cons (.sx _ (.v 3)) (.cons (.ov 0) (.cons (.sx _ (.v 4)) (.cons (.ov 1) .nil))))))))) (.cons (.agg (.cons (.sx _ (.v 5)) (.cons (.sx _ (.v 6)) (.cons (.bool _) (.cons (.sx _ (.v 7)) .nil))))) .nil)) W (fun b _ => rfl) (Nat.le_refl _)
        | false =>
          cases h1 : (opI .shr .u64 g1 40 == IntKind.u64.wrap (opI .shr .u32 ck 8)) with
          | true =>
            letI : Inhabited EnvT := shE W sn ms sc sq lt vm vs tu cl ck sz g0 g1 sx th sm mm sl s8 o A1 n1 k1 A2 n2 k2 shF002 (shF002_ok sn ms sc sq lt vm vs tu cl ck sz g0 g1 sx th sm mm sl s8 o H hv hs hz h0 h1)
            exact lawSymX_calls (Vs := [.agg ⟨[.int .i64 sn, .int .u16 ms, .int .i64 sc, .bool false, .int .u32 sq, .slice A1 n1 k1, .int .u8 lt, .slice A2 n2 k2]⟩, .agg ⟨[.int .u16 vm, .int .i64 vs, .bool false, .int .u32 tu]⟩]) (sh_good W hC sn ms sc sq lt vm vs tu cl ck sz g0 g1 sx th sm mm sl s8 o A1 n1 k1 A2 n2 k2 shF002 (shF002_ok sn ms sc sq lt vm vs tu cl ck sz g0 g1 sx th sm mm sl s8 o H hv hs hz h0 h1) false (.int .i64 (-1)) true false (-1) (by decide) (by decide) rfl (fun _ => .int _ _) H bth.1 bth.2 bo.1 bo.2 hcl his hck hsz hg0 hg1 (fun h => by cases h)) (shT000012 W sn ms sc sq lt vm vs tu cl ck sz g0 g1 sx th sm mm sl s8 o A1 n1 k1 A2 n2 k2 (shF002_ok sn ms sc sq lt vm vs tu cl ck sz g0 g1 sx th sm mm sl s8 o H hv hs hz h0 h1)) (.cons (.agg (.cons (.sx _ (.v 0)) (.cons (.sx _ (.v 1)) (.cons (.sx _ (.v 2)) (.cons (.bool _) (.cons (.sx _ (.v 3)) (.cons (.ov 0) (.cons (.sx _ (.v 4)) (.cons (.ov 1) .nil))))))))) (.cons (.agg (.cons (.sx _ (.v 5)) (.cons (.sx _ (.v 6)) (.cons (.bool _) (.cons (.sx _ (.v 7)) .nil))))) .nil)) W (fun b _ => rfl) (Nat.le_refl _)
          | false =>
            letI : Inhabited EnvT := shE W sn ms sc sq lt vm vs tu cl ck sz g0 g1 sx th sm mm sl s8 o A1 n1 k1 A2 n2 k2 shF000 (shF000_ok sn ms sc sq lt vm vs tu cl ck sz g0 g1 sx th sm mm sl s8 o H hv hs hz h0 h1)
            exact lawSymX_calls (Vs := [.agg ⟨[.int .i64 sn, .int .u16 ms, .int .i64 sc, .bool false, .int .u32 sq, .slice A1 n1 k1, .int .u8 lt, .slice A2 n2 k2]⟩, .agg ⟨[.int .u16 vm, .int .i64 vs, .bool false, .int .u32 tu]⟩]) (sh_good W hC sn ms sc sq lt vm vs tu cl ck sz g0 g1 sx th sm mm sl s8 o A1 n1 k1 A2 n2 k2 shF000 (shF000_ok sn ms sc sq lt vm vs tu cl ck sz g0 g1 sx th sm mm sl s8 o H hv hs hz h0 h1) false (.int .i64 (-1)) true true (-1) (by decide) (by decide) rfl (fun _ => .int _ _) H bth.1 bth.2 bo.1 bo.2 hcl his hck hsz hg0 hg1 (fun _ => ⟨by rw [shr40, shr8 H.ck0 H.ck1] at h0; simpa using h0, by rw [shr40, shr8 H.ck0 H.ck1] at h1; simpa using h1⟩)) (shT000010 W sn ms sc sq lt vm vs tu cl ck sz g0 g1 sx th sm mm sl s8 o A1 n1 k1 A2 n2 k2 (shF000_ok sn ms sc sq lt vm vs tu cl ck sz g0 g1 sx th sm mm sl s8 o H hv hs hz h0 h1)) (.cons (.agg (.cons (.sx _ (.v 0)) (.cons (.sx _ (.v 1)) (.cons (.sx _ (.v 2)) (.cons (.bool _) (.cons (.sx _ (.v 3)) (.cons (.ov 0) (.cons (.sx _ (.v 4)) (.cons (.ov 1) .nil))))))))) (.cons (.agg (.cons (.sx _ (.v 5)) (.cons (.sx _ (.v 6)) (.cons (.bool _) (.cons (.sx _ (.v 7)) .nil))))) .nil)) W (fun b _ => rfl) (Nat.le_refl _)

set_option maxRecDepth 100000 in
theorem shakes01 (W : World) (hC : CW W) (sn ms sc sq lt vm vs tu : Int) (i0 : -9223372036854775808 ≤ sn ∧ sn ≤ 9223372036854775807) (i1 : 0 ≤ ms ∧ ms ≤ 65535) (i2 : -9223372036854775808 ≤ sc ∧ sc ≤ 9223372036854775807) (i3 : 0 ≤ sq ∧ sq ≤ 4294967295) (i5 : 0 ≤ lt ∧ lt ≤ 255) (i6 : 0 ≤ vm ∧ vm ≤ 65535) (i7 : -9223372036854775808 ≤ vs ∧ vs ≤ 9223372036854775807) (i8 : 0 ≤ tu ∧ tu ≤ 4294967295) (A1 : Option Addr) (n1 k1 : Nat) (A2 : Option Addr) (n2 k2 : Nat) :
    Calls Tryz.prog 3 #[.agg #[.int .i64 sn, .int .u16 ms, .int .i64 sc, .bool false, .int .u32 sq, .slice A1 n1 k1, .int .u8 lt, .slice A2 n2 k2], .agg #[.int .u16 vm, .int .i64 vs, .bool true, .int .u32 tu]] W fun e W' => e = .returned (.bool true) ∧ Below W.heap.size W W' := by
  obtain ⟨cl, hcl⟩ : ∃ cl, clsI vm = cl := ⟨_, rfl⟩
  obtain ⟨sx, hsx⟩ : ∃ sx, IntKind.u8.wrap (min (max vs 0) 14) = sx := ⟨_, rfl⟩
  obtain ⟨th, hth⟩ : ∃ th, IntKind.u64.wrap (1000 + IntKind.u64.wrap (lt.tmod 65)) = th := ⟨_, rfl⟩
  obtain ⟨sm, hsm⟩ : ∃ sm, IntKind.i64.wrap (1 + IntKind.i64.wrap ((IntKind.u64.wrap sn).tmod 2000)) = sm := ⟨_, rfl⟩
  obtain ⟨mm, hmm⟩ : ∃ mm, IntKind.u16.wrap (88 + ms.tmod 1373) = mm := ⟨_, rfl⟩
  obtain ⟨sl, hsl⟩ : ∃ sl, IntKind.i64.wrap (IntKind.i64.wrap ((IntKind.u64.wrap sc).tmod 16) - 1) = sl := ⟨_, rfl⟩
  obtain ⟨s8, hs8⟩ : ∃ s8, IntKind.u8.wrap (min (max sl 0) 14) = s8 := ⟨_, rfl⟩
  obtain ⟨o, ho⟩ : ∃ o, IntKind.u32.wrap (IntKind.u32.wrap (IntKind.u32.wrap (sq + 1) + tu) - 1) = o := ⟨_, rfl⟩
  have bsx : 0 ≤ sx ∧ sx ≤ 14 := by rw [← hsx]; simp only [IntKind.wrap_u8]; omega
  have bth : 1000 ≤ th ∧ th ≤ 1064 := by rw [← hth, tmod_bd 65 i5.1 (by decide)]; simp only [IntKind.wrap_u64]; omega
  have bsm : 1 ≤ sm ∧ sm ≤ 2000 := by
    have hu : 0 ≤ IntKind.u64.wrap sn := by simp only [IntKind.wrap_u64]; omega
    rw [← hsm, tmod_bd 2000 hu (by decide)]
    generalize IntKind.u64.wrap sn = q at *
    simp only [IntKind.wrap_i64]; omega
  have bmm : 88 ≤ mm ∧ mm ≤ 1460 := by rw [← hmm, tmod_bd 1373 i1.1 (by decide)]; simp only [IntKind.wrap_u16]; omega
  have bsl : -1 ≤ sl ∧ sl ≤ 14 := by
    have hu : 0 ≤ IntKind.u64.wrap sc := by simp only [IntKind.wrap_u64]; omega
    rw [← hsl, tmod_bd 16 hu (by decide)]
    generalize IntKind.u64.wrap sc = q at *
    simp only [IntKind.wrap_i64]; omega
  have bs8 : 0 ≤ s8 ∧ s8 ≤ 14 ∧ (0 ≤ sl → s8 = sl) := by rw [← hs8]; simp only [IntKind.wrap_u8]; omega
  have bo : 0 ≤ o ∧ o ≤ 4294967295 := by rw [← ho]; simp only [IntKind.wrap_u32]; omega
  obtain ⟨g0, hg0⟩ : ∃ g, hashOf keyC tupC o (th / 64) = g := ⟨_, rfl⟩
  obtain ⟨g1, hg1⟩ : ∃ g, hashOf keyC tupC o (th / 64 - 1) = g := ⟨_, rfl⟩
  obtain ⟨sz, hsz⟩ : ∃ z, szI cl = z := ⟨_, rfl⟩
  cases his : clsB vm with
  | false =>
    obtain ⟨ck, hck⟩ : ∃ c, makeC keyC tupC sq 1000 ⟨cl, false, if 0 ≤ vs then min sx 14 else -1⟩ = c := ⟨_, rfl⟩
    have hok : (⟨cl, false, if 0 ≤ vs then min sx 14 else -1⟩ : Inf).Ok := ⟨by rw [← hcl]; exact cls_bd vm, by simp only []; split <;> omega⟩
    have hcb := ck_bd (sq := sq) hok
    rw [hck] at hcb
    have H : ShH sn ms sc sq lt vm vs tu cl ck sz g0 g1 sx th sm mm sl s8 o := ⟨i3.1, i3.2, hcb.1, hcb.2, i6.1, i6.2, hth, ho, hsm, hmm, hsl, hsx, hs8, bsm.1, bsm.2, bmm.1, bmm.2, bsl.1, bsl.2, bsx.1, bsx.2, bs8.1, bs8.2.1, bs8.2.2⟩
    by_cases hv : 0 ≤ vs
    · rw [if_pos hv] at hck
      letI : Inhabited EnvT := shE W sn ms sc sq lt vm vs tu cl ck sz g0 g1 sx th sm mm sl s8 o A1 n1 k1 A2 n2 k2 shF1 (shF1_ok sn ms sc sq lt vm vs tu cl ck sz g0 g1 sx th sm mm sl s8 o H hv)
      exact lawSymX_calls (Vs := [.agg ⟨[.int .i64 sn, .int .u16 ms, .int .i64 sc, .bool false, .int .u32 sq, .slice A1 n1 k1, .int .u8 lt, .slice A2 n2 k2]⟩, .agg ⟨[.int .u16 vm, .int .i64 vs, .bool true, .int .u32 tu]⟩]) (sh_good W hC sn ms sc sq lt vm vs tu cl ck sz g0 g1 sx th sm mm sl s8 o A1 n1 k1 A2 n2 k2 shF1 (shF1_ok sn ms sc sq lt vm vs tu cl ck sz g0 g1 sx th sm mm sl s8 o H hv) false (.sx .i64 (.mn (.v 13) (.c 14))) false false (min sx 14) (by omega) (by omega) rfl (fun _ => .sx _ _) H bth.1 bth.2 bo.1 bo.2 hcl his hck hsz hg0 hg1 (fun h => by cases h)) (shT011100 W sn ms sc sq lt vm vs tu cl ck sz g0 g1 sx th sm mm sl s8 o A1 n1 k1 A2 n2 k2 (shF1_ok sn ms sc sq lt vm vs tu cl ck sz g0 g1 sx th sm mm sl s8 o H hv)) (.cons (.agg (.cons (.sx _ (.v 0)) (.cons (.sx _ (.v 1)) (.cons (.sx _ (.v 2)) (.cons (.bool _) (.cons (.sx _ (.v 3)) (.cons (.ov 0) (.cons (.sx _ (.v 4)) (.cons (.ov 1) .nil))))))))) (.cons (.agg (.cons (.sx _ (.v 5)) (.cons (.sx _ (.v 6)) (.cons (.bool _) (.cons (.sx _ (.v 7)) .nil))))) .nil)) W (fun b _ => rfl) (Nat.le_refl _)
    · rw [if_neg hv] at hck
      have hv : vs < 0 := by omega
      letI : Inhabited EnvT := shE W sn ms sc sq lt vm vs tu cl ck sz g0 g1 sx th sm mm sl s8 o A1 n1 k1 A2 n2 k2 shF0 (shF0_ok sn ms sc sq lt vm vs tu cl ck sz g0 g1 sx th sm mm sl s8 o H hv)
      exact lawSymX_calls (Vs := [.agg ⟨[.int .i64 sn, .int .u16 ms, .int .i64 sc, .bool false, .int .u32 sq, .slice A1 n1 k1, .int .u8 lt, .slice A2 n2 k2]⟩, .agg ⟨[.int .u16 vm, .int .i64 vs, .bool true, .int .u32 tu]⟩]) (sh_good W hC sn ms sc sq lt vm vs tu cl ck sz g0 g1 sx th sm mm sl s8 o A1 n1 k1 A2 n2 k2 shF0 (shF0_ok sn ms sc sq lt vm vs tu cl ck sz g0 g1 sx th sm mm sl s8 o H hv) false (.int .i64 (-1)) false false (-1) (by decide) (by decide) rfl (fun _ => .int _ _) H bth.1 bth.2 bo.1 bo.2 hcl his hck hsz hg0 hg1 (fun h => by cases h)) (shT010100 W sn ms sc sq lt vm vs tu cl ck sz g0 g1 sx th sm mm sl s8 o A1 n1 k1 A2 n2 k2 (shF0_ok sn ms sc sq lt vm vs tu cl ck sz g0 g1 sx th sm mm sl s8 o H hv)) (.cons (.agg (.cons (.sx _ (.v 0)) (.cons (.sx _ (.v 1)) (.cons (.sx _ (.v 2)) (.cons (.bool _) (.cons (.sx _ (.v 3)) (.cons (.ov 0) (.cons (.sx _ (.v 4)) (.cons (.ov 1) .nil))))))))) (.cons (.agg (.cons (.sx _ (.v 5)) (.cons (.sx _ (.v 6)) (.cons (.bool _) (.cons (.sx _ (.v 7)) .nil))))) .nil)) W (fun b _ => rfl) (Nat.le_refl _)
  | true =>
    have hz : sz ≤ vm := by rw [← hsz, ← hcl]; exact (sz_le his).1
    obtain ⟨ck, hck⟩ : ∃ c, makeC keyC tupC sq 1000 ⟨cl, false, if 0 ≤ vs ∧ 0 ≤ sl then min sx 14 else -1⟩ = c := ⟨_, rfl⟩
    have hok : (⟨cl, false, if 0 ≤ vs ∧ 0 ≤ sl then min sx 14 else -1⟩ : Inf).Ok := ⟨by rw [← hcl]; exact cls_bd vm, by simp only []; split <;> omega⟩
    have hcb := ck_bd (sq := sq) hok
    rw [hck] at hcb
    have H : ShH sn ms sc sq lt vm vs tu cl ck sz g0 g1 sx th sm mm sl s8 o := ⟨i3.1, i3.2, hcb.1, hcb.2, i6.1, i6.2, hth, ho, hsm, hmm, hsl, hsx, hs8, bsm.1, bsm.2, bmm.1, bmm.2, bsl.1, bsl.2, bsx.1, bsx.2, bs8.1, bs8.2.1, bs8.2.2⟩
    by_cases hv : 0 ≤ vs
    · by_cases hs : 0 ≤ sl
      · skip
        rw [if_pos ⟨hv, hs⟩] at hck
        cases h0 : (opI .shr .u64 g0 40 == IntKind.u64.wrap (opI .shr .u32 ck 8)) with
        | true =>
          letI : Inhabited EnvT := shE W sn ms sc sq lt vm vs tu cl ck sz g0 g1 sx th sm mm sl s8 o A1 n1 k1 A2 n2 k2 shF111 (shF111_ok sn ms sc sq lt vm vs tu cl ck sz g0 g1 sx th sm mm sl s8 o H hv hs hz h0)
          exact lawSymX_calls (Vs := [.agg ⟨[.int .i64 sn, .int .u16 ms, .int .i64 sc, .bool false, .int .u32 sq, .slice A1 n1 k1, .int .u8 lt, .slice A2 n2 k2]⟩, .agg ⟨[.int .u16 vm, .int .i64 vs, .bool true, .int .u32 tu]⟩]) (sh_good W hC sn ms sc sq lt vm vs tu cl ck sz g0 g1 sx th sm mm sl s8 o A1 n1 k1 A2 n2 k2 shF111 (shF111_ok sn ms sc sq lt vm vs tu cl ck sz g0 g1 sx th sm mm sl s8 o H hv hs hz h0) false (.sx .i64 (.mn (.v 13) (.c 14))) true false (min sx 14) (by omega) (by omega) rfl (fun _ => .sx _ _) H bth.1 bth.2 bo.1 bo.2 hcl his hck hsz hg0 hg1 (fun h => by cases h)) (shT011111 W sn ms sc sq lt vm vs tu cl ck sz g0 g1 sx th sm mm sl s8 o A1 n1 k1 A2 n2 k2 (shF111_ok sn ms sc sq lt vm vs tu cl ck sz g0 g1 sx th sm mm sl s8 o H hv hs hz h0)) (.cons (.agg (.cons (.sx _ (.v 0)) (.cons (.sx _ (.v 1)) (.cons (.sx _ (.v 2)) (.cons (.bool _) (.cons (.sx _ (.v 3)) (.cons (.ov 0) (.cons (.sx _ (.v 4)) (.cons (.ov 1) .nil))))))))) (.cons (.agg (.cons (.sx _ (.v 5)) (.cons (.sx _ (.v 6)) (.cons (.bool _) (.cons (.sx _ (.v 7)) .nil))))) .nil)) W (fun b _ => rfl) (Nat.le_refl _)
        | false =>
          cases h1 : (opI .shr .u64 g1 40 == IntKind.u64.wrap (opI .shr .u32 ck 8)) with
          | true =>
            letI : Inhabited EnvT := shE W sn ms sc sq lt vm vs tu cl ck sz g0 g1 sx th sm mm sl s8 o A1 n1 k1 A2 n2 k2 shF112 (shF112_ok sn ms sc sq lt vm vs tu cl ck sz g0 g1 sx th sm mm sl s8 o H hv hs hz h0 h1)
            exact lawSymX_calls (Vs := [.agg ⟨[.int .i64 sn, .int .u16 ms, .int .i64 sc, .bool false, .int .u32 sq, .slice A1 n1 k1, .int .u8 lt, .slice A2 n2 k2]⟩, .agg ⟨[.int .u16 vm, .int .i64 vs, .bool true, .int .u32 tu]⟩]) (sh_good W hC sn ms sc sq lt vm vs tu cl ck sz g0 g1 sx th sm mm sl s8 o A1 n1 k1 A2 n2 k2 shF112 (shF112_ok sn ms sc sq lt vm vs tu cl ck sz g0 g1 sx th sm mm sl s8 o H hv hs hz h0 h1) false (.sx .i64 (.mn (.v 13) (.c 14))) true false (min sx 14) (by omega) (by omega) rfl (fun _ => .sx _ _) H bth.1 bth.2 bo.1 bo.2 hcl his hck hsz hg0 hg1 (fun h => by cases h)) (shT011112 W sn ms sc sq lt vm vs tu cl ck sz g0 g1 sx th sm mm sl s8 o A1 n1 k1 A2 n2 k2 (shF112_ok sn ms sc sq lt vm vs tu cl ck sz g0 g1 sx th sm mm sl s8 o H hv hs hz h0 h1)) (.cons (.agg (.cons (.sx _ (.v 0)) (.cons (.sx _ (.v 1)) (.cons (.sx _ (.v 2)) (.cons (.bool _) (.cons (.sx _ (.v 3)) (.cons (.ov 0) (.cons (.sx _ (.v 4)) (.cons (.ov 1) .nil))))))))) (.cons (.agg (.cons (.sx _ (.v 5)) (.cons (.sx _ (.v 6)) (.cons (.bool _) (.cons (.sx _ (.v 7)) .nil))))) .nil)) W (fun b _ => rfl) (Nat.le_refl _)
          | false =>
            letI : Inhabited EnvT := shE W sn ms sc sq lt vm vs tu cl ck sz g0 g1 sx th sm mm sl s8 o A1 n1 k1 A2 n2 k2 shF110 (shF110_ok sn ms sc sq lt vm vs tu cl ck sz g0 g1 sx th sm mm sl s8 o H hv hs hz h0 h1)
            exact lawSymX_calls (Vs := [.agg ⟨[.int .i64 sn, .int .u16 ms, .int .i64 sc, .bool false, .int .u32 sq, .slice A1 n1 k1, .int .u8 lt, .slice A2 n2 k2]⟩, .agg ⟨[.int .u16 vm, .int .i64 vs, .bool true, .int .u32 tu]⟩]) (sh_good W hC sn ms sc sq lt vm vs tu cl ck sz g0 g1 sx th sm mm sl s8 o A1 n1 k1 A2 n2 k2 shF110 (shF110_ok sn ms sc sq lt vm vs tu cl ck sz g0 g1 sx th sm mm sl s8 o H hv hs hz h0 h1) false (.sx .i64 (.mn (.v 13) (.c 14))) true true (min sx 14) (by omega) (by omega) rfl (fun _ => .sx _ _) H bth.1 bth.2 bo.1 bo.2 hcl his hck hsz hg0 hg1 (fun _ => ⟨by rw [shr40, shr8 H.ck0 H.ck1] at h0; simpa using h0, by rw [shr40, shr8 H.ck0 H.ck1] at h1; simpa using h1⟩)) (shT011110 W sn ms sc sq lt vm vs tu cl ck sz g0 g1 sx th sm mm sl s8 o A1 n1 k1 A2 n2 k2 (shF110_ok sn ms sc sq lt vm vs tu cl ck sz g0 g1 sx th sm mm sl s8 o H hv hs hz h0 h1)) (.cons (.agg (.cons (.sx _ (.v 0)) (.cons (.sx _ (.v 1)) (.cons (.sx _ (.v 2)) (.cons (.bool _) (.cons (.sx _ (.v 3)) (.cons (.ov 0) (.cons (.sx _ (.v 4)) (.cons (.ov 1) .nil))))))))) (.cons (.agg (.cons (.sx _ (.v 5)) (.cons (.sx _ (.v 6)) (.cons (.bool _) (.cons (.sx _ (.v 7)) .nil))))) .nil)) W (fun b _ => rfl) (Nat.le_refl _)
      · have hs : sl < 0 := by omega
        rw [if_neg (by omega)] at hck
        cases h0 : (opI .shr .u64 g0 40 == IntKind.u64.wrap (opI .shr .u32 ck 8)) with
        | true =>
          letI : Inhabited EnvT := shE W sn ms sc sq lt vm vs tu cl ck sz g0 g1 sx th sm mm sl s8 o A1 n1 k1 A2 n2 k2 shF101 (shF101_ok sn ms sc sq lt vm vs tu cl ck sz g0 g1 sx th sm mm sl s8 o H hv hs hz h0)
          exact lawSymX_calls (Vs := [.agg ⟨[.int .i64 sn, .int .u16 ms, .int .i64 sc, .bool false, .int .u32 sq, .slice A1 n1 k1, .int .u8 lt, .slice A2 n2 k2]⟩, .agg ⟨[.int .u16 vm, .int .i64 vs, .bool true, .int .u32 tu]⟩]) (sh_good W hC sn ms sc sq lt vm vs tu cl ck sz g0 g1 sx th sm mm sl s8 o A1 n1 k1 A2 n2 k2 shF101 (shF101_ok sn ms sc sq lt vm vs tu cl ck sz g0 g1 sx th sm mm sl s8 o H hv hs hz h0) false (.int .i64 (-1)) true false (-1) (by decide) (by decide) rfl (fun _ => .int _ _) H bth.1 bth.2 bo.1 bo.2 hcl his hck hsz hg0 hg1 (fun h => by cases h)) (shT011011 W sn ms sc sq lt vm vs tu cl ck sz g0 g1 sx th sm mm sl s8 o A1 n1 k1 A2 n2 k2 (shF101_ok sn ms sc sq lt vm vs tu cl ck sz g0 g1 sx th sm mm sl s8 o H hv hs hz h0)) (.cons (.agg (.cons (.sx _ (.v 0)) (.cons (.sx _ (.v 1)) (.cons (.sx _ (.v 2)) (.cons (.bool _) (.cons (.sx _ (.v 3)) (.cons (.ov 0) (.cons (.sx _ (.v 4)) (.cons (.ov 1) .nil))))))))) (.cons (.agg (.cons (.sx _ (.v 5)) (.cons (.sx _ (.v 6)) (.cons (.bool _) (.cons (.sx _ (.v 7)) .nil))))) .nil)) W (fun b _ => rfl) (Nat.le_refl _)
        | false =>
          cases h1 : (opI .shr .u64 g1 40 == IntKind.u64.wrap (opI .shr .u32 ck 8)) with
          | true =>
            letI : Inhabited EnvT := shE W sn ms sc sq lt vm vs tu cl ck sz g0 g1 sx th sm mm sl s8 o A1 n1 k1 A2 n2 k2 shF102 (shF102_ok sn ms sc sq lt vm vs tu cl ck sz g0 g1 sx th sm mm sl s8 o H hv hs hz h0 h1)
            exact lawSymX_calls (Vs := [.agg ⟨[.int .i64 sn, .int .u16 ms, .int .i64 sc, .bool false, .int .u32 sq, .slice A1 n1 k1, .int .u8 lt, .slice A2 n2 k2]⟩, .agg ⟨[.int .u16 vm, .int .i64 vs, .bool true, .int .u32 tu]⟩]) (sh_good W hC sn ms sc sq lt vm vs tu cl ck sz g0 g1 sx th sm mm sl s8 o A1 n1 k1 A2 n2 k2 shF102 (shF102_ok sn ms sc sq lt vm vs tu cl ck sz g0 g1 sx th sm mm sl s8 o H hv hs hz h0 h1) false (.int .i64 (-1)) true false (-1) (by decide) (by decide) rfl (fun _ => .int _ _) H bth.1 bth.2 bo.1 bo.2 hcl his hck hsz hg0 hg1 (fun h => by cases h)) (shT011012 W sn ms sc sq lt vm vs tu cl ck sz g0 g1 sx th sm mm sl s8 o A1 n1 k1 A2 n2 k2 (shF102_ok sn ms sc sq lt vm vs tu cl ck sz g0 g1 sx th sm mm sl s8 o H hv hs hz h0 h1)) (.cons (.agg (.cons (.sx _ (.v 0)) (.cons (.sx _ (.v 1)) (.cons (.sx _ (.v 2)) (.cons (.bool _) (.cons (.sx _ (.v 3)) (.cons (.ov 0) (.cons (.sx _ (.v 4)) (.cons (.ov 1) .nil))))))))) (.cons (.agg (.cons (.sx _ (.v 5)) (.cons (.sx _ (.v 6)) (.cons (.bool _) (.cons (.sx _ (.v 7)) .nil))))) .nil)) W (fun b _ => rfl) (Nat.le_refl _)
          | false =>
            letI : Inhabited EnvT := shE W sn ms sc sq lt vm vs tu cl ck sz g0 g1 sx th sm mm sl s8 o A1 n1 k1 A2 n2 k2 shF100 (shF100_ok sn ms sc sq lt vm vs tu cl ck sz g0 g1 sx th sm mm sl s8 o H hv hs hz h0 h1)
            exact lawSymX_calls (Vs := [.agg ⟨[.int .i64 sn, .int .u16 ms, .int .i64 sc, .bool false, .int .u32 sq, .slice A1 n1 k1, .int .u8 lt, .slice A2 n2 k2]⟩, .agg ⟨[.int .u16 vm, .int .i64 vs, .bool true, .int .u32 tu]⟩]) (sh_good W hC sn ms sc sq lt vm vs tu cl ck sz g0 g1 sx th sm mm sl s8 o A1 n1 k1 A2 n2 k2 shF100 (shF100_ok sn ms sc sq lt vm vs tu cl ck sz g0 g1 sx th sm mm sl s8 o H hv hs hz h0 h1) false (.int .i64 (-1)) true true (-1) (by decide) (by decide) rfl (fun _ => .int _ _) H bth.1 bth.2 bo.1 bo.2 hcl his hck hsz hg0 hg1 (fun _ => ⟨by rw [shr40, shr8 H.ck0 H.ck1] at h0; simpa using h0, by rw [shr40, shr8 H.ck0 H.ck1] at h1; simpa using h1⟩)) (shT011010 W sn ms sc sq lt vm vs tu cl ck sz g0 g1 sx th sm mm sl s8 o A1 n1 k1 A2 n2 k2 (shF100_ok sn ms sc sq lt vm vs tu cl ck sz g0 g1 sx th sm mm sl s8 o H hv hs hz h0 h1)) (.cons (.agg (.cons (.sx _ (.v 0)) (.cons (.sx _ (.v 1)) (.cons (.sx _ (.v 2)) (.cons (.bool _) (.cons (.sx _ (.v 3)) (.cons (.ov 0) (.cons (.sx _ (.v 4)) (.cons (.ov 1) .nil))))))))) (.cons (.agg (.cons (.sx _ (.v 5)) (.cons (.sx _ (.v 6)) (.cons (.bool _) (.cons (.sx _ (.v 7)) .nil))))) .nil)) W (fun b _ => rfl) (Nat.le_refl _)
    · have hv : vs < 0 := by omega
      by_cases hs : 0 ≤ sl
      · skip
        rw [if_neg (by omega)] at hck
        cases h0 : (opI .shr .u64 g0 40 == IntKind.u64.wrap (opI .shr .u32 ck 8)) with
        | true =>
          letI : Inhabited EnvT := shE W sn ms sc sq lt vm vs tu cl ck sz g0 g1 sx th sm mm sl s8 o A1 n1 k1 A2 n2 k2 shF011 (shF011_ok sn ms sc sq lt vm vs tu cl ck sz g0 g1 sx th sm mm sl s8 o H hv hs hz h0)
          exact lawSymX_calls (Vs := [.agg ⟨[.int .i64 sn, .int .u16 ms, .int .i64 sc, .bool false, .int .u32 sq, .slice A1 n1 k1, .int .u8 lt, .slice A2 n2 k2]⟩, .agg ⟨[.int .u16 vm, .int .i64 vs, .bool true, .int .u32 tu]⟩]) (sh_good W hC sn ms sc sq lt vm vs tu cl ck sz g0 g1 sx th sm mm sl s8 o A1 n1 k1 A2 n2 k2 shF011 (shF011_ok sn ms sc sq lt vm vs tu cl ck sz g0 g1 sx th sm mm sl s8 o H hv hs hz h0) false (.int .i64 (-1)) true false (-1) (by decide) (by decide) rfl (fun _ => .int _ _) H bth.1 bth.2 bo.1 bo.2 hcl his hck hsz hg0 hg1 (fun h => by cases h)) (shT010111 W sn ms sc sq lt vm vs tu cl ck sz g0 g1 sx th sm mm sl s8 o A1 n1 k1 A2 n2 k2 (shF011_ok sn ms sc sq lt vm vs tu cl ck sz g0 g1 sx th sm mm sl s8 o H hv hs hz h0)) (.cons (.agg (.cons (.sx _ (.v 0)) (.cons (.sx _ (.v 1)) (.cons (.sx _ (.v 2)) (.cons (.bool _) (.cons (.sx _ (.v 3)) (.cons (.ov 0) (.cons (.sx _ (.v 4)) (.cons (.ov 1) .nil))))))))) (.cons (.agg (.cons (.sx _ (.v 5)) (.cons (.sx _ (.v 6)) (.cons (.bool _) (.cons (.sx _ (.v 7)) .nil))))) .nil)) W (fun b _ => rfl) (Nat.le_refl _)
        | false =>
          cases h1 : (opI .shr .u64 g1 40 == IntKind.u64.wrap (opI .shr .u32 ck 8)) with
          | true =>
            letI : Inhabited EnvT := shE W sn ms sc sq lt vm vs tu cl ck sz g0 g1 sx th sm mm sl s8 o A1 n1 k1 A2 n2 k2 shF012 (shF012_ok sn ms sc sq lt vm vs tu cl ck sz g0 g1 sx th sm mm sl s8 o H hv hs hz h0 h1)
            exact lawSymX_calls (Vs := [.agg ⟨[.int .i64 sn, .int .u16 ms, .int .i64 sc, .bool false, .int .u32 sq, .slice A1 n1 k1, .int .u8 lt, .slice A2 n2 k2]⟩, .agg ⟨[.int .u16 vm, .int .i64 vs, .bool true, .int .u32 tu]⟩]) (sh_good W hC sn ms sc sq lt vm vs tu cl ck sz g0 g1 sx th sm mm sl s8 o A1 n1 k1 A2 n2 k2 shF012 (shF012_ok sn ms sc sq lt vm vs tu cl ck sz g0 g1 sx th sm mm sl s8 o H hv hs hz h0 h1) false (.int .i64 (-1)) true false (-1) (by decide) (by decide) rfl (fun _ => .int _ _) H bth.1 bth.2 bo.1 bo.2 hcl his hck hsz hg0 hg1 (fun h => by cases h)) (shT010112 W sn ms sc sq lt vm vs tu cl ck sz g0 g1 sx th sm mm sl s8 o A1 n1 k1 A2 n2 k2 (shF012_ok sn ms sc sq lt vm vs tu cl ck sz g0 g1 sx th sm mm sl s8 o H hv hs hz h0 h1)) (.cons (.agg (.cons (.sx _ (.v 0)) (.cons (.sx _ (.v 1)) (.cons (.sx _ (.v 2)) (.cons (.bool _) (.cons (.sx _ (.v 3)) (.cons (.ov 0) (.cons (.sx _ (.v 4)) (.cons (.ov 1) .nil))))))))) (.cons (.agg (.cons (.sx _ (.v 5)) (.cons (.sx _ (.v 6)) (.cons (.bool _) (.cons (.sx _ (.v 7)) .nil))))) .nil)) W (fun b _ => rfl) (Nat.le_refl _)
          | false =>
            letI : Inhabited EnvT := shE W sn ms sc sq lt vm vs tu cl ck sz g0 g1 sx th sm mm sl s8 o A1 n1 k1 A2 n2 k2 shF010 (shF010_ok sn ms sc sq lt vm vs tu cl ck sz g0 g1 sx th sm mm sl s8 o H hv hs hz h0 h1)
            exact lawSymX_calls (Vs := [.agg ⟨[.int .i64 sn, .int .u16 ms, .int .i64 sc, .bool false, .int .u32 sq, .slice A1 n1 k1, .int .u8 lt, .slice A2 n2 k2]⟩, .agg ⟨[.int .u16 vm, .int .i64 vs, .bool true, .int .u32 tu]⟩]) (sh_good W hC sn ms sc sq lt vm vs tu cl ck sz g0 g1 sx th sm mm sl s8 o A1 n1 k1 A2 n2 k2 shF010 (shF010_ok sn ms sc sq lt vm vs tu cl ck sz g0 g1 sx th sm mm sl s8 o H hv hs hz h0 h1) false (.int .i64 (-1)) true true (-1) (by decide) (by decide) rfl (fun _ => .int _ _) H bth.1 bth.2 bo.1 bo.2 hcl his hck hsz hg0 hg1 (fun _ => ⟨by rw [shr40, shr8 H.ck0 H.ck1] at h0; simpa using h0, by rw [shr40, shr8 H.ck0 H.ck1] at h1; simpa using h1⟩)) (shT010110 W sn ms sc sq lt vm vs tu cl ck sz g0 g1 sx th sm mm sl s8 o A1 n1 k1 A2 n2 k2 (shF010_ok sn ms sc sq lt vm vs tu cl ck sz g0 g1 sx th sm mm sl s8 o H hv hs hz h0 h1)) (.cons (.agg (.cons (.sx _ (.v 0)) (.cons (.sx _ (.v 1)) (.cons (.sx _ (.v 2)) (.cons (.bool _) (.cons (.sx _ (.v 3)) (.cons (.ov 0) (.cons (.sx _ (.v 4)) (.cons (.ov 1) .nil))))))))) (.cons (.agg (.cons (.sx _ (.v 5)) (.cons (.sx _ (.v 6)) (.cons (.bool _) (.cons (.sx _ (.v 7)) .nil))))) .nil)) W (fun b _ => rfl) (Nat.le_refl _)
      · have hs : sl < 0 := by omega
        rw [if_neg (by omega)] at hck
        cases h0 : (opI .shr .u64 g0 40 == IntKind.u64.wrap (opI .shr .u32 ck 8)) with
        | true =>
          letI : Inhabited EnvT := shE W sn ms sc sq lt vm vs tu cl ck sz g0 g1 sx th sm mm sl s8 o A1 n1 k1 A2 n2 k2 shF001 (shF001_ok sn ms sc sq lt vm vs tu cl ck sz g0 g1 sx th sm mm sl s8 o H hv hs hz h0)
          exact lawSymX_calls (Vs := [.agg ⟨[.int .i64 sn, .int .u16 ms, .int .i64 sc, .bool false, .int .u32 sq, .slice A1 n1 k1, .int .u8 lt, .slice A2 n2 k2]⟩, .agg ⟨[.int .u16 vm, .int .i64 vs, .bool true, .int .u32 tu]⟩]) (sh_good W hC sn ms sc sq lt vm vs tu cl ck sz g0 g1 sx th sm mm sl s8 o A1 n1 k1 A2 n2 k2 shF001 (shF001_ok sn ms sc sq lt vm vs tu cl ck sz g0 g1 sx th sm mm sl s8 o H hv hs hz h0) false (.int .i64 (-1)) true false (-1) (by decide) (by decide) rfl (fun _ => .int _ _) H bth.1 bth.2 bo.1 bo.2 hcl his hck hsz hg0 hg1 (fun h => by cases h)) (shT010011 W sn ms sc sq lt vm vs tu cl ck sz g0 g1 sx th sm mm sl s8 o A1 n1 k1 A2 n2 k2 (shF001_ok sn ms sc sq lt vm vs tu cl ck sz g0 g1 sx th sm mm sl s8 o H hv hs hz h0)) (.cons (.agg (.cons (.sx _ (.v 0)) (.cons (.sx _ (.v 1)) (.cons (.sx _ (.v 2)) (.cons (.bool _) (.cons (.sx _ (.v 3)) (.cons (.ov 0) (.cons (.sx _ (.v 4)) (.cons (.ov 1) .nil))))))))) (.cons (.agg (.cons (.sx _ (.v 5)) (.cons (.sx _ (.v 6)) (.cons (.bool _) (.cons (.sx _ (.v 7)) .nil))))) .nil)) W (fun b _ => rfl) (Nat.le_refl _)
        | false =>
          cases h1 : (opI .shr .u64 g1 40 == IntKind.u64.wrap (opI .shr .u32 ck 8)) with
          | true =>
            letI : Inhabited EnvT := shE W sn ms sc sq lt vm vs tu cl ck sz g0 g1 sx th sm mm sl s8 o A1 n1 k1 A2 n2 k2 shF002 (shF002_ok sn ms sc sq lt vm vs tu cl ck sz g0 g1 sx th sm mm sl s8 o H hv hs hz h0 h1)
            exact lawSymX_calls (Vs := [.agg ⟨[.int .i64 sn, .int .u16 ms, .int .i64 sc, .bool false, .int .u32 sq, .slice A1 n1 k1, .int .u8 lt, .slice A2 n2 k2]⟩, .agg ⟨[.int .u16 vm, .int .i64 vs, .bool true, .int .u32 tu]⟩]) (sh_good W hC sn ms sc sq lt vm vs tu cl ck sz g0 g1 sx th sm mm sl s8 o A1 n1 k1 A2 n2 k2 shF002 (shF002_ok sn ms sc sq lt vm vs tu cl ck sz g0 g1 sx th sm mm sl s8 o H hv hs hz h0 h1) false (.int .i64 (-1)) true false (-1) (by decide) (by decide) rfl (fun _ => .int _ _) H bth.1 bth.2 bo.1 bo.2 hcl his hck hsz hg0 hg1 (fun h => by cases h)) (shT010012 W sn ms sc sq lt vm vs tu cl ck sz g0 g1 sx th sm mm sl s8 o A1 n1 k1 A2 n2 k2 (shF002_ok sn ms sc sq lt vm vs tu cl ck sz g0 g1 sx th sm mm sl s8 o H hv hs hz h0 h1)) (.cons (.agg (.cons (.sx _ (.v 0)) (.cons (.sx _ (.v 1)) (.cons (.sx _ (.v 2)) (.cons (.bool _) (.cons (.sx _ (.v 3)) (.cons (.ov 0) (.cons (.sx _ (.v 4)) (.cons (.ov 1) .nil))))))))) (.cons (.agg (.cons (.sx _ (.v 5)) (.cons (.sx _ (.v 6)) (.cons (.bool _) (.cons (.sx _ (.v 7)) .nil))))) .nil)) W (fun b _ => rfl) (Nat.le_refl _)
          | false =>
            letI : Inhabited EnvT := shE W sn ms sc sq lt vm vs tu cl ck sz g0 g1 sx th sm mm sl s8 o A1 n1 k1 A2 n2 k2 shF000 (shF000_ok sn ms sc sq lt vm vs tu cl ck sz g0 g1 sx th sm mm sl s8 o H hv hs hz h0 h1)
            exact lawSymX_calls (Vs := [.agg ⟨[.int .i64 sn, .int .u16 ms, .int .i64 sc, .bool false, .int .u32 sq, .slice A1 n1 k1, .int .u8 lt, .slice A2 n2 k2]⟩, .agg ⟨[.int .u16 vm, .int .i64 vs, .bool true, .int .u32 tu]⟩]) (sh_good W hC sn ms sc sq lt vm vs tu cl ck sz g0 g1 sx th sm mm sl s8 o A1 n1 k1 A2 n2 k2 shF000 (shF000_ok sn ms sc sq lt vm vs tu cl ck sz g0 g1 sx th sm mm sl s8 o H hv hs hz h0 h1) false (.int .i64 (-1)) true true (-1) (by decide) (by decide) rfl (fun _ => .int _ _) H bth.1 bth.2 bo.1 bo.2 hcl his hck hsz hg0 hg1 (fun _ => ⟨by rw [shr40, shr8 H.ck0 H.ck1] at h0; simpa using h0, by rw [shr40, shr8 H.ck0 H.ck1] at h1; simpa using h1⟩)) (shT010010 W sn ms sc sq lt vm vs tu cl ck sz g0 g1 sx th sm mm sl s8 o A1 n1 k1 A2 n2 k2 (shF000_ok sn ms sc sq lt vm vs tu cl ck sz g0 g1 sx th sm mm sl s8 o H hv hs hz h0 h1)) (.cons (.agg (.cons (.sx _ (.v 0)) (.cons (.sx _ (.v 1)) (.cons (.sx _ (.v 2)) (.cons (.bool _) (.cons (.sx _ (.v 3)) (.cons (.ov 0) (.cons (.sx _ (.v 4)) (.cons (.ov 1) .nil))))))))) (.cons (.agg (.cons (.sx _ (.v 5)) (.cons (.sx _ (.v 6)) (.cons (.bool _) (.cons (.sx _ (.v 7)) .nil))))) .nil)) W (fun b _ => rfl) (Nat.le_refl _)

set_option maxRecDepth 100000 in
theorem shakes10 (W : World) (hC : CW W) (sn ms sc sq lt vm vs tu : Int) (i0 : -9223372036854775808 ≤ sn ∧ sn ≤ 9223372036854775807) (i1 : 0 ≤ ms ∧ ms ≤ 65535) (i2 : -9223372036854775808 ≤ sc ∧ sc ≤ 9223372036854775807) (i3 : 0 ≤ sq ∧ sq ≤ 4294967295) (i5 : 0 ≤ lt ∧ lt ≤ 255) (i6 : 0 ≤ vm ∧ vm ≤ 65535) (i7 : -9223372036854775808 ≤ vs ∧ vs ≤ 9223372036854775807) (i8 : 0 ≤ tu ∧ tu ≤ 4294967295) (A1 : Option Addr) (n1 k1 : Nat) (A2 : Option Addr) (n2 k2 : Nat) :
    Calls Tryz.prog 3 #[.agg #[.int .i64 sn, .int .u16 ms, .int .i64 sc, .bool true, .int .u32 sq, .slice A1 n1 k1, .int .u8 lt, .slice A2 n2 k2], .agg #[.int .u16 vm, .int .i64 vs, .bool false, .int .u32 tu]] W fun e W' => e = .returned (.bool true) ∧ Below W.heap.size W W' := by
  obtain ⟨cl, hcl⟩ : ∃ cl, clsI vm = cl := ⟨_, rfl⟩
  obtain ⟨sx, hsx⟩ : ∃ sx, IntKind.u8.wrap (min (max vs 0) 14) = sx := ⟨_, rfl⟩
  obtain ⟨th, hth⟩ : ∃ th, IntKind.u64.wrap (1000 + IntKind.u64.wrap (lt.tmod 65)) = th := ⟨_, rfl⟩
  obtain ⟨sm, hsm⟩ : ∃ sm, IntKind.i64.wrap (1 + IntKind.i64.wrap ((IntKind.u64.wrap sn).tmod 2000)) = sm := ⟨_, rfl⟩
  obtain ⟨mm, hmm⟩ : ∃ mm, IntKind.u16.wrap (88 + ms.tmod 1373) = mm := ⟨_, rfl⟩
  obtain ⟨sl, hsl⟩ : ∃ sl, IntKind.i64.wrap (IntKind.i64.wrap ((IntKind.u64.wrap sc).tmod 16) - 1) = sl := ⟨_, rfl⟩
  obtain ⟨s8, hs8⟩ : ∃ s8, IntKind.u8.wrap (min (max sl 0) 14) = s8 := ⟨_, rfl⟩
  obtain ⟨o, ho⟩ : ∃ o, IntKind.u32.wrap (IntKind.u32.wrap (IntKind.u32.wrap (sq + 1) + tu) - 1) = o := ⟨_, rfl⟩
  have bsx : 0 ≤ sx ∧ sx ≤ 14 := by rw [← hsx]; simp only [IntKind.wrap_u8]; omega
  have bth : 1000 ≤ th ∧ th ≤ 1064 := by rw [← hth, tmod_bd 65 i5.1 (by decide)]; simp only [IntKind.wrap_u64]; omega
  have bsm : 1 ≤ sm ∧ sm ≤ 2000 := by
    have hu : 0 ≤ IntKind.u64.wrap sn := by simp only [IntKind.wrap_u64]; omega
    rw [← hsm, tmod_bd 2000 hu (by decide)]
    generalize IntKind.u64.wrap sn = q at *
    simp only [IntKind.wrap_i64]; omega
  have bmm : 88 ≤ mm ∧ mm ≤ 1460 := by rw [← hmm, tmod_bd 1373 i1.1 (by decide)]; simp only [IntKind.wrap_u16]; omega
  have bsl : -1 ≤ sl ∧ sl ≤ 14 := by
    have hu : 0 ≤ IntKind.u64.wrap sc := by simp only [IntKind.wrap_u64]; omega
    rw [← hsl, tmod_bd 16 hu (by decide)]
    generalize IntKind.u64.wrap sc = q at *
    simp only [IntKind.wrap_i64]; omega
  have bs8 : 0 ≤ s8 ∧ s8 ≤ 14 ∧ (0 ≤ sl → s8 = sl) := by rw [← hs8]; simp only [IntKind.wrap_u8]; omega
  have bo : 0 ≤ o ∧ o ≤ 4294967295 := by rw [← ho]; simp only [IntKind.wrap_u32]; omega
  obtain ⟨g0, hg0⟩ : ∃ g, hashOf keyC tupC o (th / 64) = g := ⟨_, rfl⟩
  obtain ⟨g1, hg1⟩ : ∃ g, hashOf keyC tupC o (th / 64 - 1) = g := ⟨_, rfl⟩
  obtain ⟨sz, hsz⟩ : ∃ z, szI cl = z := ⟨_, rfl⟩
  cases his : clsB vm with
  | false =>
    obtain ⟨ck, hck⟩ : ∃ c, makeC keyC tupC sq 1000 ⟨cl, false, if 0 ≤ vs then min sx 14 else -1⟩ = c := ⟨_, rfl⟩
    have hok : (⟨cl, false, if 0 ≤ vs then min sx 14 else -1⟩ : Inf).Ok := ⟨by rw [← hcl]; exact cls_bd vm, by simp only []; split <;> omega⟩
    have hcb := ck_bd (sq := sq) hok
    rw [hck] at hcb
    have H : ShH sn ms sc sq lt vm vs tu cl ck sz g0 g1 sx th sm mm sl s8 o := ⟨i3.1, i3.2, hcb.1, hcb.2, i6.1, i6.2, hth, ho, hsm, hmm, hsl, hsx, hs8, bsm.1, bsm.2, bmm.1, bmm.2, bsl.1, bsl.2, bsx.1, bsx.2, bs8.1, bs8.2.1, bs8.2.2⟩
    by_cases hv : 0 ≤ vs
    · rw [if_pos hv] at hck
      letI : Inhabited EnvT := shE W sn ms sc sq lt vm vs tu cl ck sz g0 g1 sx th sm mm sl s8 o A1 n1 k1 A2 n2 k2 shF1 (shF1_ok sn ms sc sq lt vm vs tu cl ck sz g0 g1 sx th sm mm sl s8 o H hv)
      exact lawSymX_calls (Vs := [.agg ⟨[.int .i64 sn, .int .u16 ms, .int .i64 sc, .bool true, .int .u32 sq, .slice A1 n1 k1, .int .u8 lt, .slice A2 n2 k2]⟩, .agg ⟨[.int .u16 vm, .int .i64 vs, .bool false, .int .u32 tu]⟩]) (sh_good W hC sn ms sc sq lt vm vs tu cl ck sz g0 g1 sx th sm mm sl s8 o A1 n1 k1 A2 n2 k2 shF1 (shF1_ok sn ms sc sq lt vm vs tu cl ck sz g0 g1 sx th sm mm sl s8 o H hv) false (.sx .i64 (.mn (.v 13) (.c 14))) false false (min sx 14) (by omega) (by omega) rfl (fun _ => .sx _ _) H bth.1 bth.2 bo.1 bo.2 hcl his hck hsz hg0 hg1 (fun h => by cases h)) (shT101100 W sn ms sc sq lt vm vs tu cl ck sz g0 g1 sx th sm mm sl s8 o A1 n1 k1 A2 n2 k2 (shF1_ok sn ms sc sq lt vm vs tu cl ck sz g0 g1 sx th sm mm sl s8 o H hv)) (.cons (.agg (.cons (.sx _ (.v 0)) (.cons (.sx _ (.v 1)) (.cons (.sx _ (.v 2)) (.cons (.bool _) (.cons (.sx _ (.v 3)) (.cons (.ov 0) (.cons (.sx _ (.v 4)) (.cons (.ov 1) .nil))))))))) (.cons (.agg (.cons (.sx _ (.v 5)) (.cons (.sx _ (.v 6)) (.cons (.bool _) (.cons (.sx _ (.v 7)) .nil))))) .nil)) W (fun b _ => rfl) (Nat.le_refl _)
    · rw [if_neg hv] at hck
      have hv : vs < 0 := by omega
      letI : Inhabited EnvT := shE W sn ms sc sq lt vm vs tu cl ck sz g0 g1 sx th sm mm sl s8 o A1 n1 k1 A2 n2 k2 shF0 (shF0_ok sn ms sc sq lt vm vs tu cl ck sz g0 g1 sx th sm mm sl s8 o H hv)
      exact lawSymX_calls (Vs := [.agg ⟨[.int .i64 sn, .int .u16 ms, .int .i64 sc, .bool true, .int .u32 sq, .slice A1 n1 k1, .int .u8 lt, .slice A2 n2 k2]⟩, .agg ⟨[.int .u16 vm, .int .i64 vs, .bool false, .int .u32 tu]⟩]) (sh_good W hC sn ms sc sq lt vm vs tu cl ck sz g0 g1 sx th sm mm sl s8 o A1 n1 k1 A2 n2 k2 shF0 (shF0_ok sn ms sc sq lt vm vs tu cl ck sz g0 g1 sx th sm mm sl s8 o H hv) false (.int .i64 (-1)) false false (-1) (by decide) (by decide) rfl (fun _ => .int _ _) H bth.1 bth.2 bo.1 bo.2 hcl his hck hsz hg0 hg1 (fun h => by cases h)) (shT100100 W sn ms sc sq lt vm vs tu cl ck sz g0 g1 sx th sm mm sl s8 o A1 n1 k1 A2 n2 k2 (shF0_ok sn ms sc sq lt vm vs tu cl ck sz g0 g1 sx th sm mm sl s8 o H hv)) (.cons (.agg (.cons (.sx _ (.v 0)) (.cons (.sx _ (.v 1)) (.cons (.sx _ (.v 2)) (.cons (.bool _) (.cons (.sx _ (.v 3)) (.cons (.ov 0) (.cons (.sx _ (.v 4)) (.cons (.ov 1) .nil))))))))) (.cons (.agg (.cons (.sx _ (.v 5)) (.cons (.sx _ (.v 6)) (.cons (.bool _) (.cons (.sx _ (.v 7)) .nil))))) .nil)) W (fun b _ => rfl) (Nat.le_refl _)
  | true =>
    have hz : sz ≤ vm := by rw [← hsz, ← hcl]; exact (sz_le his).1
    obtain ⟨ck, hck⟩ : ∃ c, makeC keyC tupC sq 1000 ⟨cl, false, if 0 ≤ vs ∧ 0 ≤ sl then min sx 14 else -1⟩ = c := ⟨_, rfl⟩
    have hok : (⟨cl, false, if 0 ≤ vs ∧ 0 ≤ sl then min sx 14 else -1⟩ : Inf).Ok := ⟨by rw [← hcl]; exact cls_bd vm, by simp only []; split <;> omega⟩
    have hcb := ck_bd (sq := sq) hok
    rw [hck] at hcb
    have H : ShH sn ms sc sq lt vm vs tu cl ck sz g0 g1 sx th sm mm sl s8 o := ⟨i3.1, i3.2, hcb.1, hcb.2, i6.1, i6.2, hth, ho, hsm, hmm, hsl, hsx, hs8, bsm.1, bsm.2, bmm.1, bmm.2, bsl.1, bsl.2, bsx.1, bsx.2, bs8.1, bs8.2.1, bs8.2.2⟩
    by_cases hv : 0 ≤ vs
    · by_cases hs : 0 ≤ sl
      · skip
        rw [if_pos ⟨hv, hs⟩] at hck
        cases h0 : (opI .shr .u64 g0 40 == IntKind.u64.wrap (opI .shr .u32 ck 8)) with
        | true =>
          letI : Inhabited EnvT := shE W sn ms sc sq lt vm vs tu cl ck sz g0 g1 sx th sm mm sl s8 o A1 n1 k1 A2 n2 k2 shF111 (shF111_ok sn ms sc sq lt vm vs tu cl ck sz g0 g1 sx th sm mm sl s8 o H hv hs hz h0)
          exact lawSymX_calls (Vs := [.agg ⟨[.int .i64 sn, .int .u16 ms, .int .i64 sc, .bool true, .int .u32 sq, .slice A1 n1 k1, .int .u8 lt, .slice A2 n2 k2]⟩, .agg ⟨[.int .u16 vm, .int .i64 vs, .bool false, .int .u32 tu]⟩]) (sh_good W hC sn ms sc sq lt vm vs tu cl ck sz g0 g1 sx th sm mm sl s8 o A1 n1 k1 A2 n2 k2 shF111 (shF111_ok sn ms sc sq lt vm vs tu cl ck sz g0 g1 sx th sm mm sl s8 o H hv hs hz h0) false (.sx .i64 (.mn (.v 13) (.c 14))) true false (min sx 14) (by omega) (by omega) rfl (fun _ => .sx _ _) H bth.1 bth.2 bo.1 bo.2 hcl his hck hsz hg0 hg1 (fun h => by cases h)) (shT101111 W sn ms sc sq lt vm vs tu cl ck sz g0 g1 sx th sm mm sl s8 o A1 n1 k1 A2 n2 k2 (shF111_ok sn ms sc sq lt vm vs tu cl ck sz g0 g1 sx th sm mm sl s8 o H hv hs hz h0)) (.cons (.agg (.cons (.sx _ (.v 0)) (.cons (.sx _ (.v 1)) (.cons (.sx _ (.v 2)) (.cons (.bool _) (.cons (.sx _ (.v 3)) (.cons (.ov 0) (.cons (.sx _ (.v 4)) (.cons (.ov 1) .nil))))))))) (.cons (.agg (.cons (.sx _ (.v 5)) (.cons (.sx _ (.v 6)) (.cons (.bool _) (.cons (.sx _ (.v 7)) .nil))))) .nil)) W (fun b _ => rfl) (Nat.le_refl _)
        | false =>
          cases h1 : (opI .shr .u64 g1 40 == IntKind.u64.wrap (opI .shr .u32 ck 8)) with
          | true =>
            letI : Inhabited EnvT := shE W sn ms sc sq lt vm vs tu cl ck sz g0 g1 sx th sm mm sl s8 o A1 n1 k1 A2 n2 k2 shF112 (shF112_ok sn ms sc sq lt vm vs tu cl ck sz g0 g1 sx th sm mm sl s8 o H hv hs hz h0 h1)
            exact lawSymX_calls (Vs := [.agg ⟨[.int .i64 sn, .int .u16 ms, .int .i64 sc, .bool true, .int .u32 sq, .slice A1 n1 k1, .int .u8 lt, .slice A2 n2 k2]⟩, .agg ⟨[.int .u16 vm, .int .i64 vs, .bool false, .int .u32 tu]⟩]) (sh_good W hC sn ms sc sq lt vm vs tu cl ck sz g0 g1 sx th sm mm sl s8 o A1 n1 k1 A2 n2 k2 shF112 (shF112_ok sn ms sc sq lt vm vs tu cl ck sz g0 g1 sx th sm mm sl s8 o H hv hs hz h0 h1) false (.sx .i64 (.mn (.v 13) (.c 14))) true false (min sx 14) (by omega) (by omega) rfl (fun _ => .sx _ _) H bth.1 bth.2 bo.1 bo.2 hcl his hck hsz hg0 hg1 (fun h => by cases h)) (shT101112 W sn ms sc sq lt vm vs tu cl ck sz g0 g1 sx th sm mm sl s8 o A1 n1 k1 A2 n2 k2 (shF112_ok sn ms sc sq lt vm vs tu cl ck sz g0 g1 sx th sm mm sl s8 o H hv hs hz h0 h1)) (.cons (.agg (.cons (.sx _ (.v 0)) (.cons (.sx _ (.v 1)) (.cons (.sx _ (.v 2)) (.cons (.bool _) (.cons (.sx _ (.v 3)) (.cons (.ov 0) (.cons (.sx _ (.v 4)) (.cons (.ov 1) .nil))))))))) (.cons (.agg (.cons (.sx _ (.v 5)) (.cons (.sx _ (.v 6)) (.cons (.bool _) (.cons (.sx _ (.v 7)) .nil))))) .nil)) W (fun b _ => rfl) (Nat.le_refl _)
          | false =>
            letI : Inhabited EnvT := shE W sn ms sc sq lt vm vs tu cl ck sz g0 g1 sx th sm mm sl s8 o A1 n1 k1 A2 n2 k2 shF110 (shF110_ok sn ms sc sq lt vm vs tu cl ck sz g0 g1 sx th sm mm sl s8 o H hv hs hz h0 h1)
            exact lawSymX_calls (Vs := [.agg ⟨[.int .i64 sn, .int .u16 ms, .int .i64 sc, .bool true, .int .u32 sq, .slice A1 n1 k1, .int .u8 lt, .slice A2 n2 k2]⟩, .agg ⟨[.int .u16 vm, .int .i64 vs, .bool false, .int .u32 tu]⟩]) (sh_good W hC sn ms sc sq lt vm vs tu cl ck sz g0 g1 sx th sm mm sl s8 o A1 n1 k1 A2 n2 k2 shF110 (shF110_ok sn ms sc sq lt vm vs tu cl ck sz g0 g1 sx th sm mm sl s8 o H hv hs hz h0 h1) false (.sx .i64 (.mn (.v 13) (.c 14))) true true (min sx 14) (by omega) (by omega) rfl (fun _ => .sx _ _) H bth.1 bth.2 bo.1 bo.2 hcl his hck hsz hg0 hg1 (fun _ => ⟨by rw [shr40, shr8 H.ck0 H.ck1] at h0; simpa using h0, by rw [shr40, shr8 H.ck0 H.ck1] at h1; simpa using h1⟩)) (shT101110 W sn ms sc sq lt vm vs tu cl ck sz g0 g1 sx th sm mm sl s8 o A1 n1 k1 A2 n2 k2 (shF110_ok sn ms sc sq lt vm vs tu cl ck sz g0 g1 sx th sm mm sl s8 o H hv hs hz h0 h1)) (.cons (.agg (.cons (.sx _ (.v 0)) (.cons (.sx _ (.v 1)) (.cons (.sx _ (.v 2)) (.cons (.bool _) (.cons (.sx _ (.v 3)) (.cons (.ov 0) (.cons (.sx _ (.v 4)) (.cons (.ov 1) .nil))))))))) (.cons (.agg (.cons (.sx _ (.v 5)) (.cons (.sx _ (.v 6)) (.cons (.bool _) (.cons (.sx _ (.v 7)) .nil))))) .nil)) W (fun b _ => rfl) (Nat.le_refl _)
      · have hs : sl < 0 := by omega
        rw [if_neg (by omega)] at hck
        cases h0 : (opI .shr .u64 g0 40 == IntKind.u64.wrap (opI .shr .u32 ck 8)) with
        | true =>
          letI : Inhabited EnvT := shE W sn ms sc sq lt vm vs tu cl ck sz g0 g1 sx th sm mm sl s8 o A1 n1 k1 A2 n2 k2 shF101 (shF101_ok sn ms sc sq lt vm vs tu cl ck sz g0 g1 sx th sm mm sl s8 o H hv hs hz h0)
          exact lawSymX_calls (Vs := [.agg ⟨[.int .i64 sn, .int .u16 ms, .int .i64 sc, .bool true, .int .u32 sq, .slice A1 n1 k1, .int .u8 lt, .slice A2 n2 k2]⟩, .agg ⟨[.int .u16 vm, .int .i64 vs, .bool false, .int .u32 tu]⟩]) (sh_good W hC sn ms sc sq lt vm vs tu cl ck sz g0 g1 sx th sm mm sl s8 o A1 n1 k1 A2 n2 k2 shF101 (shF101_ok sn ms sc sq lt vm vs tu cl ck sz g0 g1 sx th sm mm sl s8 o H hv hs hz h0) false (.int .i64 (-1)) true false (-1) (by decide) (by decide) rfl (fun _ => .int _ _) H bth.1 bth.2 bo.1 bo.2 hcl his hck hsz hg0 hg1 (fun h => by cases h)) (shT101011 W sn ms sc sq lt vm vs tu cl ck sz g0 g1 sx th sm mm sl s8 o A1 n1 k1 A2 n2 k2 (shF101_ok sn ms sc sq lt vm vs tu cl ck sz g0 g1 sx th sm mm sl s8 o H hv hs hz h0)) (.cons (.agg (.cons (.sx _ (.v 0)) (.cons (.sx _ (.v 1)) (.cons (.sx _ (.v 2)) (.cons (.bool _) (.cons (.sx _ (.v 3)) (.cons (.ov 0) (.cons (.sx _ (.v 4)) (.cons (.ov 1) .nil))))))))) (.cons (.agg (.cons (.sx _ (.v 5)) (.cons (.sx _ (.v 6)) (.cons (.bool _) (.cons (.sx _ (.v 7)) .nil))))) .nil)) W (fun b _ => rfl) (Nat.le_refl _)
        | false =>
          cases h1 : (opI .shr .u64 g1 40 == IntKind.u64.wrap (opI .shr .u32 ck 8)) with
          | true =>
            letI : Inhabited EnvT := shE W sn ms sc sq lt vm vs tu cl ck sz g0 g1 sx th sm mm sl s8 o A1 n1 k1 A2 n2 k2 shF102 (shF102_ok sn ms sc sq lt vm vs tu cl ck sz g0 g1 sx th sm mm sl s8 o H hv hs hz h0 h1)
            exact lawSymX_calls (Vs := [.agg ⟨[.int .i64 sn, .int .u16 ms, .int .i64 sc, .bool true, .int .u32 sq, .slice A1 n1 k1, .int .u8 lt, .slice A2 n2 k2]⟩, .agg ⟨[.int .u16 vm, .int .i64 vs, .bool false, .int .u32 tu]⟩]) (sh_good W hC sn ms sc sq lt vm vs tu cl ck sz g0 g1 sx th sm mm sl s8 o A1 n1 k1 A2 n2 k2 shF102 (shF102_ok sn ms sc sq lt vm vs tu cl ck sz g0 g1 sx th sm mm sl s8 o H hv hs hz h0 h1) false (.int .i64 (-1)) true false (-1) (by decide) (by decide) rfl (fun _ => .int _ _) H bth.1 bth.2 bo.1 bo.2 hcl his hck hsz hg0 hg1 (fun h => by cases h)) (shT101012 W sn ms sc sq lt vm vs tu cl ck sz g0 g1 sx th sm mm sl s8 o A1 n1 k1 A2 n2 k2 (shF102_ok sn ms sc sq lt vm vs tu cl ck sz g0 g1 sx th sm mm sl s8 o H hv hs hz h0 h1)) (.cons (.agg (.cons (.sx _ (.v 0)) (.cons (.sx _ (.v 1)) (.cons (.sx _ (.v 2)) (.cons (.bool _) (.cons (.sx _ (.v 3)) (.cons (.ov 0) (.cons (.sx _ (.v 4)) (.cons (.ov 1) .nil))))))))) (.cons (.agg (.cons (.sx _ (.v 5)) (.cons (.sx _ (.v 6)) (.cons (.bool _) (.cons (.sx _ (.v 7)) .nil))))) .nil)) W (fun b _ => rfl) (Nat.le_refl _)
          | false =>
            letI : Inhabited EnvT := shE W sn ms sc sq lt vm vs tu cl ck sz g0 g1 sx th sm mm sl s8 o A1 n1 k1 A2 n2 k2 shF100 (shF100_ok sn ms sc sq lt vm vs tu cl ck sz g0 g1 sx th sm mm sl s8 o H hv hs hz h0 h1)
            exact lawSymX_calls (Vs := [.agg ⟨[.int .i64 sn, .int .u16 ms, .int .i64 sc, .bool true, .int .u32 sq, .slice A1 n1 k1, .int .u8 lt, .slice A2 n2 k2]⟩, .agg ⟨[.int .u16 vm, .int .i64 vs, .bool false, .int .u32 tu]⟩]) (sh_good W hC sn ms sc sq lt vm vs tu cl ck sz g0 g1 sx th sm mm sl s8 o A1 n1 k1 A2 n2 k2 shF100 (shF100_ok sn ms sc sq lt vm vs tu cl ck sz g0 g1 sx th sm mm sl s8 o H hv hs hz h0 h1) false (.int .i64 (-1)) true true (-1) (by decide) (by decide) rfl (fun _ => .int _ _) H bth.1 bth.2 bo.1 bo.2 hcl his hck hsz hg0 hg1 (fun _ => ⟨by rw [shr40, shr8 H.ck0 H.ck1] at h0; simpa using h0, by rw [shr40, shr8 H.ck0 H.ck1] at h1; simpa using h1⟩)) (shT101010 W sn ms sc sq lt vm vs tu cl ck sz g0 g1 sx th sm mm sl s8 o A1 n1 k1 A2 n2 k2 (shF100_ok sn ms sc sq lt vm vs tu cl ck sz g0 g1 sx th sm mm sl s8 o H hv hs hz h0 h1)) (.cons (.agg (.cons (.sx _ (.v 0)) (.cons (.sx _ (.v 1)) (.cons (.sx _ (.v 2)) (.cons (.bool _) (.cons (.sx _ (.v 3)) (.cons (.ov 0) (.cons (.sx _ (.v 4)) (.cons (.ov 1) .nil))))))))) (.cons (.agg (.cons (.sx _ (.v 5)) (.cons (.sx _ (.v 6)) (.cons (.bool _) (.cons (.sx _ (.v 7)) .nil))))) .nil)) W (fun b _ => rfl) (Nat.le_refl _)
    · have hv : vs < 0 := by omega
      by_cases hs : 0 ≤ sl
      · skip
        rw [if_neg (by omega)] at hck
        cases h0 : (opI .shr .u64 g0 40 == IntKind.u64.wrap (opI .shr .u32 ck 8)) with
        | true =>
          letI : Inhabited EnvT := shE W sn ms sc sq lt vm vs tu cl ck sz g0 g1 sx th sm mm sl s8 o A1 n1 k1 A2 n2 k2 shF011 (shF011_ok sn ms sc sq lt vm vs tu cl ck sz g0 g1 sx th sm mm sl s8 o H hv hs hz h0)
          exact lawSymX_calls (Vs := [.agg ⟨[.int .i64 sn, .int .u16 ms, .int .i64 sc, .bool true, .int .u32 sq, .slice A1 n1 k1, .int .u8 lt, .slice A2 n2 k2]⟩, .agg ⟨[.int .u16 vm, .int .i64 vs, .bool false, .int .u32 tu]⟩]) (sh_good W hC sn ms sc sq lt vm vs tu cl ck sz g0 g1 sx th sm mm sl s8 o A1 n1 k1 A2 n2 k2 shF011 (shF011_ok sn ms sc sq lt vm vs tu cl ck sz g0 g1 sx th sm mm sl s8 o H hv hs hz h0) false (.int .i64 (-1)) true false (-1) (by decide) (by decide) rfl (fun _ => .int _ _) H bth.1 bth.2 bo.1 bo.2 hcl his hck hsz hg0 hg1 (fun h => by cases h)) (shT100111 W sn ms sc sq lt vm vs tu cl ck sz g0 g1 sx th sm mm sl s8 o A1 n1 k1 A2 n2 k2 (shF011_ok sn ms sc sq lt vm vs tu cl ck sz g0 g1 sx th sm mm sl s8 o H hv hs hz h0)) (.cons (.agg (.cons (.sx _ (.v 0)) (.cons (.sx _ (.v 1)) (.cons (.sx _ (.v 2)) (.cons (.bool _) (.cons (.sx _ (.v 3)) (.cons (.ov 0) (.cons (.sx _ (.v 4)) (.cons (.ov 1) .nil))))))))) (.cons (.agg (.cons (.sx _ (.v 5)) (.cons (.sx _ (.v 6)) (.cons (.bool _) (.cons (.sx _ (.v 7)) .nil))))) .nil)) W (fun b _ => rfl) (Nat.le_refl _)
        | false =>
          cases h1 : (opI .shr .u64 g1 40 == IntKind.u64.wrap (opI .shr .u32 ck 8)) with
          | true =>
            letI : Inhabited EnvT := shE W sn ms sc sq lt vm vs tu cl ck sz g0 g1 sx th sm mm sl s8 o A1 n1 k1 A2 n2 k2 shF012 (shF012_ok sn ms sc sq lt vm vs tu cl ck sz g0 g1 sx th sm mm sl s8 o H hv hs hz h0 h1)
            exact lawSymX_calls (Vs := [.agg ⟨[.int .i64 sn, .int .u16 ms, .int .i64 sc, .bool true, .int .u32 sq, .slice A1 n1 k1, .int .u8 lt, .slice A2 n2 k2]⟩, .agg ⟨[.int .u16 vm, .int .i64 vs, .bool false, .int .u32 tu]⟩]) (sh_good W hC sn ms sc sq lt vm vs tu cl ck sz g0 g1 sx th sm mm sl s8 o A1 n1 k1 A2 n2 k2 shF012 (shF012_ok sn ms sc sq lt vm vs tu cl ck sz g0 g1 sx th sm mm sl s8 o H hv hs hz h0 h1) false (.int .i64 (-1)) true false (-1) (by decide) (by decide) rfl (fun _ => .int _ _) H bth.1 bth.2 bo.1 bo.2 hcl his hck hsz hg0 hg1 (fun h => by cases h)) (shT100112 W sn ms sc sq lt vm vs tu cl ck sz g0 g1 sx th sm mm sl s8 o A1 n1 k1 A2 n2 k2 (shF012_ok sn ms sc sq lt vm vs tu cl ck sz g0 g1 sx th sm mm sl s8 o H hv hs hz h0 h1)) (.cons (.agg (.cons (.sx _ (.v 0)) (.cons (.sx _ (.v 1)) (.cons (.sx _ (.v 2)) (.cons (.bool _) (.cons (.sx _ (.v 3)) (.cons (.ov 0) (.cons (.sx _ (.v 4)) (.cons (.ov 1) .nil))))))))) (.cons (.agg (.cons (.sx _ (.v 5)) (.cons (.sx _ (.v 6)) (.cons (.bool _) (.cons (.sx _ (.v 7)) .nil))))) .nil)) W (fun b _ => rfl) (Nat.le_refl _)
          | false =>
            letI : Inhabited EnvT := shE W sn ms sc sq lt vm vs tu cl ck sz g0 g1 sx th sm mm sl s8 o A1 n1 k1 A2 n2 k2 shF010 (shF010_ok sn ms sc sq lt vm vs tu cl ck sz g0 g1 sx th sm mm sl s8 o H hv hs hz h0 h1)
            exact lawSymX_calls (Vs := [.agg ⟨[.int .i64 sn, .int .u16 ms, .int .i64 sc, .bool true, .int .u32 sq, .slice A1 n1 k1, .int .u8 lt, .slice A2 n2 k2]⟩, .agg ⟨[.int .u16 vm, .int .i64 vs, .bool false, .int .u32 tu]⟩]) (sh_good W hC sn ms sc sq lt vm vs tu cl ck sz g0 g1 sx th sm mm sl s8 o A1 n1 k1 A2 n2 k2 shF010 (shF010_ok sn ms sc sq lt vm vs tu cl ck sz g0 g1 sx th sm mm sl s8 o H hv hs hz h0 h1) false (.int .i64 (-1)) true true (-1) (by decide) (by decide) rfl (fun _ => .int _ _) H bth.1 bth.2 bo.1 bo.2 hcl his hck hsz hg0 hg1 (fun _ => ⟨by rw [shr40, shr8 H.ck0 H.ck1] at h0; simpa using h0, by rw [shr40, shr8 H.ck0 H.ck1] at h1; simpa using h1⟩)) (shT100110 W sn ms sc sq lt vm vs tu cl ck sz g0 g1 sx th sm mm sl s8 o A1 n1 k1 A2 n2 k2 (shF010_ok sn ms sc sq lt vm vs tu cl ck sz g0 g1 sx th sm mm sl s8 o H hv hs hz h0 h1)) (.cons (.agg (.cons (.sx _ (.v 0)) (.cons (.sx _ (.v 1)) (.cons (.sx _ (.v 2)) (.cons (.bool _) (.cons (.sx _ (.v 3)) (.cons (.ov 0) (.cons (.sx _ (.v 4)) (.cons (.ov 1) .nil))))))))) (.cons (.agg (.cons (.sx _ (.v 5)) (.cons (.sx _ (.v 6)) (.cons (.bool _) (.cons (.sx _ (.v 7)) .nil))))) .nil)) W (fun b _ => rfl) (Nat.le_refl _)
      · have hs : sl < 0 := by omega
        rw [if_neg (by omega)] at hck
        cases h0 : (opI .shr .u64 g0 40 == IntKind.u64.wrap (opI .shr .u32 ck 8)) with
        | true =>
          letI : Inhabited EnvT := shE W sn ms sc sq lt vm vs tu cl ck sz g0 g1 sx th sm mm sl s8 o A1 n1 k1 A2 n2 k2 shF001 (shF001_ok sn ms sc sq lt vm vs tu cl ck sz g0 g1 sx th sm mm sl s8 o H hv hs hz h0)
          exact lawSymX_calls (Vs := [.agg ⟨[.int .i64 sn, .int .u16 ms, .int .i64 sc, .bool true, .int .u32 sq, .slice A1 n1 k1, .int .u8 lt, .slice A2 n2 k2]⟩, .agg ⟨[.int .u16 vm, .int .i64 vs, .bool false, .int .u32 tu]⟩]) (sh_good W hC sn ms sc sq lt vm vs tu cl ck sz g0 g1 sx th sm mm sl s8 o A1 n1 k1 A2 n2 k2 shF001 (shF001_ok sn ms sc sq lt vm vs tu cl ck sz g0 g1 sx th sm mm sl s8 o H hv hs hz h0) false (.int .i64 (-1)) true false (-1) (by decide) (by decide) rfl (fun _ => .int _ _) H bth.1 bth.2 bo.1 bo.2 hcl his hck hsz hg0 hg1 (fun h => by cases h)) (shT100011 W sn ms sc sq lt vm vs tu cl ck sz g0 g1 sx th sm mm sl s8 o A1 n1 k1 A2 n2 k2 (shF001_ok sn ms sc sq lt vm vs tu cl ck sz g0 g1 sx th sm mm sl s8 o H hv hs hz h0)) (.cons (.agg (.cons (.sx _ (.v 0)) (.cons (.sx _ (.v 1)) (.cons (.sx _ (.v 2)) (.cons (.bool _) (.cons (.sx _ (.v 3)) (.cons (.ov 0) (.cons (.sx _ (.v 4)) (.cons (.ov 1) .nil))))))))) (.cons (.agg (.cons (.sx _ (.v 5)) (.cons (.sx _ (.v 6)) (.cons (.bool _) (.cons (.sx _ (.v 7)) .nil))))) .nil)) W (fun b _ => rfl) (Nat.le_refl _)
        | false =>
          cases h1 : (opI .shr .u64 g1 40 == IntKind.u64.wrap (opI .shr .u32 ck 8)) with
          | true =>
            letI : Inhabited EnvT := shE W sn ms sc sq lt vm vs tu cl ck sz g0 g1 sx th sm mm sl s8 o A1 n1 k1 A2 n2 k2 shF002 (shF002_ok sn ms sc sq lt vm vs tu cl ck sz g0 g1 sx th sm mm sl s8 o H hv hs hz h0 h1)
            exact lawSymX_calls (Vs := [.agg ⟨[.int .i64 sn, .int .u16 ms, .int .i64 sc, .bool true, .int .u32 sq, .slice A1 n1 k1, .int .u8 lt, .slice A2 n2 k2]⟩, .agg ⟨[.int .u16 vm, .int .i64 vs, .bool false, .int .u32 tu]⟩]) (sh_good W hC sn ms sc sq lt vm vs tu cl ck sz g0 g1 sx th sm mm sl s8 o A1 n1 k1 A2 n2 k2 shF002 (shF002_ok sn ms sc sq lt vm vs tu cl ck sz g0 g1 sx th sm mm sl s8 o H hv hs hz h0 h1) false (.int .i64 (-1)) true false (-1) (by decide) (by decide) rfl (fun _ => .int _ _) H bth.1 bth.2 bo.1 bo.2 hcl his hck hsz hg0 hg1 (fun h => by cases h)) (shT100012 W sn ms sc sq lt vm vs tu cl ck sz g0 g1 sx th sm mm sl s8 o A1 n1 k1 A2 n2 k2 (shF002_ok sn ms sc sq lt vm vs tu cl ck sz g0 g1 sx th sm mm sl s8 o H hv hs hz h0 h1)) (.cons (.agg (.cons (.sx _ (.v 0)) (.cons (.sx _ (.v 1)) (.cons (.sx _ (.v 2)) (.cons (.bool _) (.cons (.sx _ (.v 3)) (.cons (.ov 0) (.cons (.sx _ (.v 4)) (.cons (.ov 1) .nil))))))))) (.cons (.agg (.cons (.sx _ (.v 5)) (.cons (.sx _ (.v 6)) (.cons (.bool _) (.cons (.sx _ (.v 7)) .nil))))) .nil)) W (fun b _ => rfl) (Nat.le_refl _)
          | false =>
            letI : Inhabited EnvT := shE W sn ms sc sq lt vm vs tu cl ck sz g0 g1 sx th sm mm sl s8 o A1 n1 k1 A2 n2 k2 shF000 (shF000_ok sn ms sc sq lt vm vs tu cl ck sz g0 g1 sx th sm mm sl s8 o H hv hs hz h0 h1)
            exact lawSymX_calls (Vs := [.agg ⟨[.int .i64 sn, .int .u16 ms, .int .i64 sc, .bool true, .int .u32 sq, .slice A1 n1 k1, .int .u8 lt, .slice A2 n2 k2]⟩, .agg ⟨[.int .u16 vm, .int .i64 vs, .bool false, .int .u32 tu]⟩]) (sh_good W hC sn ms sc sq lt vm vs tu cl ck sz g0 g1 sx th sm mm sl s8 o A1 n1 k1 A2 n2 k2 shF000 (shF000_ok sn ms sc sq lt vm vs tu cl ck sz g0 g1 sx th sm mm sl s8 o H hv hs hz h0 h1) false (.int .i64 (-1)) true true (-1) (by decide) (by decide) rfl (fun _ => .int _ _) H bth.1 bth.2 bo.1 bo.2 hcl his hck hsz hg0 hg1 (fun _ => ⟨by rw [shr40, shr8 H.ck0 H.ck1] at h0; simpa using h0, by rw [shr40, shr8 H.ck0 H.ck1] at h1; simpa using h1⟩)) (shT100010 W sn ms sc sq lt vm vs tu cl ck sz g0 g1 sx th sm mm sl s8 o A1 n1 k1 A2 n2 k2 (shF000_ok sn ms sc sq lt vm vs tu cl ck sz g0 g1 sx th sm mm sl s8 o H hv hs hz h0 h1)) (.cons (.agg (.cons (.sx _ (.v 0)) (.cons (.sx _ (.v 1)) (.cons (.sx _ (.v 2)) (.cons (.bool _) (.cons (.sx _ (.v 3)) (.cons (.ov 0) (.cons (.sx _ (.v 4)) (.cons (.ov 1) .nil))))))))) (.cons (.agg (.cons (.sx _ (.v 5)) (.cons (.sx _ (.v 6)) (.cons (.bool _) (.cons (.sx _ (.v 7)) .nil))))) .nil)) W (fun b _ => rfl) (Nat.le_refl _)

set_option maxRecDepth 100000 in
theorem shakes11 (W : World) (hC : CW W) (sn ms sc sq lt vm vs tu : Int) (i0 : -9223372036854775808 ≤ sn ∧ sn ≤ 9223372036854775807) (i1 : 0 ≤ ms ∧ ms ≤ 65535) (i2 : -9223372036854775808 ≤ sc ∧ sc ≤ 9223372036854775807) (i3 : 0 ≤ sq ∧ sq ≤ 4294967295) (i5 : 0 ≤ lt ∧ lt ≤ 255) (i6 : 0 ≤ vm ∧ vm ≤ 65535) (i7 : -9223372036854775808 ≤ vs ∧ vs ≤ 9223372036854775807) (i8 : 0 ≤ tu ∧ tu ≤ 4294967295) (A1 : Option Addr) (n1 k1 : Nat) (A2 : Option Addr) (n2 k2 : Nat) :
    Calls Tryz.prog 3 #[.agg #[.int .i64 sn, .int .u16 ms, .int .i64 sc, .bool true, .int .u32 sq, .slice A1 n1 k1, .int .u8 lt, .slice A2 n2 k2], .agg #[.int .u16 vm, .int .i64 vs, .bool true, .int .u32 tu]] W fun e W' => e = .returned (.bool true) ∧ Below W.heap.size W W' := by
  obtain ⟨cl, hcl⟩ : ∃ cl, clsI vm = cl := ⟨_, rfl⟩
  obtain ⟨sx, hsx⟩ : ∃ sx, IntKind.u8.wrap (min (max vs 0) 14) = sx := ⟨_, rfl⟩
  obtain ⟨th, hth⟩ : ∃ th, IntKind.u64.wrap (1000 + IntKind.u64.wrap (lt.tmod 65)) = th := ⟨_, rfl⟩
  obtain ⟨sm, hsm⟩ : ∃ sm, IntKind.i64.wrap (1 + IntKind.i64.wrap ((IntKind.u64.wrap sn).tmod 2000)) = sm := ⟨_, rfl⟩
  obtain ⟨mm, hmm⟩ : ∃ mm, IntKind.u16.wrap (88 + ms.tmod 1373) = mm := ⟨_, rfl⟩
  obtain ⟨sl, hsl⟩ : ∃ sl, IntKind.i64.wrap (IntKind.i64.wrap ((IntKind.u64.wrap sc).tmod 16) - 1) = sl := ⟨_, rfl⟩
  obtain ⟨s8, hs8⟩ : ∃ s8, IntKind.u8.wrap (min (max sl 0) 14) = s8 := ⟨_, rfl⟩
  obtain ⟨o, ho⟩ : ∃ o, IntKind.u32.wrap (IntKind.u32.wrap (IntKind.u32.wrap (sq + 1) + tu) - 1) = o := ⟨_, rfl⟩
  have bsx : 0 ≤ sx ∧ sx ≤ 14 := by rw [← hsx]; simp only [IntKind.wrap_u8]; omega
  have bth : 1000 ≤ th ∧ th ≤ 1064 := by rw [← hth, tmod_bd 65 i5.1 (by decide)]; simp only [IntKind.wrap_u64]; omega
  have bsm : 1 ≤ sm ∧ sm ≤ 2000 := by
    have hu : 0 ≤ IntKind.u64.wrap sn := by simp only [IntKind.wrap_u64]; omega
    rw [← hsm, tmod_bd 2000 hu (by decide)]
    generalize IntKind.u64.wrap sn = q at *
    simp only [IntKind.wrap_i64]; omega
  have bmm : 88 ≤ mm ∧ mm ≤ 1460 := by rw [← hmm, tmod_bd 1373 i1.1 (by decide)]; simp only [IntKind.wrap_u16]; omega
  have bsl : -1 ≤ sl ∧ sl ≤ 14 := by
    have hu : 0 ≤ IntKind.u64.wrap sc := by simp only [IntKind.wrap_u64]; omega
    rw [← hsl, tmod_bd 16 hu (by decide)]
    generalize IntKind.u64.wrap sc = q at *
    simp only [IntKind.wrap_i64]; omega
  have bs8 : 0 ≤ s8 ∧ s8 ≤ 14 ∧ (0 ≤ sl → s8 = sl) := by rw [← hs8]; simp only [IntKind.wrap_u8]; omega
  have bo : 0 ≤ o ∧ o ≤ 4294967295 := by rw [← ho]; simp only [IntKind.wrap_u32]; omega
  obtain ⟨g0, hg0⟩ : ∃ g, hashOf keyC tupC o (th / 64) = g := ⟨_, rfl⟩
  obtain ⟨g1, hg1⟩ : ∃ g, hashOf keyC tupC o (th / 64 - 1) = g := ⟨_, rfl⟩
  obtain ⟨sz, hsz⟩ : ∃ z, szI cl = z := ⟨_, rfl⟩
  cases his : clsB vm with
  | false =>
    obtain ⟨ck, hck⟩ : ∃ c, makeC keyC tupC sq 1000 ⟨cl, true, if 0 ≤ vs then min sx 14 else -1⟩ = c := ⟨_, rfl⟩
    have hok : (⟨cl, true, if 0 ≤ vs then min sx 14 else -1⟩ : Inf).Ok := ⟨by rw [← hcl]; exact cls_bd vm, by simp only []; split <;> omega⟩
    have hcb := ck_bd (sq := sq) hok
    rw [hck] at hcb
    have H : ShH sn ms sc sq lt vm vs tu cl ck sz g0 g1 sx th sm mm sl s8 o := ⟨i3.1, i3.2, hcb.1, hcb.2, i6.1, i6.2, hth, ho, hsm, hmm, hsl, hsx, hs8, bsm.1, bsm.2, bmm.1, bmm.2, bsl.1, bsl.2, bsx.1, bsx.2, bs8.1, bs8.2.1, bs8.2.2⟩
    by_cases hv : 0 ≤ vs
    · rw [if_pos hv] at hck
      letI : Inhabited EnvT := shE W sn ms sc sq lt vm vs tu cl ck sz g0 g1 sx th sm mm sl s8 o A1 n1 k1 A2 n2 k2 shF1 (shF1_ok sn ms sc sq lt vm vs tu cl ck sz g0 g1 sx th sm mm sl s8 o H hv)
      exact lawSymX_calls (Vs := [.agg ⟨[.int .i64 sn, .int .u16 ms, .int .i64 sc, .bool true, .int .u32 sq, .slice A1 n1 k1, .int .u8 lt, .slice A2 n2 k2]⟩, .agg ⟨[.int .u16 vm, .int .i64 vs, .bool true, .int .u32 tu]⟩]) (sh_good W hC sn ms sc sq lt vm vs tu cl ck sz g0 g1 sx th sm mm sl s8 o A1 n1 k1 A2 n2 k2 shF1 (shF1_ok sn ms sc sq lt vm vs tu cl ck sz g0 g1 sx th sm mm sl s8 o H hv) true (.sx .i64 (.mn (.v 13) (.c 14))) false false (min sx 14) (by omega) (by omega) rfl (fun _ => .sx _ _) H bth.1 bth.2 bo.1 bo.2 hcl his hck hsz hg0 hg1 (fun h => by cases h)) (shT111100 W sn ms sc sq lt vm vs tu cl ck sz g0 g1 sx th sm mm sl s8 o A1 n1 k1 A2 n2 k2 (shF1_ok sn ms sc sq lt vm vs tu cl ck sz g0 g1 sx th sm mm sl s8 o H hv)) (.cons (.agg (.cons (.sx _ (.v 0)) (.cons (.sx _ (.v 1)) (.cons (.sx _ (.v 2)) (.cons (.bool _) (.cons (.sx _ (.v 3)) (.cons (.ov 0) (.cons (.sx _ (.v 4)) (.cons (.ov 1) .nil))))))))) (.cons (.agg (.cons (.sx _ (.v 5)) (.cons (.sx _ (.v 6)) (.cons (.bool _) (.cons (.sx _ (.v 7)) .nil))))) .nil)) W (fun b _ => rfl) (Nat.le_refl _)
    · rw [if_neg hv] at hck
      have hv : vs < 0 := by omega
      letI : Inhabited EnvT := shE W sn ms sc sq lt vm vs tu cl ck sz g0 g1 sx th sm mm sl s8 o A1 n1 k1 A2 n2 k2 shF0 (shF0_ok sn ms sc sq lt vm vs tu cl ck sz g0 g1 sx th sm mm sl s8 o H hv)
      exact lawSymX_calls (Vs := [.agg ⟨[.int .i64 sn, .int .u16 ms, .int .i64 sc, .bool true, .int .u32 sq, .slice A1 n1 k1, .int .u8 lt, .slice A2 n2 k2]⟩, .agg ⟨[.int .u16 vm, .int .i64 vs, .bool true, .int .u32 tu]⟩]) (sh_good W hC sn ms sc sq lt vm vs tu cl ck sz g0 g1 sx th sm mm sl s8 o A1 n1 k1 A2 n2 k2 shF0 (shF0_ok sn ms sc sq lt vm vs tu cl ck sz g0 g1 sx th sm mm sl s8 o H hv) true (.int .i64 (-1)) false false (-1) (by decide) (by decide) rfl (fun _ => .int _ _) H bth.1 bth.2 bo.1 bo.2 hcl his hck hsz hg0 hg1 (fun h => by cases h)) (shT110100 W sn ms sc sq lt vm vs tu cl ck sz g0 g1 sx th sm mm sl s8 o A1 n1 k1 A2 n2 k2 (shF0_ok sn ms sc sq lt vm vs tu cl ck sz g0 g1 sx th sm mm sl s8 o H hv)) (.cons (.agg (.cons (.sx _ (.v 0)) (.cons (.sx _ (.v 1)) (.cons (.sx _ (.v 2)) (.cons (.bool _) (.cons (.sx _ (.v 3)) (.cons (.ov 0) (.cons (.sx _ (.v 4)) (.cons (.ov 1) .nil))))))))) (.cons (.agg (.cons (.sx _ (.v 5)) (.cons (.sx _ (.v 6)) (.cons (.bool _) (.cons (.sx _ (.v 7)) .nil))))) .nil)) W (fun b _ => rfl) (Nat.le_refl _)
  | true =>
    have hz : sz ≤ vm := by rw [← hsz, ← hcl]; exact (sz_le his).1
    obtain ⟨ck, hck⟩ : ∃ c, makeC keyC tupC sq 1000 ⟨cl, true, if 0 ≤ vs ∧ 0 ≤ sl then min sx 14 else -1⟩ = c := ⟨_, rfl⟩
    have hok : (⟨cl, true, if 0 ≤ vs ∧ 0 ≤ sl then min sx 14 else -1⟩ : Inf).Ok := ⟨by rw [← hcl]; exact cls_bd vm, by simp only []; split <;> omega⟩
    have hcb := ck_bd (sq := sq) hok
    rw [hck] at hcb
    have H : ShH sn ms sc sq lt vm vs tu cl ck sz g0 g1 sx th sm mm sl s8 o := ⟨i3.1, i3.2, hcb.1, hcb.2, i6.1, i6.2, hth, ho, hsm, hmm, hsl, hsx, hs8, bsm.1, bsm.2, bmm.1, bmm.2, bsl.1, bsl.2, bsx.1, bsx.2, bs8.1, bs8.2.1, bs8.2.2⟩
    by_cases hv : 0 ≤ vs
    · by_cases hs : 0 ≤ sl
      · skip
        rw [if_pos ⟨hv, hs⟩] at hck
        cases h0 : (opI .shr .u64 g0 40 == IntKind.u64.wrap (opI .shr .u32 ck 8)) with
        | true =>
          letI : Inhabited EnvT := shE W sn ms sc sq lt vm vs tu cl ck sz g0 g1 sx th sm mm sl s8 o A1 n1 k1 A2 n2 k2 shF111 (shF111_ok sn ms sc sq lt vm vs tu cl ck sz g0 g1 sx th sm mm sl s8 o H hv hs hz h0)
          exact lawSymX_calls (Vs := [.agg ⟨[.int .i64 sn, .int .u16 ms, .int .i64 sc, .bool true, .int .u32 sq, .slice A1 n1 k1, .int .u8 lt, .slice A2 n2 k2]⟩, .agg ⟨[.int .u16 vm, .int .i64 vs, .bool true, .int .u32 tu]⟩]) (sh_good W hC sn ms sc sq lt vm vs tu cl ck sz g0 g1 sx th sm mm sl s8 o A1 n1 k1 A2 n2 k2 shF111 (shF111_ok sn ms sc sq lt vm vs tu cl ck sz g0 g1 sx th sm mm sl s8 o H hv hs hz h0) true (.sx .i64 (.mn (.v 13) (.c 14))) true false (min sx 14) (by omega) (by omega) rfl (fun _ => .sx _ _) H bth.1 bth.2 bo.1 bo.2 hcl his hck hsz hg0 hg1 (fun h => by cases h)) (shT111111 W sn ms sc sq lt vm vs tu cl ck sz g0 g1 sx th sm mm sl s8 o A1 n1 k1 A2 n2 k2 (shF111_ok sn ms sc sq lt vm vs tu cl ck sz g0 g1 sx th sm mm sl s8 o H hv hs hz h0)) (.cons (.agg (.cons (.sx _ (.v 0)) (.cons (.sx _ (.v 1)) (.cons (.sx _ (.v 2)) (.cons (.bool _) (.cons (.sx _ (.v 3)) (.cons (.ov 0) (.cons (.sx _ (.v 4)) (.cons (.ov 1) .nil))))))))) (.cons (.agg (.cons (.sx _ (.v 5)) (.cons (.sx _ (.v 6)) (.cons (.bool _) (.cons (.sx _ (.v 7)) .nil))))) .nil)) W (fun b _ => rfl) (Nat.le_refl _)
        | false =>
          cases h1 : (opI .shr .u64 g1 40 == IntKind.u64.wrap (opI .shr .u32 ck 8)) with
          | true =>
            letI : Inhabited EnvT := shE W sn ms sc sq lt vm vs tu cl ck sz g0 g1 sx th sm mm sl s8 o A1 n1 k1 A2 n2 k2 shF112 (shF112_ok sn ms sc sq lt vm vs tu cl ck sz g0 g1 sx th sm mm sl s8 o H hv hs hz h0 h1)
            exact lawSymX_calls (Vs := [.agg ⟨[.int .i64 sn, .int .u16 ms, .int .i64 sc, .bool true, .int .u32 sq, .slice A1 n1 k1, .int .u8 lt, .slice A2 n2 k2]⟩, .agg ⟨[.int .u16 vm, .int .i64 vs, .bool true, .int .u32 tu]⟩]) (sh_good W hC sn ms sc sq lt vm vs tu cl ck sz g0 g1 sx th sm mm sl s8 o A1 n1 k1 A2 n2 k2 shF112 (shF112_ok sn ms sc sq lt vm vs tu cl ck sz g0 g1 sx th sm mm sl s8 o H hv hs hz h0 h1) true (.sx .i64 (.mn (.v 13) (.c 14))) true false (min sx 14) (by omega) (by omega) rfl (fun _ => .sx _ _) H bth.1 bth.2 bo.1 bo.2 hcl his hck hsz hg0 hg1 (fun h => by cases h)) (shT111112 W sn ms sc sq lt vm vs tu cl ck sz g0 g1 sx th sm mm sl s8 o A1 n1 k1 A2 n2 k2 (shF112_ok sn ms sc sq lt vm vs tu cl ck sz g0 g1 sx th sm mm sl s8 o H hv hs hz h0 h1)) (.cons (.agg (.cons (.sx _ (.v 0)) (.cons (.sx _ (.v 1)) (.cons (.sx _ (.v 2)) (.cons (.bool _) (.cons (.sx _ (.v 3)) (.cons (.ov 0) (.cons (.sx _ (.v 4)) (.cons (.ov 1) .nil))))))))) (.cons (.agg (.cons (.sx _ (.v 5)) (.cons (.sx _ (.v 6)) (.cons (.bool _) (.cons (.sx _ (.v 7)) .nil))))) .nil)) W (fun b _ => rfl) (Nat.le_refl _)
          | false =>
            letI : Inhabited EnvT := shE W sn ms sc sq lt vm vs tu cl ck sz g0 g1 sx th sm mm sl s8 o A1 n1 k1 A2 n2 k2 shF110 (shF110_ok sn ms sc sq lt vm vs tu cl ck sz g0 g1 sx th sm mm sl s8 o H hv hs hz h0 h1)
            exact lawSymX_calls (Vs := [.agg ⟨[.int .i64 sn, .int .u16 ms, .int .i64 sc, .bool true, .int .u32 sq, .slice A1 n1 k1, .int .u8 lt, .slice A2 n2 k2]⟩, .agg ⟨[.int .u16 vm, .int .i64 vs, .bool true, .int .u32 tu]⟩]) (sh_good W hC sn ms sc sq lt vm vs tu cl ck sz g0 g1 sx th sm mm sl s8 o A1 n1 k1 A2 n2 k2 shF110 (shF110_ok sn ms sc sq lt vm vs tu cl ck sz g0 g1 sx th sm mm sl s8 o H hv hs hz h0 h1) true (.sx .i64 (.mn (.v 13) (.c 14))) true true (min sx 14) (by omega) (by omega) rfl (fun _ => .sx _ _) H bth.1 bth.2 bo.1 bo.2 hcl his hck hsz hg0 hg1 (fun _ => ⟨by rw [shr40, shr8 H.ck0 H.ck1] at h0; simpa using h0, by rw [shr40, shr8 H.ck0 H.ck1] at h1; simpa using h1⟩)) (shT111110 W sn ms sc sq lt vm vs tu cl ck sz g0 g1 sx th sm mm sl s8 o A1 n1 k1 A2 n2 k2 (shF110_ok sn ms sc sq lt vm vs tu cl ck sz g0 g1 sx th sm mm sl s8 o H hv hs hz h0 h1)) (.cons (.agg (.cons (.sx _ (.v 0)) (.cons (.sx _ (.v 1)) (.cons (.sx _ (.v 2)) (.cons (.bool _) (.cons (.sx _ (.v 3)) (.cons (.ov 0) (.cons (.sx _ (.v 4)) (.cons (.ov 1) .nil))))))))) (.cons (.agg (.cons (.sx _ (.v 5)) (.cons (.sx _ (.v 6)) (.cons (.bool _) (.cons (.sx _ (.v 7)) .nil))))) .nil)) W (fun b _ => rfl) (Nat.le_refl _)
      · have hs : sl < 0 := by omega
        rw [if_neg (by omega)] at hck
        cases h0 : (opI .shr .u64 g0 40 == IntKind.u64.wrap (opI .shr .u32 ck 8)) with
        | true =>
          letI : Inhabited EnvT := shE W sn ms sc sq lt vm vs tu cl ck sz g0 g1 sx th sm mm sl s8 o A1 n1 k1 A2 n2 k2 shF101 (shF101_ok sn ms sc sq lt vm vs tu cl ck sz g0 g1 sx th sm mm sl s8 o H hv hs hz h0)
          exact lawSymX_calls (Vs := [.agg ⟨[.int .i64 sn, .int .u16 ms, .int .i64 sc, .bool true, .int .u32 sq, .slice A1 n1 k1, .int .u8 lt, .slice A2 n2 k2]⟩, .agg ⟨[.int .u16 vm, .int .i64 vs, .bool true, .int .u32 tu]⟩]) (sh_good W hC sn ms sc sq lt vm vs tu cl ck sz g0 g1 sx th sm mm sl s8 o A1 n1 k1 A2 n2 k2 shF101 (shF101_ok sn ms sc sq lt vm vs tu cl ck sz g0 g1 sx th sm mm sl s8 o H hv hs hz h0) true (.int .i64 (-1)) true false (-1) (by decide) (by decide) rfl (fun _ => .int _ _) H bth.1 bth.2 bo.1 bo.2 hcl his hck hsz hg0 hg1 (fun h => by cases h)) (shT111011 W sn ms sc sq lt vm vs tu cl ck sz g0 g1 sx th sm mm sl s8 o A1 n1 k1 A2 n2 k2 (shF101_ok sn ms sc sq lt vm vs tu cl ck sz g0 g1 sx th sm mm sl s8 o H hv hs hz h0)) (.cons (.agg (.cons (.sx _ (.v 0)) (.cons (.sx _ (.v 1)) (.cons (.sx _ (.v 2)) (.cons (.bool _) (.cons (.sx _ (.v 3)) (.cons (.ov 0) (.cons (.sx _ (.v 4)) (.cons (.ov 1) .nil))))))))) (.cons (.agg (.cons (.sx _ (.v 5)) (.cons (.sx _ (.v 6)) (.cons (.bool _) (.cons (.sx _ (.v 7)) .nil))))) .nil)) W (fun b _ => rfl) (Nat.le_refl _)
        | false =>
          cases h1 : (opI .shr .u64 g1 40 == IntKind.u64.wrap (opI .shr .u32 ck 8)) with
          | true =>
            letI : Inhabited EnvT := shE W sn ms sc sq lt vm vs tu cl ck sz g0 g1 sx th sm mm sl s8 o A1 n1 k1 A2 n2 k2 shF102 (shF102_ok sn ms sc sq lt vm vs tu cl ck sz g0 g1 sx th sm mm sl s8 o H hv hs hz h0 h1)
            exact lawSymX_calls (Vs := [.agg ⟨[.int .i64 sn, .int .u16 ms, .int .i64 sc, .bool true, .int .u32 sq, .slice A1 n1 k1, .int .u8 lt, .slice A2 n2 k2]⟩, .agg ⟨[.int .u16 vm, .int .i64 vs, .bool true, .int .u32 tu]⟩]) (sh_good W hC sn ms sc sq lt vm vs tu cl ck sz g0 g1 sx th sm mm sl s8 o A1 n1 k1 A2 n2 k2 shF102 (shF102_ok sn ms sc sq lt vm vs tu cl ck sz g0 g1 sx th sm mm sl s8 o H hv hs hz h0 h1) true (.int .i64 (-1)) true false (-1) (by decide) (by decide) rfl (fun _ => .int _ _) H bth.1 bth.2 bo.1 bo.2 hcl his hck hsz hg0 hg1 (fun h => by cases h)) (shT111012 W sn ms sc sq lt vm vs tu cl ck sz g0 g1 sx th sm mm sl s8 o A1 n1 k1 A2 n2 k2 (shF102_ok sn ms sc sq lt vm vs tu cl ck sz g0 g1 sx th sm mm sl s8 o H hv hs hz h0 h1)) (.cons (.agg (.cons (.sx _ (.v 0)) (.cons (.sx _ (.v 1)) (.cons (.sx _ (.v 2)) (.cons (.bool _) (.cons (.sx _ (.v 3)) (.cons (.ov 0) (.cons (.sx _ (.v 4)) (.cons (.ov 1) .nil))))))))) (.cons (.agg (.cons (.sx _ (.v 5)) (.cons (.sx _ (.v 6)) (.cons (.bool _) (.cons (.sx _ (.v 7)) .nil))))) .nil)) W (fun b _ => rfl) (Nat.le_refl _)
          | false =>
            letI : Inhabited EnvT := shE W sn ms sc sq lt vm vs tu cl ck sz g0 g1 sx th sm mm sl s8 o A1 n1 k1 A2 n2 k2 shF100 (shF100_ok sn ms sc sq lt vm vs tu cl ck sz g0 g1 sx th sm mm sl s8 o H hv hs hz h0 h1)
            exact lawSymX_calls (Vs := [.agg ⟨[.int .i64 sn, .int .u16 ms, .int .i64 sc, .bool true, .int .u32 sq, .slice A1 n1 k1, .int .u8 lt, .slice A2 n2 k2]⟩, .agg ⟨[.int .u16 vm, .int .i64 vs, .bool true, .int .u32 tu]⟩]) (sh_good W hC sn ms sc sq lt vm vs tu cl ck sz g0 g1 sx th sm mm sl s8 o A1 n1 k1 A2 n2 k2 shF100 (shF100_ok sn ms sc sq lt vm vs tu cl ck sz g0 g1 sx th sm mm sl s8 o H hv hs hz h0 h1) true (.int .i64 (-1)) true true (-1) (by decide) (by decide) rfl (fun _ => .int _ _) H bth.1 bth.2 bo.1 bo.2 hcl his hck hsz hg0 hg1 (fun _ => ⟨by rw [shr40, shr8 H.ck0 H.ck1] at h0; simpa using h0, by rw [shr40, shr8 H.ck0 H.ck1] at h1; simpa using h1⟩)) (shT111010 W sn ms sc sq lt vm vs tu cl ck sz g0 g1 sx th sm mm sl s8 o A1 n1 k1 A2 n2 k2 (shF100_ok sn ms sc sq lt vm vs tu cl ck sz g0 g1 sx th sm mm sl s8 o H hv hs hz h0 h1)) (.cons (.agg (.cons (.sx _ (.v 0)) (.cons (.sx _ (.v 1)) (.cons (.sx _ (.v 2)) (.cons (.bool _) (.cons (.sx _ (.v 3)) (.cons (.ov 0) (.cons (.sx _ (.v 4)) (.cons (.ov 1) .nil))))))))) (.cons (.agg (.cons (.sx _ (.v 5)) (.cons (.sx _ (.v 6)) (.cons (.bool _) (.cons (.sx _ (.v 7)) .nil))))) .nil)) W (fun b _ => rfl) (Nat.le_refl _)
    · have hv : vs < 0 := by omega
      by_cases hs : 0 ≤ sl
      · skip
        rw [if_neg (by omega)] at hck
        cases h0 : (opI .shr .u64 g0 40 == IntKind.u64.wrap (opI .shr .u32 ck 8)) with
        | true =>
          letI : Inhabited EnvT := shE W sn ms sc sq lt vm vs tu cl ck sz g0 g1 sx th sm mm sl s8 o A1 n1 k1 A2 n2 k2 shF011 (shF011_ok sn ms sc sq lt vm vs tu cl ck sz g0 g1 sx th sm mm sl s8 o H hv hs hz h0)
          exact lawSymX_calls (Vs := [.agg ⟨[.int .i64 sn, .int .u16 ms, .int .i64 sc, .bool true, .int .u32 sq, .slice A1 n1 k1, .int .u8 lt, .slice A2 n2 k2]⟩, .agg ⟨[.int .u16 vm, .int .i64 vs, .bool true, .int .u32 tu]⟩]) (sh_good W hC sn ms sc sq lt vm vs tu cl ck sz g0 g1 sx th sm mm sl s8 o A1 n1 k1 A2 n2 k2 shF011 (shF011_ok sn ms sc sq lt vm vs tu cl ck sz g0 g1 sx th sm mm sl s8 o H hv hs hz h0) true (.int .i64 (-1)) true false (-1) (by decide) (by decide) rfl (fun _ => .int _ _) H bth.1 bth.2 bo.1 bo.2 hcl his hck hsz hg0 hg1 (fun h => by cases h)) (shT110111 W sn ms sc sq lt vm vs tu cl ck sz g0 g1 sx th sm mm sl s8 o A1 n1 k1 A2 n2 k2 (shF011_ok sn ms sc sq lt vm vs tu cl ck sz g0 g1 sx th sm mm sl s8 o H hv hs hz h0)) (.cons (.agg (.cons (.sx _ (.v 0)) (.cons (.sx _ (.v 1)) (.cons (.sx _ (.v 2)) (.cons (.bool _) (.cons (.sx _ (.v 3)) (.cons (.ov 0) (.cons (.sx _ (.v 4)) (.cons (.ov 1) .nil))))))))) (.cons (.agg (.cons (.sx _ (.v 5)) (.cons (.sx _ (.v 6)) (.cons (.bool _) (.cons (.sx _ (.v 7)) .nil))))) .nil)) W (fun b _ => rfl) (Nat.le_refl _)
        | false =>
          cases h1 : (opI .shr .u64 g1 40 == IntKind.u64.wrap (opI .shr .u32 ck 8)) with
          | true =>
            letI : Inhabited EnvT := shE W sn ms sc sq lt vm vs tu cl ck sz g0 g1 sx th sm mm sl s8 o A1 n1 k1 A2 n2 k2 shF012 (shF012_ok sn ms sc sq lt vm vs tu cl ck sz g0 g1 sx th sm mm sl s8 o H hv hs hz h0 h1)
            exact lawSymX_calls (Vs := [.agg ⟨[.int .i64 sn, .int .u16 ms, .int .i64 sc, .bool true, .int .u32 sq, .slice A1 n1 k1, .int .u8 lt, .slice A2 n2 k2]⟩, .agg ⟨[.int .u16 vm, .int .i64 vs, .bool true, .int .u32 tu]⟩]) (sh_good W hC sn ms sc sq lt vm vs tu cl ck sz g0 g1 sx th sm mm sl s8 o A1 n1 k1 A2 n2 k2 shF012 (shF012_ok sn ms sc sq lt vm vs tu cl ck sz g0 g1 sx th sm mm sl s8 o H hv hs hz h0 h1) true (.int .i64 (-1)) true false (-1) (by decide) (by decide) rfl (fun _ => .int _ _) H bth.1 bth.2 bo.1 bo.2 hcl his hck hsz hg0 hg1 (fun h => by cases h)) (shT110112 W sn ms sc sq lt vm vs tu cl ck sz g0 g1 sx th sm mm sl s8 o A1 n1 k1 A2 n2 k2 (shF012_ok sn ms sc sq lt vm vs tu cl ck sz g0 g1 sx th sm mm sl s8 o H hv hs hz h0 h1)) (.cons (.agg (.cons (.sx _ (.v 0)) (.cons (.sx _ (.v 1)) (.cons (.sx _ (.v 2)) (.cons (.bool _) (.cons (.sx _ (.v 3)) (.cons (.ov 0) (.cons (.sx _ (.v 4)) (.cons (.ov 1) .nil))))))))) (.cons (.agg (.cons (.sx _ (.v 5)) (.cons (.sx _ (.v 6)) (.cons (.bool _) (.cons (.sx _ (.v 7)) .nil))))) .nil)) W (fun b _ => rfl) (Nat.le_refl _)
          | false =>
            letI : Inhabited EnvT := shE W sn ms sc sq lt vm vs tu cl ck sz g0 g1 sx th sm mm sl s8 o A1 n1 k1 A2 n2 k2 shF010 (shF010_ok sn ms sc sq lt vm vs tu cl ck sz g0 g1 sx th sm mm sl s8 o H hv hs hz h0 h1)
            exact lawSymX_calls (Vs := [.agg ⟨[.int .i64 sn, .int .u16 ms, .int .i64 sc, .bool true, .int .u32 sq, .slice A1 n1 k1, .int .u8 lt, .slice A2 n2 k2]⟩, .agg ⟨[.int .u16 vm, .int .i64 vs, .bool true, .int .u32 tu]⟩]) (sh_good W hC sn ms sc sq lt vm vs tu cl ck sz g0 g1 sx th sm mm sl s8 o A1 n1 k1 A2 n2 k2 shF010 (shF010_ok sn ms sc sq lt vm vs tu cl ck sz g0 g1 sx th sm mm sl s8 o H hv hs hz h0 h1) true (.int .i64 (-1)) true true (-1) (by decide) (by decide) rfl (fun _ => .int _ _) H bth.1 bth.2 bo.1 bo.2 hcl his hck hsz hg0 hg1 (fun _ => ⟨by rw [shr40, shr8 H.ck0 H.ck1] at h0; simpa using h0, by rw [shr40, shr8 H.ck0 H.ck1] at h1; simpa using h1⟩)) (shT110110 W sn ms sc sq lt vm vs tu cl ck sz g0 g1 sx th sm mm sl s8 o A1 n1 k1 A2 n2 k2 (shF010_ok sn ms sc sq lt vm vs tu cl ck sz g0 g1 sx th sm mm sl s8 o H hv hs hz h0 h1)) (.cons (.agg (.cons (.sx _ (.v 0)) (.cons (.sx _ (.v 1)) (.cons (.sx _ (.v 2)) (.cons (.bool _) (.cons (.sx _ (.v 3)) (.cons (.ov 0) (.cons (.sx _ (.v 4)) (.cons (.ov 1) .nil))))))))) (.cons (.agg (.cons (.sx _ (.v 5)) (.cons (.sx _ (.v 6)) (.cons (.bool _) (.cons (.sx _ (.v 7)) .nil))))) .nil)) W (fun b _ => rfl) (Nat.le_refl _)
      · have hs : sl < 0 := by omega
        rw [if_neg (by omega)] at hck
        cases h0 : (opI .shr .u64 g0 40 == IntKind.u64.wrap (opI .shr .u32 ck 8)) with
        | true =>
          letI : Inhabited EnvT := shE W sn ms sc sq lt vm vs tu cl ck sz g0 g1 sx th sm mm sl s8 o A1 n1 k1 A2 n2 k2 shF001 (shF001_ok sn ms sc sq lt vm vs tu cl ck sz g0 g1 sx th sm mm sl s8 o H hv hs hz h0)
          exact lawSymX_calls (Vs := [.agg ⟨[.int .i64 sn, .int .u16 ms, .int .i64 sc, .bool true, .int .u32 sq, .slice A1 n1 k1, .int .u8 lt, .slice A2 n2 k2]⟩, .agg ⟨[.int .u16 vm, .int .i64 vs, .bool true, .int .u32 tu]⟩]) (sh_good W hC sn ms sc sq lt vm vs tu cl ck sz g0 g1 sx th sm mm sl s8 o A1 n1 k1 A2 n2 k2 shF001 (shF001_ok sn ms sc sq lt vm vs tu cl ck sz g0 g1 sx th sm mm sl s8 o H hv hs hz h0) true (.int .i64 (-1)) true false (-1) (by decide) (by decide) rfl (fun _ => .int _ _) H bth.1 bth.2 bo.1 bo.2 hcl his hck hsz hg0 hg1 (fun h => by cases h)) (shT110011 W sn ms sc sq lt vm vs tu cl ck sz g0 g1 sx th sm mm sl s8 o A1 n1 k1 A2 n2 k2 (shF001_ok sn ms sc sq lt vm vs tu cl ck sz g0 g1 sx th sm mm sl s8 o H hv hs hz h0)) (.cons (.agg (.cons (.sx _ (.v 0)) (.cons (.sx _ (.v 1)) (.cons (.sx _ (.v 2)) (.cons (.bool _) (.cons (.sx _ (.v 3)) (.cons (.ov 0) (.cons (.sx _ (.v 4)) (.cons (.ov 1) .nil))))))))) (.cons (.agg (.cons (.sx _ (.v 5)) (.cons (.sx _ (.v 6)) (.cons (.bool _) (.cons (.sx _ (.v 7)) .nil))))) .nil)) W (fun b _ => rfl) (Nat.le_refl _)
        | false =>
          cases h1 : (opI .shr .u64 g1 40 == IntKind.u64.wrap (opI .shr .u32 ck 8)) with
          | true =>
            letI : Inhabited EnvT := shE W sn ms sc sq lt vm vs tu cl ck sz g0 g1 sx th sm mm sl s8 o A1 n1 k1 A2 n2 k2 shF002 (shF002_ok sn ms sc sq lt vm vs tu cl ck sz g0 g1 sx th sm mm sl s8 o H hv hs hz h0 h1)
            exact lawSymX_calls (Vs := [.agg ⟨[.int .i64 sn, .int .u16 ms, .int .i64 sc, .bool true, .int .u32 sq, .slice A1 n1 k1, .int .u8 lt, .slice A2 n2 k2]⟩, .agg ⟨[.int .u16 vm, .int .i64 vs, .bool true, .int .u32 tu]⟩]) (sh_good W hC sn ms sc sq lt vm vs tu cl ck sz g0 g1 sx th sm mm sl s8 o A1 n1 k1 A2 n2 k2 shF002 (shF002_ok sn ms sc sq lt vm vs tu cl ck sz g0 g1 sx th sm mm sl s8 o H hv hs hz h0 h1) true (.int .i64 (-1)) true false (-1) (by decide) (by decide) rfl (fun _ => .int _ _) H bth.1 bth.2 bo.1 bo.2 hcl his hck hsz hg0 hg1 (fun h => by cases h)) (shT110012 W sn ms sc sq lt vm vs tu cl ck sz g0 g1 sx th sm mm sl s8 o A1 n1 k1 A2 n2 k2 (shF002_ok sn ms sc sq lt vm vs tu cl ck sz g0 g1 sx th sm mm sl s8 o H hv hs hz h0 h1)) (.cons (.agg (.cons (.sx _ (.v 0)) (.cons (.sx _ (.v 1)) (.cons (.sx _ (.v 2)) (.cons (.bool _) (.cons (.sx _ (.v 3)) (.cons (.ov 0) (.cons (.sx _ (.v 4)) (.cons (.ov 1) .nil))))))))) (.cons (.agg (.cons (.sx _ (.v 5)) (.cons (.sx _ (.v 6)) (.cons (.bool _) (.cons (.sx _ (.v 7)) .nil))))) .nil)) W (fun b _ => rfl) (Nat.le_refl _)
          | false =>
            letI : Inhabited EnvT := shE W sn ms sc sq lt vm vs tu cl ck sz g0 g1 sx th sm mm sl s8 o A1 n1 k1 A2 n2 k2 shF000 (shF000_ok sn ms sc sq lt vm vs tu cl ck sz g0 g1 sx th sm mm sl s8 o H hv hs hz h0 h1)
            exact lawSymX_calls (Vs := [.agg ⟨[.int .i64 sn, .int .u16 ms, .int .i64 sc, .bool true, .int .u32 sq, .slice A1 n1 k1, .int .u8 lt, .slice A2 n2 k2]⟩, .agg ⟨[.int .u16 vm, .int .i64 vs, .bool true, .int .u32 tu]⟩]) (sh_good W hC sn ms sc sq lt vm vs tu cl ck sz g0 g1 sx th sm mm sl s8 o A1 n1 k1 A2 n2 k2 shF000 (shF000_ok sn ms sc sq lt vm vs tu cl ck sz g0 g1 sx th sm mm sl s8 o H hv hs hz h0 h1) true (.int .i64 (-1)) true true (-1) (by decide) (by decide) rfl (fun _ => .int _ _) H bth.1 bth.2 bo.1 bo.2 hcl his hck hsz hg0 hg1 (fun _ => ⟨by rw [shr40, shr8 H.ck0 H.ck1] at h0; simpa using h0, by rw [shr40, shr8 H.ck0 H.ck1] at h1; simpa using h1⟩)) (shT110010 W sn ms sc sq lt vm vs tu cl ck sz g0 g1 sx th sm mm sl s8 o A1 n1 k1 A2 n2 k2 (shF000_ok sn ms sc sq lt vm vs tu cl ck sz g0 g1 sx th sm mm sl s8 o H hv hs hz h0 h1)) (.cons (.agg (.cons (.sx _ (.v 0)) (.cons (.sx _ (.v 1)) (.cons (.sx _ (.v 2)) (.cons (.bool _) (.cons (.sx _ (.v 3)) (.cons (.ov 0) (.cons (.sx _ (.v 4)) (.cons (.ov 1) .nil))))))))) (.cons (.agg (.cons (.sx _ (.v 5)) (.cons (.sx _ (.v 6)) (.cons (.bool _) (.cons (.sx _ (.v 7)) .nil))))) .nil)) W (fun b _ => rfl) (Nat.le_refl _)

theorem shakes_walk (W : World) (hC : CW W) (sn ms sc sq lt vm vs tu : Int) (sa va : Bool) (i0 : -9223372036854775808 ≤ sn ∧ sn ≤ 9223372036854775807) (i1 : 0 ≤ ms ∧ ms ≤ 65535) (i2 : -9223372036854775808 ≤ sc ∧ sc ≤ 9223372036854775807) (i3 : 0 ≤ sq ∧ sq ≤ 4294967295) (i5 : 0 ≤ lt ∧ lt ≤ 255) (i6 : 0 ≤ vm ∧ vm ≤ 65535) (i7 : -9223372036854775808 ≤ vs ∧ vs ≤ 9223372036854775807) (i8 : 0 ≤ tu ∧ tu ≤ 4294967295) (A1 : Option Addr) (n1 k1 : Nat) (A2 : Option Addr) (n2 k2 : Nat) :
    Calls Tryz.prog 3 #[.agg #[.int .i64 sn, .int .u16 ms, .int .i64 sc, .bool sa, .int .u32 sq, .slice A1 n1 k1, .int .u8 lt, .slice A2 n2 k2], .agg #[.int .u16 vm, .int .i64 vs, .bool va, .int .u32 tu]] W fun e W' => e = .returned (.bool true) ∧ Below W.heap.size W W' := by
  cases sa <;> cases va
  · exact shakes00 W hC sn ms sc sq lt vm vs tu i0 i1 i2 i3 i5 i6 i7 i8 A1 n1 k1 A2 n2 k2
  · exact shakes01 W hC sn ms sc sq lt vm vs tu i0 i1 i2 i3 i5 i6 i7 i8 A1 n1 k1 A2 n2 k2
  · exact shakes10 W hC sn ms sc sq lt vm vs tu i0 i1 i2 i3 i5 i6 i7 i8 A1 n1 k1 A2 n2 k2
  · exact shakes11 W hC sn ms sc sq lt vm vs tu i0 i1 i2 i3 i5 i6 i7 i8 A1 n1 k1 A2 n2 k2
end Go.Proofs.YtijkbcjpbhcfcaaGreatDoor

namespace Go.Proofs.YtijkbcjpbhcfcaaGreatDoor
open Go.RowKit Go.ChangeShapes Go.WideShapes Go.ChangeAt Go.Joins Go.Lib
set_option linter.unusedVariables false
set_option linter.unusedSimpArgs false

theorem Tryz.caseX : CaseExtra Tryz.prog Tryz.lowerL_ren := {
  n13 := by kernel_rfl,
  y13 := by kernel_rfl,
  c21 := by kernel_rfl,
  c51 := by kernel_rfl,
  c206 := by kernel_rfl,
  c208 := by kernel_rfl }
theorem Tryz.utf8X : U8Extra Tryz.prog Tryz.lowerL_ren := {
  n3 := by kernel_rfl,
  n4 := by kernel_rfl,
  y3 := by kernel_rfl,
  y4 := by kernel_rfl,
  c5 := by kernel_rfl,
  c119 := by kernel_rfl,
  c138 := by kernel_rfl }
theorem Tryz.gT : Tryz.prog.globalNamed "culvert/cookie.classes" = some 0 := by kernel_rfl
theorem Tryz.gTType : (Tryz.prog.globals[0]?).map (·.type) = some 82 := by kernel_rfl
theorem Tryz.cgu : Tryz.prog.cellsOf 22 = 1 := by kernel_rfl
theorem Tryz.cga : Tryz.prog.cellsOf 82 = 8 := by kernel_rfl
theorem classes_of {W : World} (h : VarReads Tryz.prog W "culvert/cookie.classes" Rows.laid_culvert_cookie_classes) : Laid W := by
  obtain ⟨g', t', cs, fuel, p, hg', ht', hvar, hd⟩ := h
  obtain rfl := Option.some.inj (Tryz.gT.symm.trans hg')
  obtain rfl := Option.some.inj (Tryz.gTType.symm.trans ht')
  have hT : TabIs Tryz.prog W "culvert/cookie.classes" .u16 tab := by
    unfold TabIs
    rw [hvar, ← cells_of_tab Tryz.underlying82 Tryz.underlying22 Tryz.cgu Tryz.cga (zs := tab) hd]
  intro k hk
  exact hT.cell Tryz.gT k hk
set_option maxRecDepth 100000 in
theorem laid_lw {W : World} {l : List (String × DataW Unit)} (h : laidMet Tryz.prog l W) (h1 : ("unicode.CaseRanges", Rows.laid_unicode_CaseRanges) ∈ l) (h2 : ("unicode/utf8.first", Rows.laid_unicode_utf8_first) ∈ l) (h3 : ("unicode/utf8.acceptRanges", Rows.laid_unicode_utf8_acceptRanges) ∈ l) (hs : W.ShapedOpen Tryz.prog) : LW W where
  maxl := Tryz.splitL.s1_3 W hs
  case := by
    have h0 := laidMet.reads h h1
    have e : Rows.laid_unicode_CaseRanges = caseData := Pinned.caseRanges_eq
    rw [e] at h0
    exact caseVar_of_reads (ρ := Tryz.lowerL_ren) { Tryz.lowerL with } (by kernel_rfl) Tryz.caseX h0
  utf8 := by
    have h0 := laidMet.reads h h2
    have e : Rows.laid_unicode_utf8_first = firstData := Pinned.utf8First_eq
    rw [e] at h0
    have h4 := laidMet.reads h h3
    have e2 : Rows.laid_unicode_utf8_acceptRanges = acceptData := by kernel_rfl
    rw [e2] at h4
    exact utf8Tabs_of_reads (ρ := Tryz.lowerL_ren) { Tryz.lowerL with } Tryz.utf8X h0 h4
theorem laid_of {W : World} {l : List (String × DataW Unit)} (h : laidMet Tryz.prog l W) (h1 : ("unicode.CaseRanges", Rows.laid_unicode_CaseRanges) ∈ l) (h2 : ("unicode/utf8.first", Rows.laid_unicode_utf8_first) ∈ l) (h3 : ("unicode/utf8.acceptRanges", Rows.laid_unicode_utf8_acceptRanges) ∈ l) (h4 : ("culvert/cookie.classes", Rows.laid_culvert_cookie_classes) ∈ l) (hs : W.ShapedOpen Tryz.prog) : CW W :=
  ⟨laid_lw h h1 h2 h3 hs, classes_of (laidMet.reads h h4)⟩
def foldCells : Array Value := (#[0, 1, 2, 3, 4, 5, 6, 7, 8, 9, 10, 11, 12, 13, 14, 15, 16, 17, 18, 19, 20, 21, 22, 23, 24, 25, 26, 27, 28, 29, 30, 31, 32, 33, 34, 35, 36, 37, 38, 39, 40, 41, 42, 43, 44, 45, 46, 47, 48, 49, 50, 51, 52, 53, 54, 55, 56, 57, 58, 59, 60, 61, 62, 63, 64, 97, 98, 99, 100, 101, 102, 103, 104, 105, 106, 107, 108, 109, 110, 111, 112, 113, 114, 115, 116, 117, 118, 119, 120, 121, 122, 91, 92, 93, 94, 95, 96, 65, 66, 67, 68, 69, 70, 71, 72, 73, 74, 8490, 76, 77, 78, 79, 80, 81, 82, 383, 84, 85, 86, 87, 88, 89, 90, 123, 124, 125, 126, 127] : Array Int).map (fun z => Value.int .u16 z)
def orbitCells : Array Value := (#[75, 107, 83, 115, 107, 8490, 115, 383, 181, 924, 197, 229, 223, 7838, 229, 8491, 304, 304, 305, 305, 383, 83, 452, 453, 453, 454, 454, 452, 455, 456, 456, 457, 457, 455, 458, 459, 459, 460, 460, 458, 497, 498, 498, 499, 499, 497, 837, 921, 912, 8147, 914, 946, 917, 949, 920, 952, 921, 953, 922, 954, 924, 956, 928, 960, 929, 961, 931, 962, 934, 966, 937, 969, 944, 8163, 946, 976, 949, 1013, 952, 977, 953, 8126, 954, 1008, 956, 181, 960, 982, 961, 1009, 962, 963, 963, 931, 966, 981, 969, 8486, 976, 914, 977, 1012, 981, 934, 982, 928, 1008, 922, 1009, 929, 1012, 920, 1013, 917, 1042, 1074, 1044, 1076, 1054, 1086, 1057, 1089, 1058, 1090, 1066, 1098, 1074, 7296, 1076, 7297, 1086, 7298, 1089, 7299, 1090, 7300, 1098, 7302, 1122, 1123, 1123, 7303, 7296, 1042, 7297, 1044, 7298, 1054, 7299, 1057, 7300, 7301, 7301, 1058, 7302, 1066, 7303, 1122, 7304, 42570, 7776, 7777, 7777, 7835, 7835, 7776, 7838, 223, 8126, 837, 8147, 912, 8163, 944, 8486, 937, 8490, 75, 8491, 197, 42570, 42571, 42571, 7304, 64261, 64262, 64262, 64261] : Array Int).map (fun z => Value.int .u16 z)
noncomputable def tabWorld (os : Os) : World :=
  let N := (World.settled Tryz.prog os).heap.size
  let w0 := World.holding Tryz.prog os ⟨#[.cells Lib.caseCells5 (Tryz.lowerL_ren.t 208), .cells orbitCells 186], #[], []⟩
  let put (h : Array Obj) (g : Nat) (cs : Array Value) : Array Obj := h.modify g fun
    | .cells _ t frozen => .cells cs t frozen
    | o => o
  let h2 := put w0.heap (Tryz.lowerL_ren.g 3) (Lib.firstTab.map fun z => Value.int .u8 z).toArray
  let h3 := put h2 (Tryz.lowerL_ren.g 4) ((List.range 16).flatMap fun i => [Value.int .u8 (Lib.accLo i), Value.int .u8 (Lib.accHi i)]).toArray
  let h4 := put h3 1 foldCells
  let h5 := put h4 2 #[.slice (some ⟨N + 1, 0, none⟩) 94 94]
  let h6 := put h5 (Tryz.lowerL_ren.g 13) #[.slice (some ⟨N, 0, none⟩) 336 336]
  let h7 := put h6 0 (tab.map fun z => Value.int .u16 z).toArray
  { w0 with heap := h7 }
set_option maxRecDepth 100000 in
theorem laid_met0 (os : Os) (args : Array Value) : laidMet Tryz.prog ([("unicode/utf8.acceptRanges", Lib.acceptData), ("culvert/cookie.classes", Rows.laid_culvert_cookie_classes), ("unicode.asciiFold", Rows.laid_unicode_asciiFold), ("unicode.caseOrbit", Rows.laid_unicode_caseOrbit), ("unicode/utf8.first", Lib.firstData)] ++ [("unicode.CaseRanges", caseData)]) ((tabWorld os).forCall (fun _ _ => 0) ⟨#[], args, []⟩).memory :=
  laidMet_with_case (ρ := Tryz.lowerL_ren) { Tryz.lowerL with } (by kernel_rfl) Tryz.caseX
    (l := [("unicode/utf8.acceptRanges", Lib.acceptData), ("culvert/cookie.classes", Rows.laid_culvert_cookie_classes), ("unicode.asciiFold", Rows.laid_unicode_asciiFold), ("unicode.caseOrbit", Rows.laid_unicode_caseOrbit), ("unicode/utf8.first", Lib.firstData)])
    10 (by kernel_rfl) (by kernel_rfl) (by kernel_rfl) ((World.settled Tryz.prog default).heap.size) (Tryz.lowerL_ren.t 208) (of_decide_eq_true (by kernel_rfl)) (by kernel_rfl) (by kernel_rfl) (by kernel_rfl)
theorem laidMet_swap {P : Program} {w : World} {x0 xc x1 x y z : String × DataW Unit} (h : laidMet P [x0, xc, x1, x, y, z] w) : laidMet P [x0, xc, x1, x, z, y] w := by
  obtain ⟨n4, e4⟩ := x0
  obtain ⟨n6, e6⟩ := xc
  obtain ⟨n5, e5⟩ := x1
  obtain ⟨n1, e1⟩ := x
  obtain ⟨n2, e2⟩ := y
  obtain ⟨n3, e3⟩ := z
  obtain ⟨ps, hv, hn, hc⟩ := h
  obtain ⟨g4, t4, cs4, f4, p4, q4, a4, b4, c4, d4, ⟨g6, t6, cs6, f6, p6, q6, a6, b6, c6, d6, ⟨g5, t5, cs5, f5, p5, q5, a5, b5, c5, d5, ⟨g1, t1, cs1, f1, p1, q1, a1, b1, c1, d1, ⟨g2, t2, cs2, f2, p2, q2, a2, b2, c2, d2, ⟨g3, t3, cs3, f3, p3, q3, a3, b3, c3, d3, hq, r3⟩, r2⟩, r1⟩, r5⟩, r6⟩, r4⟩ := hv
  have hq' : q3 = [] := hq
  subst hq'
  subst r3 r2 r1 r5 r6 r4
  have hp0 : (MemPlace.row ⟨g1, 0, none⟩ cs1.size ++ p1 ++ (MemPlace.row ⟨g2, 0, none⟩ cs2.size ++ p2 ++ (MemPlace.row ⟨g3, 0, none⟩ cs3.size ++ p3 ++ []))).Perm (MemPlace.row ⟨g1, 0, none⟩ cs1.size ++ p1 ++ (MemPlace.row ⟨g3, 0, none⟩ cs3.size ++ p3 ++ (MemPlace.row ⟨g2, 0, none⟩ cs2.size ++ p2 ++ []))) := by
    refine List.Perm.append_left _ ?_
    rw [List.append_nil, List.append_nil]
    exact List.perm_append_comm
  have hp := List.Perm.append_left (MemPlace.row ⟨g4, 0, none⟩ cs4.size ++ p4) (List.Perm.append_left (MemPlace.row ⟨g6, 0, none⟩ cs6.size ++ p6) (List.Perm.append_left (MemPlace.row ⟨g5, 0, none⟩ cs5.size ++ p5) hp0))
  refine ⟨_, ⟨g4, t4, cs4, f4, p4, _, a4, b4, c4, d4, ⟨g6, t6, cs6, f6, p6, _, a6, b6, c6, d6, ⟨g5, t5, cs5, f5, p5, _, a5, b5, c5, d5, ⟨g1, t1, cs1, f1, p1, _, a1, b1, c1, d1, ⟨g3, t3, cs3, f3, p3, _, a3, b3, c3, d3, ⟨g2, t2, cs2, f2, p2, [], a2, b2, c2, d2, rfl, rfl⟩, rfl⟩, rfl⟩, rfl⟩, rfl⟩, rfl⟩, hp.nodup_iff.1 hn, fun b off hm => hc b off (hp.mem_iff.2 hm)⟩
set_option maxRecDepth 100000 in
theorem laid_met (os : Os) (args : Array Value) : laidMet Tryz.prog [("unicode/utf8.acceptRanges", Rows.laid_unicode_utf8_acceptRanges), ("culvert/cookie.classes", Rows.laid_culvert_cookie_classes), ("unicode.asciiFold", Rows.laid_unicode_asciiFold), ("unicode.caseOrbit", Rows.laid_unicode_caseOrbit), ("unicode.CaseRanges", Rows.laid_unicode_CaseRanges), ("unicode/utf8.first", Rows.laid_unicode_utf8_first)] ((tabWorld os).forCall (fun _ _ => 0) ⟨#[], args, []⟩).memory := by
  have e1 : Rows.laid_unicode_CaseRanges = caseData := Pinned.caseRanges_eq
  have e2 : Rows.laid_unicode_utf8_first = firstData := Pinned.utf8First_eq
  have e3 : Rows.laid_unicode_utf8_acceptRanges = acceptData := by kernel_rfl
  rw [e1, e2, e3]
  exact laidMet_swap (laid_met0 os args)
theorem handed_and_shaped {H : Type} {enc : TypeId × Value → H} {a : Assume} {C : Checked} {os : Os} {f : FuncId} {fn : Func} {s : ChangeSpec} {conds : List PathCond} {apart fresh handsOn again : Bool} {X : World → Array Value → Prop}
    (hX : ∀ (w w' : World) (args : Array Value), w.heap = w'.heap → X w args → X w' args)
    (own : ownKnob C.prog.godebug = none) (started : os.Started) (noInit : C.prog.inits.idxOf? f = none) (hfn : C.prog.funcs[f]? = some fn)
    (witness : ∃ (w : World) (tape : Tape) (i : Input), w.os = os ∧ (w.forCall tape i).Shaped C.prog ∧ i.vars = [] ∧ Input.okWide C.prog (w.forCall tape i) .any w.heap.size f i ∧
      ((s.pre enc C.prog fn conds apart (w.forCall tape i).memory i.args ∧ X (w.forCall tape i).memory i.args) ∧ sizedMet enc C.prog fn (OpenSpec.ofChange s) apart (w.forCall tape i).memory i.args) ∧ a.holds C.prog (lone (Frame.enter C.prog f i.args .normal) [] (w.forCall tape i)))
    (contract : ∀ (W : World) (base : Nat) (args : Array Value) (ds gs : List (DataW H)) (before : List MemPlace),
      (∀ (j : Nat) t v, fn.params[j]? = some t → args[j]? = some v → Value.okWide C.prog W .any base t v) →
      DataW.Whole enc C.prog fn.params.toList s.vars apart W args.toList ds gs before →
      conds.all (PathCond.test C.prog ⟨fn.params.toList, ds, s.plain.varTypes C.prog, gs⟩) = true →
      (DataW.weightsEach C.prog (fn.params.toList ++ s.plain.varTypes C.prog) (ds ++ gs)).all (· ≤ reachBytes) = true → X W args →
      W.ShapedOpen C.prog →
      Calls C.prog f args W fun e W' => ∃ v, e = .returned v ∧ s.post enc C.prog fn apart fresh handsOn again W args v W') :
    ReturnsInHanded a C os f .any (fun w args => (s.pre enc C.prog fn conds apart w args ∧ X w args) ∧ sizedMet enc C.prog fn (OpenSpec.ofChange s) apart w args) (s.post enc C.prog fn apart fresh handsOn again) := by
  refine returnsInHanded_of_calls own started noInit witness ?_
  intro w tape i _ hsh _ hok hpre hholds
  obtain ⟨_, _, _, fn', hfn', _, _, _, _, hval⟩ := hok
  have e : fn' = fn := Option.some.inj (hfn'.symm.trans hfn)
  subst e
  obtain ⟨⟨⟨ds, gs, before, hw, hc⟩, hx⟩, hz⟩ := hpre
  have hw' := DataW.Whole.of_heap (w' := w.forCall tape i) (by rfl) hw
  refine (contract (w.forCall tape i) w.heap.size i.args ds gs before hval hw' hc (hz.weights hw) (hX _ _ _ (by rfl) hx) hsh).mono fun e W' ⟨v, he, hp⟩ => ?_
  subst he
  exact ChangeSpec.post_blind hp
theorem witness_atRef {H : Type} {enc : TypeId × Value → H} {C : Checked} {os : Os} {f : FuncId} {fn : Func} {s : ChangeSpec} {conds : List PathCond} {apart : Bool} {X : World → Array Value → Prop} (modest : Bool) (w0 : World) (args : Array Value) (fuel : Nat) (hos : w0.os = os)
    (hv : (w0.forCall (fun _ _ => 0) ⟨#[], args, []⟩).variablesRefB C.prog = true)
    (hr : ((w0.forCall (fun _ _ => 0) ⟨#[], args, []⟩).heap.toList.drop C.prog.globals.size).take ((begin C.prog (fun _ _ => 0) default).world.heap.size - C.prog.globals.size) =
      (begin C.prog (fun _ _ => 0) default).world.heap.toList.drop C.prog.globals.size)
    (hok : Input.okWideB C.prog (w0.forCall (fun _ _ => 0) ⟨#[], args, []⟩) f ⟨#[], args, []⟩ = true)
    (hpre : s.preB enc C.prog fn conds apart (w0.forCall (fun _ _ => 0) ⟨#[], args, []⟩).memory args fuel = true)
    (hsz : s.sizedB enc C.prog fn apart (w0.forCall (fun _ _ => 0) ⟨#[], args, []⟩).memory args fuel = true)
    (hx : X (w0.forCall (fun _ _ => 0) ⟨#[], args, []⟩).memory args) :
    ∃ (w : World) (tape : Tape) (i : Input), w.os = os ∧ (w.forCall tape i).Shaped C.prog ∧ i.vars = [] ∧ Input.okWide C.prog (w.forCall tape i) .any w.heap.size f i ∧
      ((s.pre enc C.prog fn conds apart (w.forCall tape i).memory i.args ∧ X (w.forCall tape i).memory i.args) ∧ sizedMet enc C.prog fn (OpenSpec.ofChange s) apart (w.forCall tape i).memory i.args) ∧ ({ modest := modest } : Assume).holds C.prog (lone (Frame.enter C.prog f i.args .normal) [] (w.forCall tape i)) :=
  ⟨w0, fun _ _ => 0, ⟨#[], args, []⟩, hos, World.shaped_of_RefB hv hr, (Input.okWide_of_okWideB (base := 0) hok).1, (Input.okWide_of_okWideB hok).2, ⟨⟨ChangeSpec.pre_of_preB hpre, hx⟩, sizedMet_of_sizedB hsz⟩, by
    simp only [Assume.holds]
    exact ⟨by simp, by simp, fun _ => Modest.zero, by simp, by simp⟩⟩
end Go.Proofs.YtijkbcjpbhcfcaaGreatDoor

namespace Go.Proofs.YtijkbcjpbhcfcaaGreatDoor
open Go.RowKit Go.ChangeShapes Go.WideShapes Go.ChangeAt Go.Joins Go.Lib
set_option linter.unusedVariables false
set_option linter.unusedSimpArgs false

theorem Tryz.oc8 : Tryz.prog.cellsOf 5 = 1 := by kernel_rfl
theorem Tryz.oc16 : Tryz.prog.cellsOf 22 = 1 := by kernel_rfl
theorem Tryz.oc32 : Tryz.prog.cellsOf 23 = 1 := by kernel_rfl
theorem Tryz.oci : Tryz.prog.cellsOf 3 = 1 := by kernel_rfl
theorem Tryz.ocb : Tryz.prog.cellsOf 4 = 1 := by kernel_rfl
theorem Tryz.oco : Tryz.prog.cellsOf 24 = 1 := by kernel_rfl
theorem Tryz.oca : Tryz.prog.cellsOf 27 = 1 := by kernel_rfl
theorem Tryz.och : Tryz.prog.cellsOf 26 = 3 := by kernel_rfl
theorem Tryz.ocs : Tryz.prog.cellsOf 29 = 8 := by kernel_rfl
theorem oarray4 {α : Type} {cs : Array α} (h : cs.size = 4) : ∃ c0 c1 c2 c3, cs = #[c0, c1, c2, c3] := by
  obtain ⟨l⟩ := cs
  match l, h with
  | [c0, c1, c2, c3], _ => exact ⟨c0, c1, c2, c3, rfl⟩
theorem oarray8 {α : Type} {cs : Array α} (h : cs.size = 8) : ∃ c0 c1 c2 c3 c4 c5 c6 c7, cs = #[c0, c1, c2, c3, c4, c5, c6, c7] := by
  obtain ⟨l⟩ := cs
  match l, h with
  | [c0, c1, c2, c3, c4, c5, c6, c7], _ => exact ⟨c0, c1, c2, c3, c4, c5, c6, c7, rfl⟩
theorem slice_form {H : Type} {enc : TypeId × Value → H} {P : Program} {W : World} {base : Nat} {sp : Nat → Bool} {held : Bool} {fuel : Nat} {t e : TypeId} {c : Value} {x : DataW H × List MemPlace} (ht : P.underlying t = some (.slice e)) (hf : DataW.trod enc P W base sp held fuel t [c] = some x) : ∃ A n k, c = .slice A n k := by
  rcases DataW.trod_slice ht hf with ⟨hcs, _⟩ | ⟨a, len, cap, elems, rest, n, _, hcs, _⟩
  · simp at hcs
    exact ⟨none, 0, 0, hcs⟩
  · simp at hcs
    exact ⟨some a, len, cap, hcs⟩
set_option maxRecDepth 100000 in
set_option maxHeartbeats 1000000 in
theorem open_script {H : Type} {enc : TypeId × Value → H} {W : World} {base : Nat} {v : Value} {d : DataW H} {p : List MemPlace} (o : Value.okWide Tryz.prog W .any base 29 v) (h : DataW.Trod enc Tryz.prog W 0 (fun _ => true) true 29 v d p) :
    ∃ (sn ms sc : Int) (sa : Bool) (sq : Int) (A1 : Option Addr) (n1 k1 : Nat) (lt : Int) (A2 : Option Addr) (n2 k2 : Nat), v = .agg #[.int .i64 sn, .int .u16 ms, .int .i64 sc, .bool sa, .int .u32 sq, .slice A1 n1 k1, .int .u8 lt, .slice A2 n2 k2] ∧ (-9223372036854775808 ≤ sn ∧ sn ≤ 9223372036854775807) ∧ (0 ≤ ms ∧ ms ≤ 65535) ∧ (-9223372036854775808 ≤ sc ∧ sc ≤ 9223372036854775807) ∧ (0 ≤ sq ∧ sq ≤ 4294967295) ∧ (0 ≤ lt ∧ lt ≤ 255) := by
  obtain ⟨cs, rfl, hsz⟩ := okWide_struct Tryz.underlying29 o
  obtain ⟨c0, c1, c2, c3, c4, c5, c6, c7, rfl⟩ := oarray8 (hsz.trans Tryz.ocs)
  obtain ⟨fuel, hf⟩ := h
  obtain ⟨xs, m, _, _, _, hlen, hg⟩ := DataW.trod_struct Tryz.underlying29 hf
  match xs, hlen with
  | [z0, z1, z2, z3, z4, z5], _ =>
    have g0 := hg 0 _ rfl
    have g1 := hg 1 _ rfl
    have g2 := hg 2 _ rfl
    have g3 := hg 3 _ rfl
    have g4 := hg 4 _ rfl
    have g5 := hg 5 _ rfl
    simp [Value.cells, Tryz.oci, Tryz.oc16, Tryz.ocb, Tryz.och, Tryz.oca] at g0 g1 g2 g3 g4 g5
    obtain ⟨sn, q0, _, w0⟩ := DataW.trod_int Tryz.underlying3 g0
    obtain ⟨ms, q1, _, w1⟩ := DataW.trod_int Tryz.underlying22 g1
    obtain ⟨sc, q2, _, w2⟩ := DataW.trod_int Tryz.underlying3 g2
    obtain ⟨sa, q3, _⟩ := DataW.trod_bool Tryz.underlying4 g3
    obtain ⟨A2, n2, k2, rfl⟩ := slice_form Tryz.underlying27 g5
    obtain ⟨ys, m2, _, _, _, hlen2, hg2⟩ := DataW.trod_struct Tryz.underlying26 g4
    match ys, hlen2 with
    | [y0, y1, y2], _ =>
      have e0 := hg2 0 _ rfl
      have e1 := hg2 1 _ rfl
      have e2 := hg2 2 _ rfl
      simp [Tryz.oc32, Tryz.oco, Tryz.oc8] at e0 e1 e2
      obtain ⟨sq, r0, _, v0⟩ := DataW.trod_int Tryz.underlying23 e0
      obtain ⟨A1, n1, k1, rfl⟩ := slice_form Tryz.underlying24 e1
      obtain ⟨lt, r2, _, v2⟩ := DataW.trod_int Tryz.underlying5 e2
      simp at q0 q1 q2 q3 r0 r2
      subst q0 q1 q2 q3 r0 r2
      exact ⟨sn, ms, sc, sa, sq, A1, n1, k1, lt, A2, n2, k2, rfl, bounds_i64 w0, bounds_u16 w1, bounds_i64 w2, bounds_u32 v0, bounds_u8 v2⟩
end Go.Proofs.YtijkbcjpbhcfcaaGreatDoor

namespace Go.Proofs.YtijkbcjpbhcfcaaGreatDoor
open Go.RowKit Go.ChangeShapes Go.WideShapes Go.ChangeAt Go.Joins Go.Lib
set_option linter.unusedVariables false

theorem Tryz.ocf : Tryz.prog.cellsOf 31 = 4 := by kernel_rfl
set_option maxRecDepth 100000 in
theorem open_offer {H : Type} {enc : TypeId × Value → H} {W : World} {base : Nat} {v : Value} {d : DataW H} {p : List MemPlace} (o : Value.okWide Tryz.prog W .any base 31 v) (h : DataW.Trod enc Tryz.prog W 0 (fun _ => true) true 31 v d p) :
    ∃ (vm vs : Int) (va : Bool) (tu : Int), v = .agg #[.int .u16 vm, .int .i64 vs, .bool va, .int .u32 tu] ∧ (0 ≤ vm ∧ vm ≤ 65535) ∧ (-9223372036854775808 ≤ vs ∧ vs ≤ 9223372036854775807) ∧ (0 ≤ tu ∧ tu ≤ 4294967295) := by
  obtain ⟨cs, rfl, hsz⟩ := okWide_struct Tryz.underlying31 o
  obtain ⟨c0, c1, c2, c3, rfl⟩ := oarray4 (hsz.trans Tryz.ocf)
  obtain ⟨fuel, hf⟩ := h
  obtain ⟨xs, m, _, _, _, hlen, hg⟩ := DataW.trod_struct Tryz.underlying31 hf
  match xs, hlen with
  | [z0, z1, z2, z3], _ =>
    have g0 := hg 0 _ rfl
    have g1 := hg 1 _ rfl
    have g2 := hg 2 _ rfl
    have g3 := hg 3 _ rfl
    simp [Value.cells, Tryz.oci, Tryz.oc16, Tryz.ocb, Tryz.oc32] at g0 g1 g2 g3
    obtain ⟨vm, q0, _, w0⟩ := DataW.trod_int Tryz.underlying22 g0
    obtain ⟨vs, q1, _, w1⟩ := DataW.trod_int Tryz.underlying3 g1
    obtain ⟨va, q2, _⟩ := DataW.trod_bool Tryz.underlying4 g2
    obtain ⟨tu, q3, _, w3⟩ := DataW.trod_int Tryz.underlying23 g3
    simp at q0 q1 q2 q3
    subst q0 q1 q2 q3
    exact ⟨vm, vs, va, tu, rfl, bounds_u16 w0, bounds_i64 w1, bounds_u32 w3⟩
set_option maxRecDepth 100000 in
theorem connShakes_typed {H : Type} (enc : TypeId × Value → H) (W : World) (base : Nat) {v0 v1 : Value} {d0 d1 : DataW H} {p0 p1 : List MemPlace}
    (o0 : Value.okWide Tryz.prog W .any base 29 v0) (o1 : Value.okWide Tryz.prog W .any base 31 v1)
    (h0 : DataW.Trod enc Tryz.prog W 0 (fun _ => true) true 29 v0 d0 p0) (h1 : DataW.Trod enc Tryz.prog W 0 (fun _ => true) true 31 v1 d1 p1) (hC : CW W) :
    Calls Tryz.prog 3 #[v0, v1] W fun e W' => e = .returned (.bool true) ∧ Below W.heap.size W W' := by
  obtain ⟨sn, ms, sc, sa, sq, A1, n1, k1, lt, A2, n2, k2, rfl, i0, i1, i2, i3, i5⟩ := open_script o0 h0
  obtain ⟨vm, vs, va, tu, rfl, i6, i7, i8⟩ := open_offer o1 h1
  exact shakes_walk W hC sn ms sc sq lt vm vs tu sa va i0 i1 i2 i3 i5 i6 i7 i8 A1 n1 k1 A2 n2 k2
end Go.Proofs.YtijkbcjpbhcfcaaGreatDoor

