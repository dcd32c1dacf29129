/-
  The walks of wire.U16 over nothing and of tls.with. Condition: fewer than 65,536 bytes.
-/
import Derived.Test.YtpoheemjdieogaaGreatDoorFoldQ
import Derived.Test.YtpoheemjdieogaaGreatDoorTlsK
namespace Go.Proofs.YtpoheemjdieogaaGreatDoor
open Go.RowKit Go.Lib
set_option linter.unusedVariables false
set_option linter.unusedSimpArgs false

/-- a number of two bytes -/
def u16L (n : Nat) : List UInt8 := [UInt8.ofNat (n / 256), UInt8.ofNat n]
/-- how many bytes, and they -/
def withL (l : List UInt8) : List UInt8 := u16L l.length ++ l
theorem withL_len (l : List UInt8) : (withL l).length = l.length + 2 := by simp [withL, u16L]
theorem u16_cells {n : Nat} (hn : n < 65536) : (#[Value.int .u8 ((n : Int) / 256), .int .u8 ((n : Int) % 256)] : Array Value).toList = (u16L n).map u8V := by
  have h1 : (UInt8.ofNat (n / 256)).toNat = n / 256 := by simp [UInt8.toNat_ofNat']; omega
  have h2 : (UInt8.ofNat n).toNat = n % 256 := by simp [UInt8.toNat_ofNat']
  simp only [u16L, List.map_cons, List.map_nil, u8V, h1, h2]
  rfl
theorem u8_of {n : Nat} (h : n < 256) : (UInt8.ofNat n).toNat = n := by simp [UInt8.toNat_ofNat']; omega
set_option maxRecDepth 100000 in
set_option maxHeartbeats 4000000 in
theorem u16_any (w : World) (n : Nat) (hn : n < 65536) : Calls Tryz.prog 73 #[.slice none 0 0, .int .u16 n] w fun e w' => ∃ v, e = .returned v ∧ w'.ownsRow w.heap.size 5 1 v 2 ((u16L n).map u8V) ∧ Keeps [] w w' := by
  have HC := Lib.hid (sclone_own w none 0 0 [] (BytesV.nil w) (by omega))
  go_enter Tryz.func73, Tryz.ntmps73
  go_wp2_with fail
  refine HC.out.mono ?_
  rintro e w1 ⟨v, rfl, hown, k1⟩
  have HO := Lib.hid hown
  have HK := Lib.hid k1
  have HN := Lib.hid (own_new w1 _ (u16L n) (u16_cells hn) (by simp [u16L, maxLen]))
  clear hown k1 HC
  go_wp2_with (at_builtin; refine wpList_append_bytes rfl _ _ w.heap.size 22 5 rfl Tryz.underlying22 Tryz.infoU8 _ 0 [] rfl (own_keep0 HO.out (Keeps.alloc [] w1 _)) _ (u16L n) rfl (BytesV.of_own HN.out) (by simp [u16L]) (Nat.le_trans HK.out.size (Keeps.alloc [] w1 _).size) ?_; intro v2 w2 hown2 hg2 hb2 _)
  go_ret
  refine ⟨_, rfl, by simpa [u16L] using hown2, ?_⟩
  exact grow_keeps (HK.out.alloc' _) (own_keep0 HO.out (Keeps.alloc [] w1 _)) (Nat.le_refl _) hg2
set_option maxRecDepth 100000 in
set_option maxHeartbeats 4000000 in
theorem with_any (w : World) (A : Option Addr) (n c : Nat) (l : List UInt8) (h : BytesV w (.slice A n c) l) (hn : n < 65536) : Calls Tryz.prog 47 #[.slice A n c] w fun e w' => ∃ v, e = .returned v ∧ w'.ownsRow w.heap.size 5 1 v (withL l).length ((withL l).map u8V) ∧ Keeps [] w w' := by
  have HC := Lib.hid (u16_any w n hn)
  have hl := h.form.1
  have HL := Lib.hid hl
  have HB := Lib.hid h
  have hmod : ((n : Int) % 65536) = (n : Int) := by omega
  clear h hl
  go_enter Tryz.func47, Tryz.ntmps47
  go_wp2_with fail
  refine HC.out.mono ?_
  rintro e w1 ⟨v, rfl, hown, k1⟩
  have HO := Lib.hid hown
  have HK := Lib.hid k1
  clear hown k1 HC
  go_wp2_with (at_builtin; refine wpList_append_bytes rfl _ _ w.heap.size 22 5 rfl Tryz.underlying22 Tryz.infoU8 _ 2 (u16L n) rfl HO.out _ l rfl (HB.out.keep0 HK.out) (by have := HL.out; omega) HK.out.size ?_; intro v2 w2 hown2 hg2 hb2 _)
  go_ret
  refine ⟨_, rfl, ?_, grow_keeps HK.out HO.out (Nat.le_refl _) hg2⟩
  rw [withL_len, withL, ← HL.out, Nat.add_comm]
  rw [← HL.out] at hown2
  exact hown2
end Go.Proofs.YtpoheemjdieogaaGreatDoor
