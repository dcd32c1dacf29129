/-
  The walks of the document's own Own, Lay and with. Condition: fewer than 65,536 bytes.
-/
import Derived.Test.YthcpeceamiibaaaDoorTlsI
namespace Go.Proofs.YthcpeceamiibaaaDoor
open Go.RowKit Go.Lib
set_option linter.unusedVariables false
set_option linter.unusedSimpArgs false

set_option maxRecDepth 100000 in
set_option maxHeartbeats 4000000 in
theorem rown_any (w : World) (v : Value) (l : List UInt8) (h : BytesV w v l) (hl : l.length ≤ 100000) : Calls Tryd.prog 92 #[v] w fun e w' => ∃ v', e = .returned v' ∧ OwnB w' w.heap.size v' l ∧ Keeps [] w w' := by
  have H := Lib.hid h
  clear h
  go_enter Tryd.func92, Tryd.ntmps92
  go_wp2_with (at_builtin; refine app_W rfl _ _ w (Keeps.refl [] w) rfl _ ([]) rfl (World.ownsRow_nil _ _ _ _) _ l rfl H.out (by simp; omega) ?_; intro v1 w1 ho1 hk1)
  go_ret
  exact ⟨_, rfl, ho1, hk1⟩
theorem one_cells {z : Int} (x : UInt8) (h : (x.toNat : Int) = z) : (#[Value.int .u8 z] : Array Value).toList = [x].map u8V := by subst h; rfl
set_option maxRecDepth 100000 in
set_option maxHeartbeats 8000000 in
theorem lay2_any (w : World) (v0 : Value) (hv0 : BytesV w v0 []) (n : Nat) (hn : n < 65536) : Calls Tryd.prog 74 #[v0, .int .u32 n, .int .i64 2] w fun e w' => ∃ v', e = .returned v' ∧ OwnB w' w.heap.size v' [UInt8.ofNat (n / 256), UInt8.ofNat n] ∧ Keeps [] w w' := by
  have HO := Lib.hid (rown_any w v0 _ hv0 (by simp))
  have hx0 : ((UInt8.ofNat (n / 256) : UInt8).toNat : Int) = (n : Int) / 256 := by simp [UInt8.toNat_ofNat']; try omega
  have HC0 := Lib.hid (one_cells _ hx0)
  have hx1 : ((UInt8.ofNat n : UInt8).toNat : Int) = (n : Int) % 256 := by simp [UInt8.toNat_ofNat']; try omega
  have HC1 := Lib.hid (one_cells _ hx1)
  clear hx0 hx1 hv0
  go_enter Tryd.func74, Tryd.ntmps74
  go_wp2_with fail
  refine HO.out.mono ?_
  rintro e w1 ⟨v1, rfl, ho1, k1⟩
  have HO1 := Lib.hid ho1
  have HK1 := Lib.hid k1
  clear ho1 k1 HO
  go_wp2_with fail
  go_loopw [7, 8] (fun lv iv wr => (iv = .int .i64 (1) ∧ Hid (OwnB wr w.heap.size lv []) ∨ iv = .int .i64 (0) ∧ Hid (OwnB wr w.heap.size lv [UInt8.ofNat (n / 256)]) ∨ iv = .int .i64 (-1) ∧ Hid (OwnB wr w.heap.size lv [UInt8.ofNat (n / 256), UInt8.ofNat n])) ∧ Hid (Keeps [] w wr)) (fun _ iv _ => (intOf iv + 1).toNat)
  case atStart => exact ⟨.inl ⟨rfl, HO1⟩, HK1⟩
  case round =>
    obtain ⟨⟨rfl, ho⟩ | ⟨rfl, ho⟩ | ⟨rfl, ho⟩, hk⟩ := hrel
    · go_wp2_with (at_builtin; refine app_W rfl _ _ w (hk.out.alloc' _) rfl _ [] rfl (ho.out.keep0 (Keeps.alloc [] wr _)) _ [UInt8.ofNat (n / 256)] rfl (OwnB.new wr _ [UInt8.ofNat (n / 256)] HC0.out (by simp)).bytes (by simp) ?_; intro v2 w2 ho2 hk2)
      exact ⟨⟨.inr (.inl ⟨rfl, Lib.hid ho2⟩), Lib.hid hk2⟩, by simp [intOf]⟩
    · go_wp2_with (at_builtin; refine app_W rfl _ _ w (hk.out.alloc' _) rfl _ [UInt8.ofNat (n / 256)] rfl (ho.out.keep0 (Keeps.alloc [] wr _)) _ [UInt8.ofNat n] rfl (OwnB.new wr _ [UInt8.ofNat n] HC1.out (by simp)).bytes (by simp) ?_; intro v2 w2 ho2 hk2)
      exact ⟨⟨.inr (.inr (⟨rfl, Lib.hid ho2⟩)), Lib.hid hk2⟩, by simp [intOf]⟩
    · go_wp2_with fail
      go_ret
      exact ⟨_, rfl, ho.out, hk.out⟩
set_option maxRecDepth 100000 in
set_option maxHeartbeats 8000000 in
theorem lay3_any (w : World) (v0 : Value) (hv0 : BytesV w v0 [1]) (n : Nat) (hn : n < 65536) : Calls Tryd.prog 74 #[v0, .int .u32 n, .int .i64 3] w fun e w' => ∃ v', e = .returned v' ∧ OwnB w' w.heap.size v' [1, UInt8.ofNat (n / 65536), UInt8.ofNat (n / 256), UInt8.ofNat n] ∧ Keeps [] w w' := by
  have HO := Lib.hid (rown_any w v0 _ hv0 (by simp))
  have hx0 : ((UInt8.ofNat (n / 65536) : UInt8).toNat : Int) = (n : Int) / 65536 := by simp [UInt8.toNat_ofNat']; try omega
  have HC0 := Lib.hid (one_cells _ hx0)
  have hx1 : ((UInt8.ofNat (n / 256) : UInt8).toNat : Int) = (n : Int) / 256 := by simp [UInt8.toNat_ofNat']; try omega
  have HC1 := Lib.hid (one_cells _ hx1)
  have hx2 : ((UInt8.ofNat n : UInt8).toNat : Int) = (n : Int) % 256 := by simp [UInt8.toNat_ofNat']; try omega
  have HC2 := Lib.hid (one_cells _ hx2)
  clear hx0 hx1 hx2 hv0
  go_enter Tryd.func74, Tryd.ntmps74
  go_wp2_with fail
  refine HO.out.mono ?_
  rintro e w1 ⟨v1, rfl, ho1, k1⟩
  have HO1 := Lib.hid ho1
  have HK1 := Lib.hid k1
  clear ho1 k1 HO
  go_wp2_with fail
  go_loopw [7, 8] (fun lv iv wr => (iv = .int .i64 (2) ∧ Hid (OwnB wr w.heap.size lv [1]) ∨ iv = .int .i64 (1) ∧ Hid (OwnB wr w.heap.size lv [1, UInt8.ofNat (n / 65536)]) ∨ iv = .int .i64 (0) ∧ Hid (OwnB wr w.heap.size lv [1, UInt8.ofNat (n / 65536), UInt8.ofNat (n / 256)]) ∨ iv = .int .i64 (-1) ∧ Hid (OwnB wr w.heap.size lv [1, UInt8.ofNat (n / 65536), UInt8.ofNat (n / 256), UInt8.ofNat n])) ∧ Hid (Keeps [] w wr)) (fun _ iv _ => (intOf iv + 1).toNat)
  case atStart => exact ⟨.inl ⟨rfl, HO1⟩, HK1⟩
  case round =>
    obtain ⟨⟨rfl, ho⟩ | ⟨rfl, ho⟩ | ⟨rfl, ho⟩ | ⟨rfl, ho⟩, hk⟩ := hrel
    · go_wp2_with (at_builtin; refine app_W rfl _ _ w (hk.out.alloc' _) rfl _ [1] rfl (ho.out.keep0 (Keeps.alloc [] wr _)) _ [UInt8.ofNat (n / 65536)] rfl (OwnB.new wr _ [UInt8.ofNat (n / 65536)] HC0.out (by simp)).bytes (by simp) ?_; intro v2 w2 ho2 hk2)
      exact ⟨⟨.inr (.inl ⟨rfl, Lib.hid ho2⟩), Lib.hid hk2⟩, by simp [intOf]⟩
    · go_wp2_with (at_builtin; refine app_W rfl _ _ w (hk.out.alloc' _) rfl _ [1, UInt8.ofNat (n / 65536)] rfl (ho.out.keep0 (Keeps.alloc [] wr _)) _ [UInt8.ofNat (n / 256)] rfl (OwnB.new wr _ [UInt8.ofNat (n / 256)] HC1.out (by simp)).bytes (by simp) ?_; intro v2 w2 ho2 hk2)
      exact ⟨⟨.inr (.inr (.inl ⟨rfl, Lib.hid ho2⟩)), Lib.hid hk2⟩, by simp [intOf]⟩
    · go_wp2_with (at_builtin; refine app_W rfl _ _ w (hk.out.alloc' _) rfl _ [1, UInt8.ofNat (n / 65536), UInt8.ofNat (n / 256)] rfl (ho.out.keep0 (Keeps.alloc [] wr _)) _ [UInt8.ofNat n] rfl (OwnB.new wr _ [UInt8.ofNat n] HC2.out (by simp)).bytes (by simp) ?_; intro v2 w2 ho2 hk2)
      exact ⟨⟨.inr (.inr (.inr (⟨rfl, Lib.hid ho2⟩))), Lib.hid hk2⟩, by simp [intOf]⟩
    · go_wp2_with fail
      go_ret
      exact ⟨_, rfl, ho.out, hk.out⟩
set_option maxRecDepth 100000 in
set_option maxHeartbeats 4000000 in
theorem rwith_any (w : World) (v : Value) (l : List UInt8) (h : BytesV w v l) (hn : l.length < 65536) : Calls Tryd.prog 73 #[v] w fun e w' => ∃ v', e = .returned v' ∧ OwnB w' w.heap.size v' (withL l) ∧ Keeps [] w w' := by
  obtain ⟨n, hnn⟩ : ∃ n, l.length = n := ⟨_, rfl⟩
  obtain ⟨A, c, rfl, h1⟩ := h
  have HB := Lib.hid (show BytesV w (.slice A l.length c) l from ⟨A, c, rfl, h1⟩)
  rw [hnn] at hn HB ⊢
  have HC := Lib.hid (lay2_any w (.slice none 0 0) (BytesV.nil w) n hn)
  have HL := Lib.hid hnn
  clear h1 hnn
  go_enter Tryd.func73, Tryd.ntmps73
  go_wp2_with fail
  refine HC.out.mono ?_
  rintro e w1 ⟨v, rfl, hown, k1⟩
  have HO := Lib.hid (show OwnB w1 w.heap.size v (u16L n) from hown)
  have HK := Lib.hid k1
  clear hown k1 HC
  go_wp2_with (at_builtin; refine app_W rfl _ _ w HK.out rfl _ (u16L n) rfl HO.out _ l rfl (HB.out.keep0 HK.out) (by have := HL.out; simp [u16L]; omega) ?_; intro v2 w2 ho2 hk2)
  go_ret
  refine ⟨_, rfl, ?_, hk2⟩
  rw [withL, HL.out]
  exact ho2
end Go.Proofs.YthcpeceamiibaaaDoor
