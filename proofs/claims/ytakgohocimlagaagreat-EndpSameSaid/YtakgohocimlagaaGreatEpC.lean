/-
  The walks of package endp (3): what a client's segment is answered, way by way, ahead of its being taken. Condition: the numbers are in the ranges of their kinds.
-/
import Derived.Test.YtakgohocimlagaaGreatEpB
namespace Go.Proofs.YtakgohocimlagaaGreat
open Go.RowKit
set_option linter.unusedVariables false
set_option linter.unusedSimpArgs false

set_option maxRecDepth 100000 in
set_option maxHeartbeats 4000000 in
theorem client_syn {w : World} {B x b mb : Nat} {s : ES} {st : BS} {tl : List UInt8} (h : Cli w B x b mb s st tl) (g : Seg) (og : g.Ok) (Ao Ad : Option Addr) (no co cd : Nat) (h2 : has g.fl 2 = true) :
    Calls Tryz.prog 40 #[.pointer (some ⟨x, 0, none⟩), segV g (.slice Ao no co) (.slice Ad g.data.length cd)] w fun e w' => ∃ v, e = .returned v ∧ Told w.heap.size w' v true (s.ackC st) ∧ Keeps [] w w' := by
  have c16 := h.e.c16
  rw [h.inp] at c16
  have hlt := h.e.lt
  have hr : 0 ≤ st.room - st.taken ∧ st.room - st.taken ≤ 16384 := by have := h.okb.t0; have := h.okb.tr; have := h.okb.r; omega
  have hw : IntKind.u32.wrap (st.room - st.taken) = st.room - st.taken := by rw [IntKind.wrap_u32]; omega
  have H := Lib.hid h
  unfold has at h2
  clear h
  unfold segV
  go_enter Tryz.func40, Tryz.ntmps40
  go_wp2_with fail
  refine wp_gn (fun W0 hW0 => ?_)
  have k0 : Keeps [] w W0 := by rw [hW0]; exact (Keeps.refl _ _).alloc' _
  have hx : W0.heap[w.heap.size]? = some (.cells #[.int .u16 g.sp, .int .u16 g.dp, .int .u32 g.sq, .int .u32 g.ak, .int .u8 g.fl, .int .u16 g.wn, .int .u16 g.ug, .slice Ao no co, .slice Ad g.data.length cd] 39 (0, 0)) := by rw [hW0]; exact (MapKept.heap_alloc w _).1
  have q16 := cell_keeps k0 c16 (by simp)
  have HB := Lib.hid (H.out.bf.keep k0 (by simp) (by simp))
  have K0 := Lib.hid k0
  have HX := Lib.hid hx
  clear hW0 hx k0 c16
  go_region_held3 (fun w' => w'.cell? ⟨x, 16, none⟩ = some (.pointer (some ⟨b, 0, none⟩))) (go_keep)
    (first
      | (go_at_call 36; refine (bnext_any (HB.out.keep (Keeps.drew [] _) (by simp) (by simp)) H.out.okb).mono ?_; rintro e w3 ⟨rfl, rfl⟩)
      | (go_at_call 35; refine (broom_any (HB.out.keep (Keeps.drew [] _) (by simp) (by simp)) H.out.okb).mono ?_; rintro e w3 ⟨rfl, nd, rfl⟩))
  go_upto_region 2 with fail
  refine wp_gn (fun W1 hW1 => ?_)
  have k1 : Keeps [] W0 W1 := by rw [hW1]; exact Keeps.drewN _ _ _
  have hx := (k1.block w.heap.size ((Array.getElem?_eq_some_iff.1 HX.out).1) (by simp)).trans HX.out
  have K1 := Lib.hid (K0.out.trans k1)
  have HX1 := Lib.hid hx
  have C1 := Lib.hid (H.out.keep0 K1.out)
  have hxc0 := cell_of_block hx 0
  have hxc1 := cell_of_block hx 1
  have hxc2 := cell_of_block hx 2
  have hxc3 := cell_of_block hx 3
  have hxc4 := cell_of_block hx 4
  have hxc5 := cell_of_block hx 5
  have hxc6 := cell_of_block hx 6
  have hxc7 := cell_of_block hx 7
  have hxc8 := cell_of_block hx 8
  simp at hxc0 hxc1 hxc2 hxc3 hxc4 hxc5 hxc6 hxc7 hxc8
  have hxf0 := free_of_block hx 0
  have hxf1 := free_of_block hx 1
  have hxf2 := free_of_block hx 2
  have hxf3 := free_of_block hx 3
  have hxf4 := free_of_block hx 4
  have hxf5 := free_of_block hx 5
  have hxf6 := free_of_block hx 6
  have hxf7 := free_of_block hx 7
  have hxf8 := free_of_block hx 8
  clear hx k1 hW1 HX HB K0 q16
  go_wp2_with fail
  refine (eacksC_any C1.out.e C1.out.ok C1.out.st2 C1.out.inp C1.out.bf C1.out.okb true).mono ?_
  rintro e w2 ⟨v, rfl, ht, k2⟩
  have HT := Lib.hid (And.intro (ht.mono (Keeps.refl _ _) K1.out.size) (K1.out.trans k2))
  clear ht k2
  go_wp2_with fail
  go_ret
  exact ⟨_, rfl, HT.out⟩

set_option maxRecDepth 100000 in
set_option maxHeartbeats 4000000 in
theorem client_rst {w : World} {B x b mb : Nat} {s : ES} {st : BS} {tl : List UInt8} (h : Cli w B x b mb s st tl) (g : Seg) (og : g.Ok) (Ao Ad : Option Addr) (no co cd : Nat) (h2 : has g.fl 2 = false) (h4 : has g.fl 4 = true) (hq : (g.sq == st.next) = false) :
    Calls Tryz.prog 40 #[.pointer (some ⟨x, 0, none⟩), segV g (.slice Ao no co) (.slice Ad g.data.length cd)] w fun e w' => ∃ v, e = .returned v ∧ Told w.heap.size w' v (withinI g.sq st.next (st.room - st.taken)) (s.ackC st) ∧ Keeps [] w w' := by
  have c16 := h.e.c16
  rw [h.inp] at c16
  have hlt := h.e.lt
  have hr : 0 ≤ st.room - st.taken ∧ st.room - st.taken ≤ 16384 := by have := h.okb.t0; have := h.okb.tr; have := h.okb.r; omega
  have hw : IntKind.u32.wrap (st.room - st.taken) = st.room - st.taken := by rw [IntKind.wrap_u32]; omega
  have H := Lib.hid h
  unfold has at h2 h4
  have hnb := st.next_bd
  have hsq := og.sq
  clear h
  unfold segV
  go_enter Tryz.func40, Tryz.ntmps40
  go_wp2_with fail
  refine wp_gn (fun W0 hW0 => ?_)
  have k0 : Keeps [] w W0 := by rw [hW0]; exact (Keeps.refl _ _).alloc' _
  have hx : W0.heap[w.heap.size]? = some (.cells #[.int .u16 g.sp, .int .u16 g.dp, .int .u32 g.sq, .int .u32 g.ak, .int .u8 g.fl, .int .u16 g.wn, .int .u16 g.ug, .slice Ao no co, .slice Ad g.data.length cd] 39 (0, 0)) := by rw [hW0]; exact (MapKept.heap_alloc w _).1
  have q16 := cell_keeps k0 c16 (by simp)
  have HB := Lib.hid (H.out.bf.keep k0 (by simp) (by simp))
  have K0 := Lib.hid k0
  have HX := Lib.hid hx
  clear hW0 hx k0 c16
  go_region_held3 (fun w' => w'.cell? ⟨x, 16, none⟩ = some (.pointer (some ⟨b, 0, none⟩))) (go_keep)
    (first
      | (go_at_call 36; refine (bnext_any (HB.out.keep (Keeps.drew [] _) (by simp) (by simp)) H.out.okb).mono ?_; rintro e w3 ⟨rfl, rfl⟩)
      | (go_at_call 35; refine (broom_any (HB.out.keep (Keeps.drew [] _) (by simp) (by simp)) H.out.okb).mono ?_; rintro e w3 ⟨rfl, nd, rfl⟩))
  go_upto_region 2 with fail
  refine wp_gn (fun W1 hW1 => ?_)
  have k1 : Keeps [] W0 W1 := by rw [hW1]; exact Keeps.drewN _ _ _
  have hx := (k1.block w.heap.size ((Array.getElem?_eq_some_iff.1 HX.out).1) (by simp)).trans HX.out
  have K1 := Lib.hid (K0.out.trans k1)
  have HX1 := Lib.hid hx
  have C1 := Lib.hid (H.out.keep0 K1.out)
  have hxc0 := cell_of_block hx 0
  have hxc1 := cell_of_block hx 1
  have hxc2 := cell_of_block hx 2
  have hxc3 := cell_of_block hx 3
  have hxc4 := cell_of_block hx 4
  have hxc5 := cell_of_block hx 5
  have hxc6 := cell_of_block hx 6
  have hxc7 := cell_of_block hx 7
  have hxc8 := cell_of_block hx 8
  simp at hxc0 hxc1 hxc2 hxc3 hxc4 hxc5 hxc6 hxc7 hxc8
  have hxf0 := free_of_block hx 0
  have hxf1 := free_of_block hx 1
  have hxf2 := free_of_block hx 2
  have hxf3 := free_of_block hx 3
  have hxf4 := free_of_block hx 4
  have hxf5 := free_of_block hx 5
  have hxf6 := free_of_block hx 6
  have hxf7 := free_of_block hx 7
  have hxf8 := free_of_block hx 8
  clear hx k1 hW1 HX HB K0 q16
  go_wp2_with fail
  refine (within_any _ g.sq st.next (st.room - st.taken) hsq hnb).mono ?_
  rintro e w2 ⟨rfl, rfl⟩
  go_wp2_with fail
  refine (eacksC_any C1.out.e C1.out.ok C1.out.st2 C1.out.inp C1.out.bf C1.out.okb (withinI g.sq st.next (st.room - st.taken))).mono ?_
  rintro e w2 ⟨v, rfl, ht, k2⟩
  have HT := Lib.hid (And.intro (ht.mono (Keeps.refl _ _) K1.out.size) (K1.out.trans k2))
  clear ht k2
  go_wp2_with fail
  go_ret
  exact ⟨_, rfl, HT.out⟩

set_option maxRecDepth 100000 in
set_option maxHeartbeats 4000000 in
theorem client_noack {w : World} {B x b mb : Nat} {s : ES} {st : BS} {tl : List UInt8} (h : Cli w B x b mb s st tl) (g : Seg) (og : g.Ok) (Ao Ad : Option Addr) (no co cd : Nat) (h2 : has g.fl 2 = false) (h4 : has g.fl 4 = false) (h16 : has g.fl 16 = false) :
    Calls Tryz.prog 40 #[.pointer (some ⟨x, 0, none⟩), segV g (.slice Ao no co) (.slice Ad g.data.length cd)] w fun e w' => e = .returned (.slice none 0 0) ∧ Keeps [] w w' := by
  have c16 := h.e.c16
  rw [h.inp] at c16
  have hlt := h.e.lt
  have hr : 0 ≤ st.room - st.taken ∧ st.room - st.taken ≤ 16384 := by have := h.okb.t0; have := h.okb.tr; have := h.okb.r; omega
  have hw : IntKind.u32.wrap (st.room - st.taken) = st.room - st.taken := by rw [IntKind.wrap_u32]; omega
  have H := Lib.hid h
  unfold has at h2 h4 h16
  have h16' : (bits BinOp.and IntKind.u8 g.fl 16 == 0) = true := by simpa [bne] using h16
  clear h
  unfold segV
  go_enter Tryz.func40, Tryz.ntmps40
  go_wp2_with fail
  refine wp_gn (fun W0 hW0 => ?_)
  have k0 : Keeps [] w W0 := by rw [hW0]; exact (Keeps.refl _ _).alloc' _
  have hx : W0.heap[w.heap.size]? = some (.cells #[.int .u16 g.sp, .int .u16 g.dp, .int .u32 g.sq, .int .u32 g.ak, .int .u8 g.fl, .int .u16 g.wn, .int .u16 g.ug, .slice Ao no co, .slice Ad g.data.length cd] 39 (0, 0)) := by rw [hW0]; exact (MapKept.heap_alloc w _).1
  have q16 := cell_keeps k0 c16 (by simp)
  have HB := Lib.hid (H.out.bf.keep k0 (by simp) (by simp))
  have K0 := Lib.hid k0
  have HX := Lib.hid hx
  clear hW0 hx k0 c16
  go_region_held3 (fun w' => w'.cell? ⟨x, 16, none⟩ = some (.pointer (some ⟨b, 0, none⟩))) (go_keep)
    (first
      | (go_at_call 36; refine (bnext_any (HB.out.keep (Keeps.drew [] _) (by simp) (by simp)) H.out.okb).mono ?_; rintro e w3 ⟨rfl, rfl⟩)
      | (go_at_call 35; refine (broom_any (HB.out.keep (Keeps.drew [] _) (by simp) (by simp)) H.out.okb).mono ?_; rintro e w3 ⟨rfl, nd, rfl⟩))
  go_upto_region 2 with fail
  refine wp_gn (fun W1 hW1 => ?_)
  have k1 : Keeps [] W0 W1 := by rw [hW1]; exact Keeps.drewN _ _ _
  have hx := (k1.block w.heap.size ((Array.getElem?_eq_some_iff.1 HX.out).1) (by simp)).trans HX.out
  have K1 := Lib.hid (K0.out.trans k1)
  have HX1 := Lib.hid hx
  have C1 := Lib.hid (H.out.keep0 K1.out)
  have hxc0 := cell_of_block hx 0
  have hxc1 := cell_of_block hx 1
  have hxc2 := cell_of_block hx 2
  have hxc3 := cell_of_block hx 3
  have hxc4 := cell_of_block hx 4
  have hxc5 := cell_of_block hx 5
  have hxc6 := cell_of_block hx 6
  have hxc7 := cell_of_block hx 7
  have hxc8 := cell_of_block hx 8
  simp at hxc0 hxc1 hxc2 hxc3 hxc4 hxc5 hxc6 hxc7 hxc8
  have hxf0 := free_of_block hx 0
  have hxf1 := free_of_block hx 1
  have hxf2 := free_of_block hx 2
  have hxf3 := free_of_block hx 3
  have hxf4 := free_of_block hx 4
  have hxf5 := free_of_block hx 5
  have hxf6 := free_of_block hx 6
  have hxf7 := free_of_block hx 7
  have hxf8 := free_of_block hx 8
  clear hx k1 hW1 HX HB K0 q16
  go_wp2_with fail
  go_ret
  exact ⟨rfl, K1.out⟩

set_option maxRecDepth 100000 in
set_option maxHeartbeats 4000000 in
theorem client_reset {w : World} {B x b mb : Nat} {s : ES} {st : BS} {tl : List UInt8} (h : Cli w B x b mb s st tl) (g : Seg) (og : g.Ok) (Ao Ad : Option Addr) (no co cd : Nat) (h2 : has g.fl 2 = false) (h4 : has g.fl 4 = true) (hq : g.sq = st.next) :
    Calls Tryz.prog 40 #[.pointer (some ⟨x, 0, none⟩), segV g (.slice Ao no co) (.slice Ad g.data.length cd)] w fun e w' => e = .returned (.slice none 0 0) ∧ EndAt w' x { s with st := 3 } ∧ Keeps [x] w w' := by
  have c16 := h.e.c16
  rw [h.inp] at c16
  have hlt := h.e.lt
  have hr : 0 ≤ st.room - st.taken ∧ st.room - st.taken ≤ 16384 := by have := h.okb.t0; have := h.okb.tr; have := h.okb.r; omega
  have hw : IntKind.u32.wrap (st.room - st.taken) = st.room - st.taken := by rw [IntKind.wrap_u32]; omega
  have H := Lib.hid h
  unfold has at h2 h4
  have hq' : (g.sq == st.next) = true := by simpa using hq
  clear hq
  clear h
  unfold segV
  go_enter Tryz.func40, Tryz.ntmps40
  go_wp2_with fail
  refine wp_gn (fun W0 hW0 => ?_)
  have k0 : Keeps [] w W0 := by rw [hW0]; exact (Keeps.refl _ _).alloc' _
  have hx : W0.heap[w.heap.size]? = some (.cells #[.int .u16 g.sp, .int .u16 g.dp, .int .u32 g.sq, .int .u32 g.ak, .int .u8 g.fl, .int .u16 g.wn, .int .u16 g.ug, .slice Ao no co, .slice Ad g.data.length cd] 39 (0, 0)) := by rw [hW0]; exact (MapKept.heap_alloc w _).1
  have q16 := cell_keeps k0 c16 (by simp)
  have HB := Lib.hid (H.out.bf.keep k0 (by simp) (by simp))
  have K0 := Lib.hid k0
  have HX := Lib.hid hx
  clear hW0 hx k0 c16
  go_region_held3 (fun w' => w'.cell? ⟨x, 16, none⟩ = some (.pointer (some ⟨b, 0, none⟩))) (go_keep)
    (first
      | (go_at_call 36; refine (bnext_any (HB.out.keep (Keeps.drew [] _) (by simp) (by simp)) H.out.okb).mono ?_; rintro e w3 ⟨rfl, rfl⟩)
      | (go_at_call 35; refine (broom_any (HB.out.keep (Keeps.drew [] _) (by simp) (by simp)) H.out.okb).mono ?_; rintro e w3 ⟨rfl, nd, rfl⟩))
  go_upto_region 2 with fail
  refine wp_gn (fun W1 hW1 => ?_)
  have k1 : Keeps [] W0 W1 := by rw [hW1]; exact Keeps.drewN _ _ _
  have hx := (k1.block w.heap.size ((Array.getElem?_eq_some_iff.1 HX.out).1) (by simp)).trans HX.out
  have K1 := Lib.hid (K0.out.trans k1)
  have HX1 := Lib.hid hx
  have C1 := Lib.hid (H.out.keep0 K1.out)
  have hxc0 := cell_of_block hx 0
  have hxc1 := cell_of_block hx 1
  have hxc2 := cell_of_block hx 2
  have hxc3 := cell_of_block hx 3
  have hxc4 := cell_of_block hx 4
  have hxc5 := cell_of_block hx 5
  have hxc6 := cell_of_block hx 6
  have hxc7 := cell_of_block hx 7
  have hxc8 := cell_of_block hx 8
  simp at hxc0 hxc1 hxc2 hxc3 hxc4 hxc5 hxc6 hxc7 hxc8
  have hxf0 := free_of_block hx 0
  have hxf1 := free_of_block hx 1
  have hxf2 := free_of_block hx 2
  have hxf3 := free_of_block hx 3
  have hxf4 := free_of_block hx 4
  have hxf5 := free_of_block hx 5
  have hxf6 := free_of_block hx 6
  have hxf7 := free_of_block hx 7
  have hxf8 := free_of_block hx 8
  clear hx k1 hW1 HX HB K0 q16
  have z15 := C1.out.e.fz 15
  have c15 := C1.out.e.c15
  go_wp2_with fail
  go_ret
  exact ⟨rfl, C1.out.e.s15 3, (K1.out.mono (by simp)).trans (Keeps.setCell _ ⟨x, 15, none⟩ _)⟩

set_option maxRecDepth 100000 in
set_option maxHeartbeats 4000000 in
theorem client_other {w : World} {B x b mb : Nat} {s : ES} {st : BS} {tl : List UInt8} (h : Cli w B x b mb s st tl) (g : Seg) (og : g.Ok) (Ao Ad : Option Addr) (no co cd : Nat) (h2 : has g.fl 2 = false) (h4 : has g.fl 4 = false) (h16 : has g.fl 16 = true) (hk : g.ak ≠ (s.iss + 1) % 4294967296) :
    Calls Tryz.prog 40 #[.pointer (some ⟨x, 0, none⟩), segV g (.slice Ao no co) (.slice Ad g.data.length cd)] w fun e w' => ∃ v, e = .returned v ∧ Told w.heap.size w' v true (s.ackC st) ∧ Keeps [] w w' := by
  have c16 := h.e.c16
  rw [h.inp] at c16
  have hlt := h.e.lt
  have hr : 0 ≤ st.room - st.taken ∧ st.room - st.taken ≤ 16384 := by have := h.okb.t0; have := h.okb.tr; have := h.okb.r; omega
  have hw : IntKind.u32.wrap (st.room - st.taken) = st.room - st.taken := by rw [IntKind.wrap_u32]; omega
  have H := Lib.hid h
  unfold has at h2 h4 h16
  have h16' : (bits BinOp.and IntKind.u8 g.fl 16 == 0) = false := by simpa [bne] using h16
  have hwi : IntKind.u32.wrap (s.iss + 1) = (s.iss + 1) % 4294967296 := IntKind.wrap_u32 _
  have hk' : (g.ak == (s.iss + 1) % 4294967296) = false := by simpa using hk
  clear h
  unfold segV
  go_enter Tryz.func40, Tryz.ntmps40
  go_wp2_with fail
  refine wp_gn (fun W0 hW0 => ?_)
  have k0 : Keeps [] w W0 := by rw [hW0]; exact (Keeps.refl _ _).alloc' _
  have hx : W0.heap[w.heap.size]? = some (.cells #[.int .u16 g.sp, .int .u16 g.dp, .int .u32 g.sq, .int .u32 g.ak, .int .u8 g.fl, .int .u16 g.wn, .int .u16 g.ug, .slice Ao no co, .slice Ad g.data.length cd] 39 (0, 0)) := by rw [hW0]; exact (MapKept.heap_alloc w _).1
  have q16 := cell_keeps k0 c16 (by simp)
  have HB := Lib.hid (H.out.bf.keep k0 (by simp) (by simp))
  have K0 := Lib.hid k0
  have HX := Lib.hid hx
  clear hW0 hx k0 c16
  go_region_held3 (fun w' => w'.cell? ⟨x, 16, none⟩ = some (.pointer (some ⟨b, 0, none⟩))) (go_keep)
    (first
      | (go_at_call 36; refine (bnext_any (HB.out.keep (Keeps.drew [] _) (by simp) (by simp)) H.out.okb).mono ?_; rintro e w3 ⟨rfl, rfl⟩)
      | (go_at_call 35; refine (broom_any (HB.out.keep (Keeps.drew [] _) (by simp) (by simp)) H.out.okb).mono ?_; rintro e w3 ⟨rfl, nd, rfl⟩))
  go_upto_region 2 with fail
  refine wp_gn (fun W1 hW1 => ?_)
  have k1 : Keeps [] W0 W1 := by rw [hW1]; exact Keeps.drewN _ _ _
  have hx := (k1.block w.heap.size ((Array.getElem?_eq_some_iff.1 HX.out).1) (by simp)).trans HX.out
  have K1 := Lib.hid (K0.out.trans k1)
  have HX1 := Lib.hid hx
  have C1 := Lib.hid (H.out.keep0 K1.out)
  have hxc0 := cell_of_block hx 0
  have hxc1 := cell_of_block hx 1
  have hxc2 := cell_of_block hx 2
  have hxc3 := cell_of_block hx 3
  have hxc4 := cell_of_block hx 4
  have hxc5 := cell_of_block hx 5
  have hxc6 := cell_of_block hx 6
  have hxc7 := cell_of_block hx 7
  have hxc8 := cell_of_block hx 8
  simp at hxc0 hxc1 hxc2 hxc3 hxc4 hxc5 hxc6 hxc7 hxc8
  have hxf0 := free_of_block hx 0
  have hxf1 := free_of_block hx 1
  have hxf2 := free_of_block hx 2
  have hxf3 := free_of_block hx 3
  have hxf4 := free_of_block hx 4
  have hxf5 := free_of_block hx 5
  have hxf6 := free_of_block hx 6
  have hxf7 := free_of_block hx 7
  have hxf8 := free_of_block hx 8
  clear hx k1 hW1 HX HB K0 q16
  have c2 := C1.out.e.c2
  go_upto_region 11 with fail
  go_quiet (fail)
  go_upto_region 12 with fail
  refine wp_gn (fun W2 hW2 => ?_)
  have k2 : Keeps [] W1 W2 := by rw [hW2]; first | exact Keeps.drewN _ _ _ | exact kw6.drewN' _ | exact kw6.drew' | exact kw6
  have C2 := Lib.hid (C1.out.keep0 k2)
  have K2 := Lib.hid (K1.out.trans k2)
  clear hW2 k2
  go_wp2_with fail
  refine (eacksC_any C2.out.e C2.out.ok C2.out.st2 C2.out.inp C2.out.bf C2.out.okb true).mono ?_
  rintro e w3 ⟨v, rfl, ht, k3⟩
  have HT := Lib.hid (And.intro (ht.mono (Keeps.refl _ _) K2.out.size) (K2.out.trans k3))
  clear ht k3
  go_wp2_with fail
  go_ret
  exact ⟨_, rfl, HT.out⟩

set_option maxRecDepth 100000 in
set_option maxHeartbeats 4000000 in
theorem client_far {w : World} {B x b mb : Nat} {s : ES} {st : BS} {tl : List UInt8} (h : Cli w B x b mb s st tl) (g : Seg) (og : g.Ok) (Ao Ad : Option Addr) (no co cd : Nat) (h2 : has g.fl 2 = false) (h4 : has g.fl 4 = false) (h16 : has g.fl 16 = true) (hk : g.ak = (s.iss + 1) % 4294967296) (ha : acceptI g.sq (lenI g) st.next (st.room - st.taken) = false) :
    Calls Tryz.prog 40 #[.pointer (some ⟨x, 0, none⟩), segV g (.slice Ao no co) (.slice Ad g.data.length cd)] w fun e w' => ∃ v, e = .returned v ∧ Told w.heap.size w' v true (s.ackC st) ∧ Keeps [] w w' := by
  have c16 := h.e.c16
  rw [h.inp] at c16
  have hlt := h.e.lt
  have hr : 0 ≤ st.room - st.taken ∧ st.room - st.taken ≤ 16384 := by have := h.okb.t0; have := h.okb.tr; have := h.okb.r; omega
  have hw : IntKind.u32.wrap (st.room - st.taken) = st.room - st.taken := by rw [IntKind.wrap_u32]; omega
  have H := Lib.hid h
  unfold has at h2 h4 h16
  have h16' : (bits BinOp.and IntKind.u8 g.fl 16 == 0) = false := by simpa [bne] using h16
  have hwi : IntKind.u32.wrap (s.iss + 1) = (s.iss + 1) % 4294967296 := IntKind.wrap_u32 _
  have hk' : (g.ak == (s.iss + 1) % 4294967296) = true := by simpa using hk
  have hk2 : (g.ak != (s.iss + 1) % 4294967296) = false := by simpa using hk
  have og' := og
  have hlw : IntKind.i64.wrap (lenI g) = lenI g := IntWalk.i64_in _ (by have := lenI_bd og; omega)
  have hac : ∀ W, Calls Tryz.prog 65 #[.int .u32 g.sq, .int .i64 (lenI g), .int .u32 st.next, .int .u32 (st.room - st.taken)] W fun e w' => e = .returned (.bool false) ∧ Keeps [] W w' := by
    intro W
    have := accept_any W g.sq (lenI g) st.next (st.room - st.taken) og.sq st.next_bd (lenI_bd og).1 (lenI_bd og).2
    rw [ha] at this
    exact this
  clear hk ha
  clear h
  unfold segV
  go_enter Tryz.func40, Tryz.ntmps40
  go_wp2_with fail
  refine wp_gn (fun W0 hW0 => ?_)
  have k0 : Keeps [] w W0 := by rw [hW0]; exact (Keeps.refl _ _).alloc' _
  have hx : W0.heap[w.heap.size]? = some (.cells #[.int .u16 g.sp, .int .u16 g.dp, .int .u32 g.sq, .int .u32 g.ak, .int .u8 g.fl, .int .u16 g.wn, .int .u16 g.ug, .slice Ao no co, .slice Ad g.data.length cd] 39 (0, 0)) := by rw [hW0]; exact (MapKept.heap_alloc w _).1
  have q16 := cell_keeps k0 c16 (by simp)
  have HB := Lib.hid (H.out.bf.keep k0 (by simp) (by simp))
  have K0 := Lib.hid k0
  have HX := Lib.hid hx
  clear hW0 hx k0 c16
  go_region_held3 (fun w' => w'.cell? ⟨x, 16, none⟩ = some (.pointer (some ⟨b, 0, none⟩))) (go_keep)
    (first
      | (go_at_call 36; refine (bnext_any (HB.out.keep (Keeps.drew [] _) (by simp) (by simp)) H.out.okb).mono ?_; rintro e w3 ⟨rfl, rfl⟩)
      | (go_at_call 35; refine (broom_any (HB.out.keep (Keeps.drew [] _) (by simp) (by simp)) H.out.okb).mono ?_; rintro e w3 ⟨rfl, nd, rfl⟩))
  go_upto_region 2 with fail
  refine wp_gn (fun W1 hW1 => ?_)
  have k1 : Keeps [] W0 W1 := by rw [hW1]; exact Keeps.drewN _ _ _
  have hx := (k1.block w.heap.size ((Array.getElem?_eq_some_iff.1 HX.out).1) (by simp)).trans HX.out
  have K1 := Lib.hid (K0.out.trans k1)
  have HX1 := Lib.hid hx
  have C1 := Lib.hid (H.out.keep0 K1.out)
  have hxc0 := cell_of_block hx 0
  have hxc1 := cell_of_block hx 1
  have hxc2 := cell_of_block hx 2
  have hxc3 := cell_of_block hx 3
  have hxc4 := cell_of_block hx 4
  have hxc5 := cell_of_block hx 5
  have hxc6 := cell_of_block hx 6
  have hxc7 := cell_of_block hx 7
  have hxc8 := cell_of_block hx 8
  simp at hxc0 hxc1 hxc2 hxc3 hxc4 hxc5 hxc6 hxc7 hxc8
  have hxf0 := free_of_block hx 0
  have hxf1 := free_of_block hx 1
  have hxf2 := free_of_block hx 2
  have hxf3 := free_of_block hx 3
  have hxf4 := free_of_block hx 4
  have hxf5 := free_of_block hx 5
  have hxf6 := free_of_block hx 6
  have hxf7 := free_of_block hx 7
  have hxf8 := free_of_block hx 8
  clear hx k1 hW1 HX HB K0 q16
  have c2 := C1.out.e.c2
  have HL := Lib.hid (fun W => length_any W g og' Ao Ad no co cd)
  have LN := lenI_bd og'
  have HAC := Lib.hid (fun W => hac W)
  clear hac
  unfold segV at HL
  go_upto_region 11 with fail
  go_region_held3 (fun w' => w'.cell? ⟨w.heap.size, 0, none⟩ = some (.int .u16 g.sp) ∧ w'.cell? ⟨w.heap.size, 1, none⟩ = some (.int .u16 g.dp) ∧ w'.cell? ⟨w.heap.size, 2, none⟩ = some (.int .u32 g.sq) ∧ w'.cell? ⟨w.heap.size, 3, none⟩ = some (.int .u32 g.ak) ∧ w'.cell? ⟨w.heap.size, 4, none⟩ = some (.int .u8 g.fl) ∧ w'.cell? ⟨w.heap.size, 5, none⟩ = some (.int .u16 g.wn) ∧ w'.cell? ⟨w.heap.size, 6, none⟩ = some (.int .u16 g.ug) ∧ w'.cell? ⟨w.heap.size, 7, none⟩ = some (.slice Ao no co) ∧ w'.cell? ⟨w.heap.size, 8, none⟩ = some (.slice Ad g.data.length cd) ∧ w'.cell? ⟨x, 2, none⟩ = some (.int .u32 s.iss)) ((refine (fun kx => ⟨cell_keeps kx hxc0 (by simp), cell_keeps kx hxc1 (by simp), cell_keeps kx hxc2 (by simp), cell_keeps kx hxc3 (by simp), cell_keeps kx hxc4 (by simp), cell_keeps kx hxc5 (by simp), cell_keeps kx hxc6 (by simp), cell_keeps kx hxc7 (by simp), cell_keeps kx hxc8 (by simp), cell_keeps kx c2 (by simp)⟩ : Keeps [] W1 _ → _) ?_; (repeat (first | with_reducible assumption | with_reducible exact Keeps.refl _ _ | with_reducible apply Keeps.alloc' | with_reducible apply Keeps.drew' | with_reducible apply Keeps.drewN' | (with_reducible apply Keeps.setCell'; rotate_left; · simp))))) (first | (go_at_call 66; with_reducible refine (HL.out _).mono ?_; rintro e w5 ⟨rfl, k5⟩; have kw5 : Keeps [] W1 w5 := Keeps.trans (by (repeat (first | with_reducible assumption | with_reducible exact Keeps.refl _ _ | with_reducible apply Keeps.alloc' | with_reducible apply Keeps.drew' | with_reducible apply Keeps.drewN' | (with_reducible apply Keeps.setCell'; rotate_left; · simp)))) k5; clear k5) | (go_at_call 65; with_reducible refine (HAC.out _).mono ?_; rintro e w6 ⟨rfl, k6⟩; have kw6 : Keeps [] W1 w6 := Keeps.trans (by (repeat (first | with_reducible assumption | with_reducible exact Keeps.refl _ _ | with_reducible apply Keeps.alloc' | with_reducible apply Keeps.drew' | with_reducible apply Keeps.drewN' | (with_reducible apply Keeps.setCell'; rotate_left; · simp)))) k6; clear k6))
  go_upto_region 12 with fail
  refine wp_gn (fun W2 hW2 => ?_)
  have k2 : Keeps [] W1 W2 := by rw [hW2]; first | exact Keeps.drewN _ _ _ | exact kw6.drewN' _ | exact kw6.drew' | exact kw6
  have C2 := Lib.hid (C1.out.keep0 k2)
  have K2 := Lib.hid (K1.out.trans k2)
  clear hW2 k2
  go_wp2_with fail
  refine (eacksC_any C2.out.e C2.out.ok C2.out.st2 C2.out.inp C2.out.bf C2.out.okb true).mono ?_
  rintro e w3 ⟨v, rfl, ht, k3⟩
  have HT := Lib.hid (And.intro (ht.mono (Keeps.refl _ _) K2.out.size) (K2.out.trans k3))
  clear ht k3
  go_wp2_with fail
  go_ret
  exact ⟨_, rfl, HT.out⟩

end Go.Proofs.YtakgohocimlagaaGreat
