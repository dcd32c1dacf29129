/-
  The walks of package endp (3): what a client's segment is answered, way by way, ahead of its being taken. Condition: the numbers are in the ranges of their kinds. Laws for a client's bytes: append in a region that draws its order; what a Put, a Take and a store make of an end towards a client. Condition: the numbers are in the ranges of their kinds. The walks of package endp (4): a client's segment that is taken. Condition: the numbers are in the ranges of their kinds. The walks of package endp (5): a client's segment, whatever it is; Take. Condition: the numbers are in the ranges of their kinds; at most 2^20 bytes of data. The walks of package endp (6): may, Accept. Condition: a setup that may be; the facts tell no SACK.
-/
import Derived.Test.YtakgohocimlagaaGreatEpX
import Derived.Test.YtakgohocimlagaaGreatReasmV
namespace Go.Proofs.YtakgohocimlagaaGreat
open Go.RowKit
set_option linter.unusedVariables false
set_option linter.unusedSimpArgs false

set_option maxRecDepth 100000 in
set_option maxHeartbeats 4000000 in
theorem client_syn {w : World} {B x b mb : Nat} {s : ES} {st : BS} {tl : List UInt8} (h : Cli w B x b mb s st tl) (g : Seg) (og : g.Ok) (Ao Ad : Option Addr) (no co cd : Nat) (h2 : has g.fl 2 = true) :
    Calls Tryz.prog 40 #[.pointer (some ⟨x, 0, none⟩), segV g (.slice Ao no co) (.slice Ad g.data.length cd)] w fun e w' => ∃ v, e = .returned v ∧ Told w.heap.size w' v true (s.ackC st) ∧ Keeps [] w w' := by
  have c16 := h.e.c16
  rw [h.inp] at c16
  have hlt := h.e.lt
  have hr : 0 ≤ st.room - st.taken ∧ st.room - st.taken ≤ 16384 := by have := h.okb.t0; have := h.okb.tr; have := h.okb.r; omega
  have hw : IntKind.u32.wrap (st.room - st.taken) = st.room - st.taken := by rw [IntKind.wrap_u32]; omega
  have H := Lib.hid h
  unfold has at h2
  clear h
  unfold segV
  go_enter Tryz.func40, Tryz.ntmps40
  go_wp2_with fail
  refine wp_gn (fun W0 hW0 => ?_)
  have k0 : Keeps [] w W0 := by rw [hW0]; exact (Keeps.refl _ _).alloc' _
  have hx : W0.heap[w.heap.size]? = some (.cells #[.int .u16 g.sp, .int .u16 g.dp, .int .u32 g.sq, .int .u32 g.ak, .int .u8 g.fl, .int .u16 g.wn, .int .u16 g.ug, .slice Ao no co, .slice Ad g.data.length cd] 39 (0, 0)) := by rw [hW0]; exact (MapKept.heap_alloc w _).1
  have q16 := cell_keeps k0 c16 (by simp)
  have HB := Lib.hid (H.out.bf.keep k0 (by simp) (by simp))
  have K0 := Lib.hid k0
  have HX := Lib.hid hx
  clear hW0 hx k0 c16
  go_region_held3 (fun w' => w'.cell? ⟨x, 16, none⟩ = some (.pointer (some ⟨b, 0, none⟩))) (go_keep)
    (first
      | (go_at_call 36; refine (bnext_any (HB.out.keep (Keeps.drew [] _) (by simp) (by simp)) H.out.okb).mono ?_; rintro e w3 ⟨rfl, rfl⟩)
      | (go_at_call 35; refine (broom_any (HB.out.keep (Keeps.drew [] _) (by simp) (by simp)) H.out.okb).mono ?_; rintro e w3 ⟨rfl, nd, rfl⟩))
  go_upto_region 2 with fail
  refine wp_gn (fun W1 hW1 => ?_)
  have k1 : Keeps [] W0 W1 := by rw [hW1]; exact Keeps.drewN _ _ _
  have hx := (k1.block w.heap.size ((Array.getElem?_eq_some_iff.1 HX.out).1) (by simp)).trans HX.out
  have K1 := Lib.hid (K0.out.trans k1)
  have HX1 := Lib.hid hx
  have C1 := Lib.hid (H.out.keep0 K1.out)
  have hxc0 := cell_of_block hx 0
  have hxc1 := cell_of_block hx 1
  have hxc2 := cell_of_block hx 2
  have hxc3 := cell_of_block hx 3
  have hxc4 := cell_of_block hx 4
  have hxc5 := cell_of_block hx 5
  have hxc6 := cell_of_block hx 6
  have hxc7 := cell_of_block hx 7
  have hxc8 := cell_of_block hx 8
  simp at hxc0 hxc1 hxc2 hxc3 hxc4 hxc5 hxc6 hxc7 hxc8
  have hxf0 := free_of_block hx 0
  have hxf1 := free_of_block hx 1
  have hxf2 := free_of_block hx 2
  have hxf3 := free_of_block hx 3
  have hxf4 := free_of_block hx 4
  have hxf5 := free_of_block hx 5
  have hxf6 := free_of_block hx 6
  have hxf7 := free_of_block hx 7
  have hxf8 := free_of_block hx 8
  clear hx k1 hW1 HX HB K0 q16
  go_wp2_with fail
  refine (eacksC_any C1.out.e C1.out.ok C1.out.st2 C1.out.inp C1.out.bf C1.out.okb true).mono ?_
  rintro e w2 ⟨v, rfl, ht, k2⟩
  have HT := Lib.hid (And.intro (ht.mono (Keeps.refl _ _) K1.out.size) (K1.out.trans k2))
  clear ht k2
  go_wp2_with fail
  go_ret
  exact ⟨_, rfl, HT.out⟩

set_option maxRecDepth 100000 in
set_option maxHeartbeats 4000000 in
theorem client_rst {w : World} {B x b mb : Nat} {s : ES} {st : BS} {tl : List UInt8} (h : Cli w B x b mb s st tl) (g : Seg) (og : g.Ok) (Ao Ad : Option Addr) (no co cd : Nat) (h2 : has g.fl 2 = false) (h4 : has g.fl 4 = true) (hq : (g.sq == st.next) = false) :
    Calls Tryz.prog 40 #[.pointer (some ⟨x, 0, none⟩), segV g (.slice Ao no co) (.slice Ad g.data.length cd)] w fun e w' => ∃ v, e = .returned v ∧ Told w.heap.size w' v (withinI g.sq st.next (st.room - st.taken)) (s.ackC st) ∧ Keeps [] w w' := by
  have c16 := h.e.c16
  rw [h.inp] at c16
  have hlt := h.e.lt
  have hr : 0 ≤ st.room - st.taken ∧ st.room - st.taken ≤ 16384 := by have := h.okb.t0; have := h.okb.tr; have := h.okb.r; omega
  have hw : IntKind.u32.wrap (st.room - st.taken) = st.room - st.taken := by rw [IntKind.wrap_u32]; omega
  have H := Lib.hid h
  unfold has at h2 h4
  have hnb := st.next_bd
  have hsq := og.sq
  clear h
  unfold segV
  go_enter Tryz.func40, Tryz.ntmps40
  go_wp2_with fail
  refine wp_gn (fun W0 hW0 => ?_)
  have k0 : Keeps [] w W0 := by rw [hW0]; exact (Keeps.refl _ _).alloc' _
  have hx : W0.heap[w.heap.size]? = some (.cells #[.int .u16 g.sp, .int .u16 g.dp, .int .u32 g.sq, .int .u32 g.ak, .int .u8 g.fl, .int .u16 g.wn, .int .u16 g.ug, .slice Ao no co, .slice Ad g.data.length cd] 39 (0, 0)) := by rw [hW0]; exact (MapKept.heap_alloc w _).1
  have q16 := cell_keeps k0 c16 (by simp)
  have HB := Lib.hid (H.out.bf.keep k0 (by simp) (by simp))
  have K0 := Lib.hid k0
  have HX := Lib.hid hx
  clear hW0 hx k0 c16
  go_region_held3 (fun w' => w'.cell? ⟨x, 16, none⟩ = some (.pointer (some ⟨b, 0, none⟩))) (go_keep)
    (first
      | (go_at_call 36; refine (bnext_any (HB.out.keep (Keeps.drew [] _) (by simp) (by simp)) H.out.okb).mono ?_; rintro e w3 ⟨rfl, rfl⟩)
      | (go_at_call 35; refine (broom_any (HB.out.keep (Keeps.drew [] _) (by simp) (by simp)) H.out.okb).mono ?_; rintro e w3 ⟨rfl, nd, rfl⟩))
  go_upto_region 2 with fail
  refine wp_gn (fun W1 hW1 => ?_)
  have k1 : Keeps [] W0 W1 := by rw [hW1]; exact Keeps.drewN _ _ _
  have hx := (k1.block w.heap.size ((Array.getElem?_eq_some_iff.1 HX.out).1) (by simp)).trans HX.out
  have K1 := Lib.hid (K0.out.trans k1)
  have HX1 := Lib.hid hx
  have C1 := Lib.hid (H.out.keep0 K1.out)
  have hxc0 := cell_of_block hx 0
  have hxc1 := cell_of_block hx 1
  have hxc2 := cell_of_block hx 2
  have hxc3 := cell_of_block hx 3
  have hxc4 := cell_of_block hx 4
  have hxc5 := cell_of_block hx 5
  have hxc6 := cell_of_block hx 6
  have hxc7 := cell_of_block hx 7
  have hxc8 := cell_of_block hx 8
  simp at hxc0 hxc1 hxc2 hxc3 hxc4 hxc5 hxc6 hxc7 hxc8
  have hxf0 := free_of_block hx 0
  have hxf1 := free_of_block hx 1
  have hxf2 := free_of_block hx 2
  have hxf3 := free_of_block hx 3
  have hxf4 := free_of_block hx 4
  have hxf5 := free_of_block hx 5
  have hxf6 := free_of_block hx 6
  have hxf7 := free_of_block hx 7
  have hxf8 := free_of_block hx 8
  clear hx k1 hW1 HX HB K0 q16
  go_wp2_with fail
  refine (within_any _ g.sq st.next (st.room - st.taken) hsq hnb).mono ?_
  rintro e w2 ⟨rfl, rfl⟩
  go_wp2_with fail
  refine (eacksC_any C1.out.e C1.out.ok C1.out.st2 C1.out.inp C1.out.bf C1.out.okb (withinI g.sq st.next (st.room - st.taken))).mono ?_
  rintro e w2 ⟨v, rfl, ht, k2⟩
  have HT := Lib.hid (And.intro (ht.mono (Keeps.refl _ _) K1.out.size) (K1.out.trans k2))
  clear ht k2
  go_wp2_with fail
  go_ret
  exact ⟨_, rfl, HT.out⟩

set_option maxRecDepth 100000 in
set_option maxHeartbeats 4000000 in
theorem client_noack {w : World} {B x b mb : Nat} {s : ES} {st : BS} {tl : List UInt8} (h : Cli w B x b mb s st tl) (g : Seg) (og : g.Ok) (Ao Ad : Option Addr) (no co cd : Nat) (h2 : has g.fl 2 = false) (h4 : has g.fl 4 = false) (h16 : has g.fl 16 = false) :
    Calls Tryz.prog 40 #[.pointer (some ⟨x, 0, none⟩), segV g (.slice Ao no co) (.slice Ad g.data.length cd)] w fun e w' => e = .returned (.slice none 0 0) ∧ Keeps [] w w' := by
  have c16 := h.e.c16
  rw [h.inp] at c16
  have hlt := h.e.lt
  have hr : 0 ≤ st.room - st.taken ∧ st.room - st.taken ≤ 16384 := by have := h.okb.t0; have := h.okb.tr; have := h.okb.r; omega
  have hw : IntKind.u32.wrap (st.room - st.taken) = st.room - st.taken := by rw [IntKind.wrap_u32]; omega
  have H := Lib.hid h
  unfold has at h2 h4 h16
  have h16' : (bits BinOp.and IntKind.u8 g.fl 16 == 0) = true := by simpa [bne] using h16
  clear h
  unfold segV
  go_enter Tryz.func40, Tryz.ntmps40
  go_wp2_with fail
  refine wp_gn (fun W0 hW0 => ?_)
  have k0 : Keeps [] w W0 := by rw [hW0]; exact (Keeps.refl _ _).alloc' _
  have hx : W0.heap[w.heap.size]? = some (.cells #[.int .u16 g.sp, .int .u16 g.dp, .int .u32 g.sq, .int .u32 g.ak, .int .u8 g.fl, .int .u16 g.wn, .int .u16 g.ug, .slice Ao no co, .slice Ad g.data.length cd] 39 (0, 0)) := by rw [hW0]; exact (MapKept.heap_alloc w _).1
  have q16 := cell_keeps k0 c16 (by simp)
  have HB := Lib.hid (H.out.bf.keep k0 (by simp) (by simp))
  have K0 := Lib.hid k0
  have HX := Lib.hid hx
  clear hW0 hx k0 c16
  go_region_held3 (fun w' => w'.cell? ⟨x, 16, none⟩ = some (.pointer (some ⟨b, 0, none⟩))) (go_keep)
    (first
      | (go_at_call 36; refine (bnext_any (HB.out.keep (Keeps.drew [] _) (by simp) (by simp)) H.out.okb).mono ?_; rintro e w3 ⟨rfl, rfl⟩)
      | (go_at_call 35; refine (broom_any (HB.out.keep (Keeps.drew [] _) (by simp) (by simp)) H.out.okb).mono ?_; rintro e w3 ⟨rfl, nd, rfl⟩))
  go_upto_region 2 with fail
  refine wp_gn (fun W1 hW1 => ?_)
  have k1 : Keeps [] W0 W1 := by rw [hW1]; exact Keeps.drewN _ _ _
  have hx := (k1.block w.heap.size ((Array.getElem?_eq_some_iff.1 HX.out).1) (by simp)).trans HX.out
  have K1 := Lib.hid (K0.out.trans k1)
  have HX1 := Lib.hid hx
  have C1 := Lib.hid (H.out.keep0 K1.out)
  have hxc0 := cell_of_block hx 0
  have hxc1 := cell_of_block hx 1
  have hxc2 := cell_of_block hx 2
  have hxc3 := cell_of_block hx 3
  have hxc4 := cell_of_block hx 4
  have hxc5 := cell_of_block hx 5
  have hxc6 := cell_of_block hx 6
  have hxc7 := cell_of_block hx 7
  have hxc8 := cell_of_block hx 8
  simp at hxc0 hxc1 hxc2 hxc3 hxc4 hxc5 hxc6 hxc7 hxc8
  have hxf0 := free_of_block hx 0
  have hxf1 := free_of_block hx 1
  have hxf2 := free_of_block hx 2
  have hxf3 := free_of_block hx 3
  have hxf4 := free_of_block hx 4
  have hxf5 := free_of_block hx 5
  have hxf6 := free_of_block hx 6
  have hxf7 := free_of_block hx 7
  have hxf8 := free_of_block hx 8
  clear hx k1 hW1 HX HB K0 q16
  go_wp2_with fail
  go_ret
  exact ⟨rfl, K1.out⟩

set_option maxRecDepth 100000 in
set_option maxHeartbeats 4000000 in
theorem client_reset {w : World} {B x b mb : Nat} {s : ES} {st : BS} {tl : List UInt8} (h : Cli w B x b mb s st tl) (g : Seg) (og : g.Ok) (Ao Ad : Option Addr) (no co cd : Nat) (h2 : has g.fl 2 = false) (h4 : has g.fl 4 = true) (hq : g.sq = st.next) :
    Calls Tryz.prog 40 #[.pointer (some ⟨x, 0, none⟩), segV g (.slice Ao no co) (.slice Ad g.data.length cd)] w fun e w' => e = .returned (.slice none 0 0) ∧ EndAt w' x { s with st := 3 } ∧ Keeps [x] w w' := by
  have c16 := h.e.c16
  rw [h.inp] at c16
  have hlt := h.e.lt
  have hr : 0 ≤ st.room - st.taken ∧ st.room - st.taken ≤ 16384 := by have := h.okb.t0; have := h.okb.tr; have := h.okb.r; omega
  have hw : IntKind.u32.wrap (st.room - st.taken) = st.room - st.taken := by rw [IntKind.wrap_u32]; omega
  have H := Lib.hid h
  unfold has at h2 h4
  have hq' : (g.sq == st.next) = true := by simpa using hq
  clear hq
  clear h
  unfold segV
  go_enter Tryz.func40, Tryz.ntmps40
  go_wp2_with fail
  refine wp_gn (fun W0 hW0 => ?_)
  have k0 : Keeps [] w W0 := by rw [hW0]; exact (Keeps.refl _ _).alloc' _
  have hx : W0.heap[w.heap.size]? = some (.cells #[.int .u16 g.sp, .int .u16 g.dp, .int .u32 g.sq, .int .u32 g.ak, .int .u8 g.fl, .int .u16 g.wn, .int .u16 g.ug, .slice Ao no co, .slice Ad g.data.length cd] 39 (0, 0)) := by rw [hW0]; exact (MapKept.heap_alloc w _).1
  have q16 := cell_keeps k0 c16 (by simp)
  have HB := Lib.hid (H.out.bf.keep k0 (by simp) (by simp))
  have K0 := Lib.hid k0
  have HX := Lib.hid hx
  clear hW0 hx k0 c16
  go_region_held3 (fun w' => w'.cell? ⟨x, 16, none⟩ = some (.pointer (some ⟨b, 0, none⟩))) (go_keep)
    (first
      | (go_at_call 36; refine (bnext_any (HB.out.keep (Keeps.drew [] _) (by simp) (by simp)) H.out.okb).mono ?_; rintro e w3 ⟨rfl, rfl⟩)
      | (go_at_call 35; refine (broom_any (HB.out.keep (Keeps.drew [] _) (by simp) (by simp)) H.out.okb).mono ?_; rintro e w3 ⟨rfl, nd, rfl⟩))
  go_upto_region 2 with fail
  refine wp_gn (fun W1 hW1 => ?_)
  have k1 : Keeps [] W0 W1 := by rw [hW1]; exact Keeps.drewN _ _ _
  have hx := (k1.block w.heap.size ((Array.getElem?_eq_some_iff.1 HX.out).1) (by simp)).trans HX.out
  have K1 := Lib.hid (K0.out.trans k1)
  have HX1 := Lib.hid hx
  have C1 := Lib.hid (H.out.keep0 K1.out)
  have hxc0 := cell_of_block hx 0
  have hxc1 := cell_of_block hx 1
  have hxc2 := cell_of_block hx 2
  have hxc3 := cell_of_block hx 3
  have hxc4 := cell_of_block hx 4
  have hxc5 := cell_of_block hx 5
  have hxc6 := cell_of_block hx 6
  have hxc7 := cell_of_block hx 7
  have hxc8 := cell_of_block hx 8
  simp at hxc0 hxc1 hxc2 hxc3 hxc4 hxc5 hxc6 hxc7 hxc8
  have hxf0 := free_of_block hx 0
  have hxf1 := free_of_block hx 1
  have hxf2 := free_of_block hx 2
  have hxf3 := free_of_block hx 3
  have hxf4 := free_of_block hx 4
  have hxf5 := free_of_block hx 5
  have hxf6 := free_of_block hx 6
  have hxf7 := free_of_block hx 7
  have hxf8 := free_of_block hx 8
  clear hx k1 hW1 HX HB K0 q16
  have z15 := C1.out.e.fz 15
  have c15 := C1.out.e.c15
  go_wp2_with fail
  go_ret
  exact ⟨rfl, C1.out.e.s15 3, (K1.out.mono (by simp)).trans (Keeps.setCell _ ⟨x, 15, none⟩ _)⟩

set_option maxRecDepth 100000 in
set_option maxHeartbeats 4000000 in
theorem client_other {w : World} {B x b mb : Nat} {s : ES} {st : BS} {tl : List UInt8} (h : Cli w B x b mb s st tl) (g : Seg) (og : g.Ok) (Ao Ad : Option Addr) (no co cd : Nat) (h2 : has g.fl 2 = false) (h4 : has g.fl 4 = false) (h16 : has g.fl 16 = true) (hk : g.ak ≠ (s.iss + 1) % 4294967296) :
    Calls Tryz.prog 40 #[.pointer (some ⟨x, 0, none⟩), segV g (.slice Ao no co) (.slice Ad g.data.length cd)] w fun e w' => ∃ v, e = .returned v ∧ Told w.heap.size w' v true (s.ackC st) ∧ Keeps [] w w' := by
  have c16 := h.e.c16
  rw [h.inp] at c16
  have hlt := h.e.lt
  have hr : 0 ≤ st.room - st.taken ∧ st.room - st.taken ≤ 16384 := by have := h.okb.t0; have := h.okb.tr; have := h.okb.r; omega
  have hw : IntKind.u32.wrap (st.room - st.taken) = st.room - st.taken := by rw [IntKind.wrap_u32]; omega
  have H := Lib.hid h
  unfold has at h2 h4 h16
  have h16' : (bits BinOp.and IntKind.u8 g.fl 16 == 0) = false := by simpa [bne] using h16
  have hwi : IntKind.u32.wrap (s.iss + 1) = (s.iss + 1) % 4294967296 := IntKind.wrap_u32 _
  have hk' : (g.ak == (s.iss + 1) % 4294967296) = false := by simpa using hk
  clear h
  unfold segV
  go_enter Tryz.func40, Tryz.ntmps40
  go_wp2_with fail
  refine wp_gn (fun W0 hW0 => ?_)
  have k0 : Keeps [] w W0 := by rw [hW0]; exact (Keeps.refl _ _).alloc' _
  have hx : W0.heap[w.heap.size]? = some (.cells #[.int .u16 g.sp, .int .u16 g.dp, .int .u32 g.sq, .int .u32 g.ak, .int .u8 g.fl, .int .u16 g.wn, .int .u16 g.ug, .slice Ao no co, .slice Ad g.data.length cd] 39 (0, 0)) := by rw [hW0]; exact (MapKept.heap_alloc w _).1
  have q16 := cell_keeps k0 c16 (by simp)
  have HB := Lib.hid (H.out.bf.keep k0 (by simp) (by simp))
  have K0 := Lib.hid k0
  have HX := Lib.hid hx
  clear hW0 hx k0 c16
  go_region_held3 (fun w' => w'.cell? ⟨x, 16, none⟩ = some (.pointer (some ⟨b, 0, none⟩))) (go_keep)
    (first
      | (go_at_call 36; refine (bnext_any (HB.out.keep (Keeps.drew [] _) (by simp) (by simp)) H.out.okb).mono ?_; rintro e w3 ⟨rfl, rfl⟩)
      | (go_at_call 35; refine (broom_any (HB.out.keep (Keeps.drew [] _) (by simp) (by simp)) H.out.okb).mono ?_; rintro e w3 ⟨rfl, nd, rfl⟩))
  go_upto_region 2 with fail
  refine wp_gn (fun W1 hW1 => ?_)
  have k1 : Keeps [] W0 W1 := by rw [hW1]; exact Keeps.drewN _ _ _
  have hx := (k1.block w.heap.size ((Array.getElem?_eq_some_iff.1 HX.out).1) (by simp)).trans HX.out
  have K1 := Lib.hid (K0.out.trans k1)
  have HX1 := Lib.hid hx
  have C1 := Lib.hid (H.out.keep0 K1.out)
  have hxc0 := cell_of_block hx 0
  have hxc1 := cell_of_block hx 1
  have hxc2 := cell_of_block hx 2
  have hxc3 := cell_of_block hx 3
  have hxc4 := cell_of_block hx 4
  have hxc5 := cell_of_block hx 5
  have hxc6 := cell_of_block hx 6
  have hxc7 := cell_of_block hx 7
  have hxc8 := cell_of_block hx 8
  simp at hxc0 hxc1 hxc2 hxc3 hxc4 hxc5 hxc6 hxc7 hxc8
  have hxf0 := free_of_block hx 0
  have hxf1 := free_of_block hx 1
  have hxf2 := free_of_block hx 2
  have hxf3 := free_of_block hx 3
  have hxf4 := free_of_block hx 4
  have hxf5 := free_of_block hx 5
  have hxf6 := free_of_block hx 6
  have hxf7 := free_of_block hx 7
  have hxf8 := free_of_block hx 8
  clear hx k1 hW1 HX HB K0 q16
  have c2 := C1.out.e.c2
  go_upto_region 11 with fail
  go_quiet (fail)
  go_upto_region 12 with fail
  refine wp_gn (fun W2 hW2 => ?_)
  have k2 : Keeps [] W1 W2 := by rw [hW2]; first | exact Keeps.drewN _ _ _ | exact kw6.drewN' _ | exact kw6.drew' | exact kw6
  have C2 := Lib.hid (C1.out.keep0 k2)
  have K2 := Lib.hid (K1.out.trans k2)
  clear hW2 k2
  go_wp2_with fail
  refine (eacksC_any C2.out.e C2.out.ok C2.out.st2 C2.out.inp C2.out.bf C2.out.okb true).mono ?_
  rintro e w3 ⟨v, rfl, ht, k3⟩
  have HT := Lib.hid (And.intro (ht.mono (Keeps.refl _ _) K2.out.size) (K2.out.trans k3))
  clear ht k3
  go_wp2_with fail
  go_ret
  exact ⟨_, rfl, HT.out⟩

set_option maxRecDepth 100000 in
set_option maxHeartbeats 4000000 in
theorem client_far {w : World} {B x b mb : Nat} {s : ES} {st : BS} {tl : List UInt8} (h : Cli w B x b mb s st tl) (g : Seg) (og : g.Ok) (Ao Ad : Option Addr) (no co cd : Nat) (h2 : has g.fl 2 = false) (h4 : has g.fl 4 = false) (h16 : has g.fl 16 = true) (hk : g.ak = (s.iss + 1) % 4294967296) (ha : acceptI g.sq (lenI g) st.next (st.room - st.taken) = false) :
    Calls Tryz.prog 40 #[.pointer (some ⟨x, 0, none⟩), segV g (.slice Ao no co) (.slice Ad g.data.length cd)] w fun e w' => ∃ v, e = .returned v ∧ Told w.heap.size w' v true (s.ackC st) ∧ Keeps [] w w' := by
  have c16 := h.e.c16
  rw [h.inp] at c16
  have hlt := h.e.lt
  have hr : 0 ≤ st.room - st.taken ∧ st.room - st.taken ≤ 16384 := by have := h.okb.t0; have := h.okb.tr; have := h.okb.r; omega
  have hw : IntKind.u32.wrap (st.room - st.taken) = st.room - st.taken := by rw [IntKind.wrap_u32]; omega
  have H := Lib.hid h
  unfold has at h2 h4 h16
  have h16' : (bits BinOp.and IntKind.u8 g.fl 16 == 0) = false := by simpa [bne] using h16
  have hwi : IntKind.u32.wrap (s.iss + 1) = (s.iss + 1) % 4294967296 := IntKind.wrap_u32 _
  have hk' : (g.ak == (s.iss + 1) % 4294967296) = true := by simpa using hk
  have hk2 : (g.ak != (s.iss + 1) % 4294967296) = false := by simpa using hk
  have og' := og
  have hlw : IntKind.i64.wrap (lenI g) = lenI g := IntWalk.i64_in _ (by have := lenI_bd og; omega)
  have hac : ∀ W, Calls Tryz.prog 65 #[.int .u32 g.sq, .int .i64 (lenI g), .int .u32 st.next, .int .u32 (st.room - st.taken)] W fun e w' => e = .returned (.bool false) ∧ Keeps [] W w' := by
    intro W
    have := accept_any W g.sq (lenI g) st.next (st.room - st.taken) og.sq st.next_bd (lenI_bd og).1 (lenI_bd og).2
    rw [ha] at this
    exact this
  clear hk ha
  clear h
  unfold segV
  go_enter Tryz.func40, Tryz.ntmps40
  go_wp2_with fail
  refine wp_gn (fun W0 hW0 => ?_)
  have k0 : Keeps [] w W0 := by rw [hW0]; exact (Keeps.refl _ _).alloc' _
  have hx : W0.heap[w.heap.size]? = some (.cells #[.int .u16 g.sp, .int .u16 g.dp, .int .u32 g.sq, .int .u32 g.ak, .int .u8 g.fl, .int .u16 g.wn, .int .u16 g.ug, .slice Ao no co, .slice Ad g.data.length cd] 39 (0, 0)) := by rw [hW0]; exact (MapKept.heap_alloc w _).1
  have q16 := cell_keeps k0 c16 (by simp)
  have HB := Lib.hid (H.out.bf.keep k0 (by simp) (by simp))
  have K0 := Lib.hid k0
  have HX := Lib.hid hx
  clear hW0 hx k0 c16
  go_region_held3 (fun w' => w'.cell? ⟨x, 16, none⟩ = some (.pointer (some ⟨b, 0, none⟩))) (go_keep)
    (first
      | (go_at_call 36; refine (bnext_any (HB.out.keep (Keeps.drew [] _) (by simp) (by simp)) H.out.okb).mono ?_; rintro e w3 ⟨rfl, rfl⟩)
      | (go_at_call 35; refine (broom_any (HB.out.keep (Keeps.drew [] _) (by simp) (by simp)) H.out.okb).mono ?_; rintro e w3 ⟨rfl, nd, rfl⟩))
  go_upto_region 2 with fail
  refine wp_gn (fun W1 hW1 => ?_)
  have k1 : Keeps [] W0 W1 := by rw [hW1]; exact Keeps.drewN _ _ _
  have hx := (k1.block w.heap.size ((Array.getElem?_eq_some_iff.1 HX.out).1) (by simp)).trans HX.out
  have K1 := Lib.hid (K0.out.trans k1)
  have HX1 := Lib.hid hx
  have C1 := Lib.hid (H.out.keep0 K1.out)
  have hxc0 := cell_of_block hx 0
  have hxc1 := cell_of_block hx 1
  have hxc2 := cell_of_block hx 2
  have hxc3 := cell_of_block hx 3
  have hxc4 := cell_of_block hx 4
  have hxc5 := cell_of_block hx 5
  have hxc6 := cell_of_block hx 6
  have hxc7 := cell_of_block hx 7
  have hxc8 := cell_of_block hx 8
  simp at hxc0 hxc1 hxc2 hxc3 hxc4 hxc5 hxc6 hxc7 hxc8
  have hxf0 := free_of_block hx 0
  have hxf1 := free_of_block hx 1
  have hxf2 := free_of_block hx 2
  have hxf3 := free_of_block hx 3
  have hxf4 := free_of_block hx 4
  have hxf5 := free_of_block hx 5
  have hxf6 := free_of_block hx 6
  have hxf7 := free_of_block hx 7
  have hxf8 := free_of_block hx 8
  clear hx k1 hW1 HX HB K0 q16
  have c2 := C1.out.e.c2
  have HL := Lib.hid (fun W => length_any W g og' Ao Ad no co cd)
  have LN := lenI_bd og'
  have HAC := Lib.hid (fun W => hac W)
  clear hac
  unfold segV at HL
  go_upto_region 11 with fail
  go_region_held3 (fun w' => w'.cell? ⟨w.heap.size, 0, none⟩ = some (.int .u16 g.sp) ∧ w'.cell? ⟨w.heap.size, 1, none⟩ = some (.int .u16 g.dp) ∧ w'.cell? ⟨w.heap.size, 2, none⟩ = some (.int .u32 g.sq) ∧ w'.cell? ⟨w.heap.size, 3, none⟩ = some (.int .u32 g.ak) ∧ w'.cell? ⟨w.heap.size, 4, none⟩ = some (.int .u8 g.fl) ∧ w'.cell? ⟨w.heap.size, 5, none⟩ = some (.int .u16 g.wn) ∧ w'.cell? ⟨w.heap.size, 6, none⟩ = some (.int .u16 g.ug) ∧ w'.cell? ⟨w.heap.size, 7, none⟩ = some (.slice Ao no co) ∧ w'.cell? ⟨w.heap.size, 8, none⟩ = some (.slice Ad g.data.length cd) ∧ w'.cell? ⟨x, 2, none⟩ = some (.int .u32 s.iss)) ((refine (fun kx => ⟨cell_keeps kx hxc0 (by simp), cell_keeps kx hxc1 (by simp), cell_keeps kx hxc2 (by simp), cell_keeps kx hxc3 (by simp), cell_keeps kx hxc4 (by simp), cell_keeps kx hxc5 (by simp), cell_keeps kx hxc6 (by simp), cell_keeps kx hxc7 (by simp), cell_keeps kx hxc8 (by simp), cell_keeps kx c2 (by simp)⟩ : Keeps [] W1 _ → _) ?_; (repeat (first | with_reducible assumption | with_reducible exact Keeps.refl _ _ | with_reducible apply Keeps.alloc' | with_reducible apply Keeps.drew' | with_reducible apply Keeps.drewN' | (with_reducible apply Keeps.setCell'; rotate_left; · simp))))) (first | (go_at_call 66; with_reducible refine (HL.out _).mono ?_; rintro e w5 ⟨rfl, k5⟩; have kw5 : Keeps [] W1 w5 := Keeps.trans (by (repeat (first | with_reducible assumption | with_reducible exact Keeps.refl _ _ | with_reducible apply Keeps.alloc' | with_reducible apply Keeps.drew' | with_reducible apply Keeps.drewN' | (with_reducible apply Keeps.setCell'; rotate_left; · simp)))) k5; clear k5) | (go_at_call 65; with_reducible refine (HAC.out _).mono ?_; rintro e w6 ⟨rfl, k6⟩; have kw6 : Keeps [] W1 w6 := Keeps.trans (by (repeat (first | with_reducible assumption | with_reducible exact Keeps.refl _ _ | with_reducible apply Keeps.alloc' | with_reducible apply Keeps.drew' | with_reducible apply Keeps.drewN' | (with_reducible apply Keeps.setCell'; rotate_left; · simp)))) k6; clear k6))
  go_upto_region 12 with fail
  refine wp_gn (fun W2 hW2 => ?_)
  have k2 : Keeps [] W1 W2 := by rw [hW2]; first | exact Keeps.drewN _ _ _ | exact kw6.drewN' _ | exact kw6.drew' | exact kw6
  have C2 := Lib.hid (C1.out.keep0 k2)
  have K2 := Lib.hid (K1.out.trans k2)
  clear hW2 k2
  go_wp2_with fail
  refine (eacksC_any C2.out.e C2.out.ok C2.out.st2 C2.out.inp C2.out.bf C2.out.okb true).mono ?_
  rintro e w3 ⟨v, rfl, ht, k3⟩
  have HT := Lib.hid (And.intro (ht.mono (Keeps.refl _ _) K2.out.size) (K2.out.trans k3))
  clear ht k3
  go_wp2_with fail
  go_ret
  exact ⟨_, rfl, HT.out⟩

end Go.Proofs.YtakgohocimlagaaGreat

namespace Go.Proofs.YtakgohocimlagaaGreat
open Go.RowKit
set_option linter.unusedVariables false
set_option linter.unusedSimpArgs false

theorem step_append_bytes {P : Program} {w : World} {ops : Array Oper} {o : Oper} {a : Act} {K : Act → World → Prop} {Q : Exit → Act → World → Prop} {E : Prop} (hgd : o.guard = none) (s x : Operand) (base t e : Nat)
    (ho : o.op = .call { callee := .builtin .append, args := #[s, x], argTypes := #[t, t] })
    (ht : P.underlying t = some (.slice e)) (hi : (P.info? e).map (fun i => (i.zero, i.size, i.bytes)) = some (some (.int .u8 0), 1, 1))
    (v : Value) (n : Nat) (xs : List UInt8) (hs : a.eval s = v) (hown : w.ownsRow base e 1 v n (xs.map u8V)) (y : Value) (l : List UInt8) (hx : a.eval x = y) (hy : BytesV w y l) (hn : n + l.length ≤ 1099511627776) (hbase : base ≤ w.heap.size)
    (h : ∀ v' w', w'.ownsRow base e 1 v' (n + l.length) ((xs ++ l).map u8V) → w.grownBy w' v.ownBlock → (v'.ownBlock = v.ownBlock ∨ v'.ownBlock = some w.heap.size) → K (a.put o.dst v') w') :
    if Region.wanted o (yielded ops a.tmps) = true then Oper.wp P o a w K Q else E := by
  have hw : Region.wanted o (yielded ops a.tmps) = true := by simp [Region.wanted, hgd]
  rw [if_pos hw]
  obtain ⟨v', w', hrun, h2, h3, h4, h5⟩ := run_append_bytes (P := P) w base t o.type e ht hi v n xs hown y l hy hn hbase
  unfold Oper.wp execOp
  simp only [ho, resolve, invoke, builtin, Sem.run_bind, Sem.run_pure, Result.andThen_ok, List.map_toArray, List.map_cons, List.map_nil, hs, hx, hrun]
  exact h v' w' h2 h3 h4
theorem cell_grown {w w' : World} {row : Option Nat} (g : w.grownBy w' row) {a : Addr} {v : Value} (h : w.cell? a = some v) (hne : row ≠ some a.block) : w'.cell? a = some v :=
  (World.cell?_of_block (w := w) (g.block _ (lt_of_cell h) (fun e => hne e.symm))).trans h
theorem block_grown {w w' : World} {row : Option Nat} (g : w.grownBy w' row) {j : Nat} {o : Obj} (h : w.heap[j]? = some o) (hne : row ≠ some j) : w'.heap[j]? = some o :=
  (g.block _ (lt_of_block h) (fun e => hne e.symm)).trans h

theorem own_keepsS {w w' : World} {B e sz n : Nat} {v : Value} {xs : List Value} {S : List Nat} (h : w.ownsRow B e sz v n xs) (k : Keeps S w w') (hS : ∀ j, v.ownBlock = some j → j ∉ S) : w'.ownsRow B e sz v n xs := by
  refine ⟨h.1, ?_⟩
  rcases h.2 with h0 | ⟨g, cap, cur, rfl, hb, hg, hr⟩
  · exact .inl h0
  · exact .inr ⟨g, cap, cur, rfl, hb, (k.block g (lt_of_block hg) (hS g rfl)).trans hg, hr⟩
theorem EndAt.grown {w w' : World} {row : Option Nat} {x : Nat} {s : ES} (h : EndAt w x s) (g : w.grownBy w' row) (hne : row ≠ some x) : EndAt w' x s := block_grown g h hne
theorem wp_hideQ {P : Program} {c : Code} {Q : Exit → Act → World → Prop} {a : Act} {w : World} (h : ∀ Q' : Exit → Act → World → Prop, (∀ e a w, Q e a w → Q' e a w) → c.wp P Q' a w) : c.wp P Q a w := h Q (fun _ _ _ h => h)
theorem quiet_same {P : Program} {f : FuncId} {args : Array Value} {w : World} {n : Nat} {v : Value}
    (h : Calls P f args (w.drewN n) fun e w' => e = .returned v ∧ w.drewN n = w') : Calls P f args (w.drewN n) fun e w'' => e = .returned v ∧ ∃ m, w'' = w.drewN m :=
  h.mono fun _ _ ⟨he, hm⟩ => ⟨he, n, hm.symm⟩
/-- What a Put makes of a buffer: nothing where the holes would be too many. -/
def BS.put (s : BS) (a : Int) (data : List UInt8) : BS := if 16 < s.holes a data then s else { s with m := s.anew a data }
theorem BS.put_ok {s : BS} (ok : s.ok) {a : Int} (ha : U32 a) (data : List UInt8) (hd : data.length ≤ 1048576) : (s.put a data).ok := by
  unfold BS.put
  split
  · exact ok
  · exact BS.anew_ok ok ha data hd
theorem BS.put_taken (s : BS) (a : Int) (data : List UInt8) : (s.put a data).taken = s.taken ∧ (s.put a data).room = s.room ∧ (s.put a data).first = s.first := by
  unfold BS.put
  split <;> exact ⟨rfl, rfl, rfl⟩
theorem bput_do {w : World} {b mb : Nat} {s : BS} (h : BuffAt w b mb s) (ok : s.ok) (a : Int) (ha : U32 a) (A : Option Addr) (n c : Nat) (data : List UInt8) (hv : BytesV w (.slice A n c) data) (hn : n ≤ 1048576) :
    Calls Tryz.prog 68 #[.pointer (some ⟨b, 0, none⟩), .int .u32 a, .slice A n c] w fun e w' => ∃ z1 z2, e = .returned (.tuple #[.int .i64 z1, .int .i64 z2]) ∧ Keeps [b] w w' ∧ ∃ mb', BuffAt w' b mb' (s.put a data) ∧ (mb' = mb ∨ w.heap.size ≤ mb') := by
  refine (bput_any h ok a ha A n c data hv hn).mono ?_
  rintro e w' (⟨h1, rfl, k⟩ | ⟨h1, rfl, k, mb', h2, h3⟩)
  · exact ⟨_, _, rfl, k.mono (by simp), mb, by unfold BS.put; rw [if_pos h1]; exact h.keep k (by simp) (by simp), .inl rfl⟩
  · exact ⟨_, _, rfl, k, mb', by unfold BS.put; rw [if_neg (by omega)]; exact h2, .inr h3⟩

theorem Cli.no {w : World} {B x b mb : Nat} {s : ES} {st : BS} {tl : List UInt8} (h : Cli w B x b mb s st tl) : NoU8 w x := by
  obtain ⟨A, c, ht⟩ := own_slice h.own
  intro i y hx
  rw [cell_of_block h.e i] at hx
  match i, hx with
  | 16, hx => simp [ES.cells, h.inp] at hx
  | 17, hx => simp [ES.cells, ht] at hx
  | 19, hx => simp [ES.cells, h.out] at hx
  | 20, hx => simp [ES.cells, h.wri] at hx
  | 0, hx | 1, hx | 2, hx | 3, hx | 4, hx | 5, hx | 6, hx | 7, hx | 8, hx | 9, hx | 10, hx | 11, hx | 12, hx | 13, hx | 14, hx | 15, hx | 18, hx | 21, hx | 22, hx | 23, hx => simp [ES.cells] at hx
  | i + 24, hx => simp [ES.cells] at hx
/-- What both have that a segment does not change. -/
structure ES.Same (s s' : ES) : Prop where
  loc : s'.loc = s.loc
  rem : s'.rem = s.rem
  iss : s'.iss = s.iss
  sscl : s'.sscl = s.sscl
  scl : s'.scl = s.scl
  irs : s'.irs = s.irs
  st : s'.st = s.st
  inp : s'.inp = s.inp
  out : s'.out = s.out
  wri : s'.wri = s.wri
theorem ES.Same.ok {s s' : ES} (h : ES.Same s s') (ok : s.Ok) : s'.Ok :=
  ⟨by rw [h.loc]; exact ok.loc, by rw [h.rem]; exact ok.rem, by rw [h.iss]; exact ok.iss, by rw [h.scl, h.sscl]; exact ok.sscl, by rw [h.sscl]; exact ok.sscl', by rw [h.scl]; exact ok.scl, by rw [h.irs]; exact ok.irs⟩
theorem Cli.upd {w w' : World} {B x b mb : Nat} {s s' : ES} {st : BS} {tl : List UInt8} (h : Cli w B x b mb s st tl) (k : Keeps [x] w w') (he : EndAt w' x s') (hs : ES.Same s s') (ht : s'.tak = s.tak) : Cli w' B x b mb s' st tl := by
  have h1 := h.xb
  have h2 := h.xm
  refine ⟨he, hs.ok h.ok, by rw [hs.st]; exact h.st2, by rw [hs.inp]; exact h.inp, by rw [hs.out]; exact h.out, by rw [hs.wri]; exact h.wri, h.bf.keep k (by simp; omega) (by simp; omega), h.okb, ?_, by rw [ht]; exact h.sep, h.xb, h.xm, h.zx, h.zb, h.zm, h.len⟩
  rw [ht]
  refine ⟨h.own.1, ?_⟩
  rcases h.own.2 with h0 | ⟨g, cap, cur, e, hb, hg, hr⟩
  · exact .inl h0
  · exact .inr ⟨g, cap, cur, e, hb, (k.block g (lt_of_block hg) (by have := h.sep g (by rw [e]; rfl); simp; omega)).trans hg, hr⟩
/-- Behind a Put. -/
theorem Cli.putB {w w' : World} {B x b mb mb' : Nat} {s : ES} {st st' : BS} {tl : List UInt8} (h : Cli w B x b mb s st tl) (k : Keeps [b] w w') (hb : BuffAt w' b mb' st') (okb : st'.ok) (ht : st'.taken = st.taken) (hm : mb' = mb ∨ w.heap.size ≤ mb') : Cli w' B x b mb' s st' tl := by
  have h1 := h.xb
  have h2 := h.xm
  have hz := h.e.lt
  have hzz := k.size
  have zx := h.zx
  refine ⟨h.e.keep k (by simp; omega), h.ok, h.st2, h.inp, h.out, h.wri, hb, okb, ?_, fun j hj => ?_, h.xb, by omega, h.zx, h.zb, by have := h.zm; omega, by rw [ht]; exact h.len⟩
  · refine ⟨h.own.1, ?_⟩
    rcases h.own.2 with h0 | ⟨g, cap, cur, e, hb, hg, hr⟩
    · exact .inl h0
    · exact .inr ⟨g, cap, cur, e, hb, (k.block g (lt_of_block hg) (by have := h.sep g (by rw [e]; rfl); simp; omega)).trans hg, hr⟩
  · have := h.sep j hj
    have := (h.own.lt j hj).2
    refine ⟨by omega, by omega, ?_⟩
    rcases hm with rfl | hm <;> omega
/-- Behind a Take whose bytes were laid behind the others. -/
theorem Cli.took {w w6 w8 : World} {B x b mb : Nat} {s : ES} {st : BS} {tl : List UInt8} {v8 : Value} (h : Cli w B x b mb s st tl) (k6 : Keeps [b, mb] w w6) (hb6 : BuffAt w6 b mb st.take)
    (hown8 : w8.ownsRow B 5 1 v8 (tl.length + st.out.length) ((tl ++ st.out).map u8V)) (hg8 : w6.grownBy w8 s.tak.ownBlock) (hat : v8.ownBlock = s.tak.ownBlock ∨ v8.ownBlock = some w6.heap.size) :
    Cli (w8.setCell ⟨x, 17, none⟩ v8) B x b mb { s with tak := v8 } st.take (tl ++ st.out) ∧ Keeps (footC x b mb s) w (w8.setCell ⟨x, 17, none⟩ v8) ∧ (v8.ownBlock = s.tak.ownBlock ∨ ∃ j, v8.ownBlock = some j ∧ w.heap.size ≤ j) := by
  have h1 := h.xb
  have h2 := h.xm
  have z6 := k6.size
  have lx := h.e.lt
  have lb := lt_of_block h.bf.head
  have lm := h.bf.map.lt
  have hsep := h.sep
  have e6 : EndAt w6 x s := h.e.keep k6 (by simp; omega)
  have e8 : EndAt w8 x s := block_grown hg8 e6 (fun e => (hsep x e).1 rfl)
  have hbh : w8.heap[b]? = w6.heap[b]? := hg8.block b (by omega) (fun e => (hsep b e.symm).2.1 rfl)
  have hbm : w8.heap[mb]? = w6.heap[mb]? := hg8.block mb (by omega) (fun e => (hsep mb e.symm).2.2 rfl)
  have hv8 : ∀ j, v8.ownBlock = some j → j ≠ x ∧ j ≠ b ∧ j ≠ mb := by
    intro j hj
    rcases hat with h0 | h0
    · exact hsep j (by rw [← h0]; exact hj)
    · rw [h0] at hj
      injection hj with hj
      omega
  refine ⟨⟨e8.s17 v8, ES.Same.ok (s := s) ⟨rfl, rfl, rfl, rfl, rfl, rfl, rfl, rfl, rfl, rfl⟩ h.ok, h.st2, h.inp, h.out, h.wri, ⟨?_, ?_⟩, BS.take_ok h.okb, ?_, hv8, h.xb, h.xm, h.zx, h.zb, h.zm, ?_⟩, ?_, ?_⟩
  · rw [Below.heap_setCell _ _ _ _ (show b ≠ x by omega), hbh]; exact hb6.head
  · exact hb6.map.of_heap (by rw [Below.heap_setCell _ _ _ _ (show mb ≠ x by omega), hbm])
  · have := hown8.kept (Keeps.setCell w8 ⟨x, 17, none⟩ v8).toGrown (Or.inr (fun e => (hv8 x e).1 rfl))
    rw [List.length_append]
    exact this
  · have := h.len
    have h3 : st.out.length = st.ready := bytesN_len _ _ _
    rw [List.length_append, h3]
    show ((tl.length + st.ready : Nat) : Int) = st.taken + st.ready
    omega
  · refine ⟨hg8.os.trans k6.os, hg8.tape.trans k6.tape, hg8.output.trans k6.output, ?_, fun j hj hS => ?_⟩
    · have := hg8.size
      simp [World.setCell]
      omega
    · simp only [footC, List.mem_cons, not_or] at hS
      obtain ⟨s1, s2, s3, s4⟩ := hS
      rw [Below.heap_setCell _ _ _ _ (by simpa using s1)]
      rw [hg8.block j (by omega) (fun e => s4 (by rw [← e]; simp))]
      exact k6.block j hj (by simp; omega)
  · rcases hat with h0 | h0
    · exact .inl h0
    · exact .inr ⟨_, h0, z6⟩
end Go.Proofs.YtakgohocimlagaaGreat

namespace Go.Proofs.YtakgohocimlagaaGreat
open Go.RowKit
set_option linter.unusedVariables false
set_option linter.unusedSimpArgs false

/-- what is told behind a segment that was taken; whether the client's stream has ended -/
def toldC (g : Seg) : Bool := has g.fl 1 || decide (0 < g.data.length)
def endsC (st2 : BS) (g : Seg) : Bool := has g.fl 1 && decide (st2.next = addI g.sq g.data.length)

set_option maxRecDepth 100000 in
set_option maxHeartbeats 4000000 in
theorem client_take {w : World} {B x b mb : Nat} {s : ES} {st : BS} {tl : List UInt8} (h : Cli w B x b mb s st tl) (g : Seg) (og : g.Ok) (Ao Ad : Option Addr) (no co cd : Nat) (h2 : has g.fl 2 = false) (h4 : has g.fl 4 = false) (h16 : has g.fl 16 = true) (hk : g.ak = (s.iss + 1) % 4294967296) (ha : acceptI g.sq (lenI g) st.next (st.room - st.taken) = true) (hd : BytesV w (.slice Ad g.data.length cd) g.data) (hn : g.data.length ≤ 1048576) :
    Calls Tryz.prog 40 #[.pointer (some ⟨x, 0, none⟩), segV g (.slice Ao no co) (.slice Ad g.data.length cd)] w fun e w' => ∃ v s' mb', e = .returned v ∧ Cli w' B x b mb' s' (st.put g.sq g.data).take (tl ++ (st.put g.sq g.data).out) ∧ s' = { s with win := winI g.wn s.scl, tak := s'.tak, ended := s.ended || endsC (st.put g.sq g.data).take g } ∧ Told w.heap.size w' v (toldC g) (s'.ackC (st.put g.sq g.data).take) ∧ Keeps (footC x b mb s) w w' ∧ ∀ j ∈ footC x b mb' s', j ∈ footC x b mb s ∨ w.heap.size ≤ j := by
  have c16 := h.e.c16
  rw [h.inp] at c16
  have hlt := h.e.lt
  have hr : 0 ≤ st.room - st.taken ∧ st.room - st.taken ≤ 16384 := by have := h.okb.t0; have := h.okb.tr; have := h.okb.r; omega
  have hw : IntKind.u32.wrap (st.room - st.taken) = st.room - st.taken := by rw [IntKind.wrap_u32]; omega
  have H := Lib.hid h
  unfold has at h2 h4 h16
  have h16' : (bits BinOp.and IntKind.u8 g.fl 16 == 0) = false := by simpa [bne] using h16
  have hwi : IntKind.u32.wrap (s.iss + 1) = (s.iss + 1) % 4294967296 := IntKind.wrap_u32 _
  have hk' : (g.ak == (s.iss + 1) % 4294967296) = true := by simpa using hk
  have hk2 : (g.ak != (s.iss + 1) % 4294967296) = false := by simpa using hk
  have og' := og
  have hlw : IntKind.i64.wrap (lenI g) = lenI g := IntWalk.i64_in _ (by have := lenI_bd og; omega)
  have hac : ∀ W, Calls Tryz.prog 65 #[.int .u32 g.sq, .int .i64 (lenI g), .int .u32 st.next, .int .u32 (st.room - st.taken)] W fun e w' => e = .returned (.bool true) ∧ Keeps [] W w' := by
    intro W
    have := accept_any W g.sq (lenI g) st.next (st.room - st.taken) og.sq st.next_bd (lenI_bd og).1 (lenI_bd og).2
    rw [ha] at this
    exact this
  clear hk ha
  have HD := Lib.hid hd
  have HN := Lib.hid hn
  clear hd hn
  clear h
  unfold segV
  go_enter Tryz.func40, Tryz.ntmps40
  go_wp2_with fail
  refine wp_gn (fun W0 hW0 => ?_)
  have k0 : Keeps [] w W0 := by rw [hW0]; exact (Keeps.refl _ _).alloc' _
  have hx : W0.heap[w.heap.size]? = some (.cells #[.int .u16 g.sp, .int .u16 g.dp, .int .u32 g.sq, .int .u32 g.ak, .int .u8 g.fl, .int .u16 g.wn, .int .u16 g.ug, .slice Ao no co, .slice Ad g.data.length cd] 39 (0, 0)) := by rw [hW0]; exact (MapKept.heap_alloc w _).1
  have q16 := cell_keeps k0 c16 (by simp)
  have HB := Lib.hid (H.out.bf.keep k0 (by simp) (by simp))
  have K0 := Lib.hid k0
  have HX := Lib.hid hx
  clear hW0 hx k0 c16
  go_region_held3 (fun w' => w'.cell? ⟨x, 16, none⟩ = some (.pointer (some ⟨b, 0, none⟩))) (go_keep)
    (first
      | (go_at_call 36; refine (bnext_any (HB.out.keep (Keeps.drew [] _) (by simp) (by simp)) H.out.okb).mono ?_; rintro e w3 ⟨rfl, rfl⟩)
      | (go_at_call 35; refine (broom_any (HB.out.keep (Keeps.drew [] _) (by simp) (by simp)) H.out.okb).mono ?_; rintro e w3 ⟨rfl, nd, rfl⟩))
  go_upto_region 2 with fail
  refine wp_gn (fun W1 hW1 => ?_)
  have k1 : Keeps [] W0 W1 := by rw [hW1]; exact Keeps.drewN _ _ _
  have hx := (k1.block w.heap.size ((Array.getElem?_eq_some_iff.1 HX.out).1) (by simp)).trans HX.out
  have K1 := Lib.hid (K0.out.trans k1)
  have HX1 := Lib.hid hx
  have C1 := Lib.hid (H.out.keep0 K1.out)
  have hxc0 := cell_of_block hx 0
  have hxc1 := cell_of_block hx 1
  have hxc2 := cell_of_block hx 2
  have hxc3 := cell_of_block hx 3
  have hxc4 := cell_of_block hx 4
  have hxc5 := cell_of_block hx 5
  have hxc6 := cell_of_block hx 6
  have hxc7 := cell_of_block hx 7
  have hxc8 := cell_of_block hx 8
  simp at hxc0 hxc1 hxc2 hxc3 hxc4 hxc5 hxc6 hxc7 hxc8
  have hxf0 := free_of_block hx 0
  have hxf1 := free_of_block hx 1
  have hxf2 := free_of_block hx 2
  have hxf3 := free_of_block hx 3
  have hxf4 := free_of_block hx 4
  have hxf5 := free_of_block hx 5
  have hxf6 := free_of_block hx 6
  have hxf7 := free_of_block hx 7
  have hxf8 := free_of_block hx 8
  clear hx k1 hW1 HX HB K0 q16
  have c2 := C1.out.e.c2
  have HL := Lib.hid (fun W => length_any W g og' Ao Ad no co cd)
  have LN := lenI_bd og'
  have HAC := Lib.hid (fun W => hac W)
  clear hac
  unfold segV at HL
  go_upto_region 11 with fail
  go_region_held3 (fun w' => w'.cell? ⟨w.heap.size, 0, none⟩ = some (.int .u16 g.sp) ∧ w'.cell? ⟨w.heap.size, 1, none⟩ = some (.int .u16 g.dp) ∧ w'.cell? ⟨w.heap.size, 2, none⟩ = some (.int .u32 g.sq) ∧ w'.cell? ⟨w.heap.size, 3, none⟩ = some (.int .u32 g.ak) ∧ w'.cell? ⟨w.heap.size, 4, none⟩ = some (.int .u8 g.fl) ∧ w'.cell? ⟨w.heap.size, 5, none⟩ = some (.int .u16 g.wn) ∧ w'.cell? ⟨w.heap.size, 6, none⟩ = some (.int .u16 g.ug) ∧ w'.cell? ⟨w.heap.size, 7, none⟩ = some (.slice Ao no co) ∧ w'.cell? ⟨w.heap.size, 8, none⟩ = some (.slice Ad g.data.length cd) ∧ w'.cell? ⟨x, 2, none⟩ = some (.int .u32 s.iss)) ((refine (fun kx => ⟨cell_keeps kx hxc0 (by simp), cell_keeps kx hxc1 (by simp), cell_keeps kx hxc2 (by simp), cell_keeps kx hxc3 (by simp), cell_keeps kx hxc4 (by simp), cell_keeps kx hxc5 (by simp), cell_keeps kx hxc6 (by simp), cell_keeps kx hxc7 (by simp), cell_keeps kx hxc8 (by simp), cell_keeps kx c2 (by simp)⟩ : Keeps [] W1 _ → _) ?_; (repeat (first | with_reducible assumption | with_reducible exact Keeps.refl _ _ | with_reducible apply Keeps.alloc' | with_reducible apply Keeps.drew' | with_reducible apply Keeps.drewN' | (with_reducible apply Keeps.setCell'; rotate_left; · simp))))) (first | (go_at_call 66; with_reducible refine (HL.out _).mono ?_; rintro e w5 ⟨rfl, k5⟩; have kw5 : Keeps [] W1 w5 := Keeps.trans (by (repeat (first | with_reducible assumption | with_reducible exact Keeps.refl _ _ | with_reducible apply Keeps.alloc' | with_reducible apply Keeps.drew' | with_reducible apply Keeps.drewN' | (with_reducible apply Keeps.setCell'; rotate_left; · simp)))) k5; clear k5) | (go_at_call 65; with_reducible refine (HAC.out _).mono ?_; rintro e w6 ⟨rfl, k6⟩; have kw6 : Keeps [] W1 w6 := Keeps.trans (by (repeat (first | with_reducible assumption | with_reducible exact Keeps.refl _ _ | with_reducible apply Keeps.alloc' | with_reducible apply Keeps.drew' | with_reducible apply Keeps.drewN' | (with_reducible apply Keeps.setCell'; rotate_left; · simp)))) k6; clear k6))
  go_upto_region 13 with fail
  refine wp_gn (fun W2 hW2 => ?_)
  have k2 : Keeps [] W1 W2 := by rw [hW2]; first | exact Keeps.drewN _ _ _ | exact kw6.drewN' _ | exact kw6.drew' | exact kw6
  have C2 := Lib.hid (C1.out.keep0 k2)
  have HX2 := Lib.hid ((k2.block w.heap.size ((Array.getElem?_eq_some_iff.1 HX1.out).1) (by simp)).trans HX1.out)
  have K2 := Lib.hid (K1.out.trans k2)
  clear hW2 k2 C1 K1 HX1 hxc0 hxc1 hxc2 hxc3 hxc4 hxc5 hxc6 hxc7 hxc8 c2 kw5 kw6 HL HAC hlw
  have hx2 := HX2.out
  have hx2c0 := cell_of_block hx2 0
  have hx2c1 := cell_of_block hx2 1
  have hx2c2 := cell_of_block hx2 2
  have hx2c3 := cell_of_block hx2 3
  have hx2c4 := cell_of_block hx2 4
  have hx2c5 := cell_of_block hx2 5
  have hx2c6 := cell_of_block hx2 6
  have hx2c7 := cell_of_block hx2 7
  have hx2c8 := cell_of_block hx2 8
  simp at hx2c0 hx2c1 hx2c2 hx2c3 hx2c4 hx2c5 hx2c6 hx2c7 hx2c8
  have hx2f0 := free_of_block hx2 0
  have hx2f1 := free_of_block hx2 1
  have hx2f2 := free_of_block hx2 2
  have hx2f3 := free_of_block hx2 3
  have hx2f4 := free_of_block hx2 4
  have hx2f5 := free_of_block hx2 5
  have hx2f6 := free_of_block hx2 6
  have hx2f7 := free_of_block hx2 7
  have hx2f8 := free_of_block hx2 8
  clear hx2
  go_wp2_with fail
  refine (ewindow_any C2.out.e C2.out.ok.scl g (.slice Ao no co) (.slice Ad g.data.length cd) og'.wn).mono ?_
  rintro e w3 ⟨rfl, k3⟩
  have C3 := Lib.hid (C2.out.keep0 k3)
  have HX3 := Lib.hid ((k3.block w.heap.size ((Array.getElem?_eq_some_iff.1 HX2.out).1) (by simp)).trans HX2.out)
  have K3 := Lib.hid (K2.out.trans k3)
  have z14 := C3.out.e.fz 14
  have c14 := C3.out.e.c14
  clear k3 C2 K2 HX2 hx2c0 hx2c1 hx2c2 hx2c3 hx2c4 hx2c5 hx2c6 hx2c7 hx2c8 hx2f0 hx2f1 hx2f2 hx2f3 hx2f4 hx2f5 hx2f6 hx2f7 hx2f8 hxf0 hxf1 hxf2 hxf3 hxf4 hxf5 hxf6 hxf7 hxf8
  go_upto_region 14 with fail
  refine wp_gn (fun W4 hW4 => ?_)
  have k4 : Keeps [x] w3 W4 := by rw [hW4]; exact Keeps.setCell _ ⟨x, 14, none⟩ _
  have he4 : EndAt W4 x { s with win := winI g.wn s.scl } := by rw [hW4]; exact C3.out.e.s14 _
  have c4 := C3.out.upd k4 he4 ⟨rfl, rfl, rfl, rfl, rfl, rfl, rfl, rfl, rfl, rfl⟩ rfl
  have HD4 := Lib.hid ((HD.out.keep0 K3.out).keep k4 C3.out.no)
  have HX4 := Lib.hid ((k4.block w.heap.size ((Array.getElem?_eq_some_iff.1 HX3.out).1) (by simp; omega)).trans HX3.out)
  have K4 := Lib.hid ((K3.out.mono (T := [x]) (by simp)).trans k4)
  obtain ⟨s1, hs1⟩ : ∃ s1, s1 = { s with win := winI g.wn s.scl } := ⟨_, rfl⟩
  rw [← hs1] at c4
  have C4 := Lib.hid c4
  have HS1 := Lib.hid hs1
  have hz4 := K4.out.size
  clear k4 he4 c4 C3 HX3 K3 hW4 z14 c14 hs1
  have hx4 := HX4.out
  have hx4c2 := cell_of_block hx4 2
  have hx4c8 := cell_of_block hx4 8
  simp at hx4c2 hx4c8
  have hx4f2 := free_of_block hx4 2
  have hx4f8 := free_of_block hx4 8
  clear hx4
  have d16 := C4.out.e.c16
  rw [C4.out.inp] at d16
  have hxb : x ≠ b := C4.out.xb
  have hsb : w.heap.size ≠ b := by have := lt_of_block H.out.bf.head; omega
  go_region_held3 (fun w' => w'.cell? ⟨x, 16, none⟩ = some (.pointer (some ⟨b, 0, none⟩)) ∧ w'.cell? ⟨w.heap.size, 2, none⟩ = some (.int .u32 g.sq) ∧ w'.cell? ⟨w.heap.size, 8, none⟩ = some (.slice Ad g.data.length cd)) (first | go_keep | exact ⟨cell_keeps k5 d16 (by simpa using hxb), cell_keeps k5 hx4c2 (by simpa using hsb), cell_keeps k5 hx4c8 (by simpa using hsb)⟩)
    (first
      | (go_at_call 68; with_reducible refine (bput_do (C4.out.keep0 (Keeps.drew [] _)).bf H.out.okb g.sq og'.sq Ad g.data.length cd g.data (HD4.out.keep0 (Keeps.drew [] _)) HN.out).mono ?_; rintro e w5 ⟨z1, z2, rfl, k5, mb1, hb5, hm5⟩; have k5 := (Keeps.drew [b] W4).trans k5))
  go_upto_region 15 with fail
  refine wp_gn (fun W5 hW5 => ?_)
  have k5w : Keeps [] w5 W5 := by rw [hW5]; first | exact Keeps.refl _ _ | exact Keeps.drew _ _ | exact Keeps.drewN _ _ _
  have okb1 := BS.put_ok H.out.okb og'.sq g.data HN.out
  have C5 := Lib.hid ((C4.out.putB k5 hb5 okb1 (BS.put_taken _ _ _).1 hm5).keep0 k5w)
  have K5 := Lib.hid (((K4.out.mono (T := [x, b]) (by simp)).trans (k5.mono (T := [x, b]) (by simp))).trans (k5w.mono (by simp)))
  have HX5 := Lib.hid ((k5w.block _ (by have := k5.size; have := lt_of_block HX4.out; omega) (by simp)).trans ((k5.block w.heap.size (lt_of_block HX4.out) (by simpa using hsb)).trans HX4.out))
  have hm5' : mb1 = mb ∨ w.heap.size < mb1 := by
    rcases hm5 with h0 | h0
    · exact .inl h0
    · have := lt_of_block HX4.out
      have : W4.heap.size ≤ mb1 := h0
      exact .inr (by omega)
  obtain ⟨st1, hst1⟩ : ∃ st1, st.put g.sq g.data = st1 := ⟨_, rfl⟩
  rw [hst1] at C5 okb1
  have OK1 := Lib.hid okb1
  have HST := Lib.hid hst1
  obtain ⟨At, ct, htk⟩ := own_slice C5.out.own
  have f16 := C5.out.e.c16
  rw [C5.out.inp] at f16
  have f17 := C5.out.e.c17
  rw [htk] at f17
  have hB : B ≤ w.heap.size := by have := C5.out.zx; omega
  have hzb := lt_of_block C5.out.bf.head
  have hzm := C5.out.bf.map.lt
  have hxm := C5.out.xm
  have hz5 := K5.out.size
  clear k5 hb5 hm5 k5w hW5 C4 HX4 K4 HD4 hx4c2 hx4c8 hx4f2 hx4f8 d16 okb1 hst1 HD HN
  have hlen : tl.length + st1.out.length ≤ 1099511627776 := by
    have h0 : st1.out.length = st1.ready := bytesN_len _ _ _
    have := C5.out.len
    have := BS.ready_le OK1.out
    have := OK1.out.r
    have := OK1.out.tr
    omega
  have hown5 := Lib.hid C5.out.own
  rw [htk] at hown5
  have hne5 : ∀ j, (Value.slice At tl.length ct).ownBlock = some j → j ≠ x ∧ j ≠ b ∧ j ≠ mb1 := by rw [← htk]; exact C5.out.sep
  have HNE5 := Lib.hid hne5
  clear hne5
  go_cut [] (fun wx => ∃ v8, Cli wx B x b mb1 { s1 with tak := v8 } st1.take (tl ++ st1.out) ∧ Keeps (footC x b mb1 s1) W5 wx ∧ (v8.ownBlock = s1.tak.ownBlock ∨ ∃ j, v8.ownBlock = some j ∧ W5.heap.size ≤ j))
  case first =>
    go_region_law
      (first
        | (refine step_append_bytes (by rfl) _ _ B 37 5 (by rfl) Tryz.underlying37 Tryz.infoU8 _ tl.length tl (by rfl) hown6 _ st1.out (by rfl) hy9 hlen hB6 ?_; intro v8 w8 hown8 hg8 hat8; obtain ⟨A8, c8, rfl⟩ := own_slice hown8; have e8 := (C5.out.e.keep k6 (by simp; omega)).grown hg8 (fun e => (HNE5.out x e).1 rfl); have z8 := e8.fz 17; have c17 := e8.c17; rw [htk] at c17; have c16 := e8.c16; rw [C5.out.inp] at c16)
        | (go_simp; go_at_call 69; (with_reducible refine (btake_any (C5.out.keep0 (Keeps.drew [] _)).bf OK1.out).mono ?_); rintro e w6 ⟨y, rfl, hy, hb6, k6⟩; have k6 : Keeps [b, mb1] W5 w6 := (Keeps.drew [b, mb1] W5).trans k6; obtain ⟨A9, c9, rfl⟩ := own_slice hy; have hy9 := BytesV.of_own hy; have hown6 := own_keepsS hown5.out k6 (fun j hj => by have := HNE5.out j hj; simp; omega); have hB6 : B ≤ w6.heap.size := (by have := k6.size; omega); have g16 := cell_keeps k6 f16 (by simp; omega); have g17 := cell_keeps k6 f17 (by simp; omega)))
    all_goals
      go_wp2_with fail
      go_meet
      exact ⟨_, C5.out.took k6 hb6 hown8 (by rw [htk]; exact hg8) (by rw [htk]; exact hat8)⟩
  case rest => as_aux_lemma =>
    obtain ⟨v8, c9, k9, hv8⟩ := hcut
    have hst4 := C5.out.e.lt
    have hlw : w.heap.size < W5.heap.size := lt_of_block HX5.out
    have hns : w.heap.size ∉ footC x b mb1 s1 := by
      have h1 := H.out.e.lt
      have h2 := lt_of_block H.out.bf.head
      have h3 := H.out.bf.map.lt
      simp only [footC, List.mem_cons, not_or, Option.mem_toList]
      refine ⟨by omega, by omega, by omega, fun e => ?_⟩
      rw [HS1.out] at e
      have := (H.out.own.lt _ e).2
      omega
    have HX9 := Lib.hid ((k9.block _ hlw hns).trans HX5.out)
    have C9 := Lib.hid c9
    have K9 := Lib.hid (show Keeps (footC x b mb s) w wc from by
      have k := ((K5.out.mono (T := footC x b mb1 s1) (by simp [footC])).trans k9)
      refine ⟨k.os, k.tape, k.output, k.size, fun j hj hS => k.block j hj (fun hm => ?_)⟩
      simp only [footC, List.mem_cons, not_or] at hS hm
      obtain ⟨a1, a2, a3, a4⟩ := hS
      rcases hm with h0 | h0 | h0 | h0
      · exact a1 h0
      · exact a2 h0
      · rcases hm5' with h1 | h1
        · exact a3 (h0.trans h1)
        · omega
      · rw [HS1.out] at h0; exact a4 h0)
    obtain ⟨s2, hs2⟩ : ∃ s2, s2 = { s1 with tak := v8 } := ⟨_, rfl⟩
    rw [← hs2] at C9
    have HF := Lib.hid (show ∀ j ∈ footC x b mb1 s2, j ∈ footC x b mb s ∨ w.heap.size ≤ j from by
      intro j hj
      simp only [footC, List.mem_cons, Option.mem_toList] at hj ⊢
      rcases hj with h0 | h0 | h0 | h0
      · exact .inl (.inl h0)
      · exact .inl (.inr (.inl h0))
      · rcases hm5' with h1 | h1
        · exact .inl (.inr (.inr (.inl (h0.trans h1))))
        · exact .inr (by omega)
      · rw [hs2] at h0
        rcases hv8 with h1 | ⟨j2, h1, h2⟩
        · rw [h1, HS1.out] at h0
          exact .inl (.inr (.inr (.inr h0)))
        · rw [h1] at h0
          injection h0 with h0
          exact .inr (by omega))
    have HS2 := Lib.hid (show s2 = { s with win := winI g.wn s.scl, tak := s2.tak } from by rw [hs2, HS1.out])
    clear c9 k9 hv8 hs2 hns hm5' hown5 HNE5 hlen f16 f17 C5 K5 HX5 htk
    have hx9 := HX9.out
    have hx9c2 := cell_of_block hx9 2
    have hx9c4 := cell_of_block hx9 4
    have hx9c8 := cell_of_block hx9 8
    simp at hx9c2 hx9c4 hx9c8
    have hx9f2 := free_of_block hx9 2
    have hx9f4 := free_of_block hx9 4
    have hx9f8 := free_of_block hx9 8
    clear hx9
    obtain ⟨nx, hnx⟩ : ∃ nx, st1.take.next = nx := ⟨_, rfl⟩
    have HNX := Lib.hid hnx
    clear hnx
    have HNC := Lib.hid (fun n => (show Calls Tryz.prog 36 #[.pointer (some ⟨b, 0, none⟩)] (wc.drewN n) fun e w' => e = .returned (.int .u32 nx) ∧ wc.drewN n = w' from by rw [← HNX.out]; exact bnext_any (C9.out.keep0 (Keeps.drewN [] wc n)).bf C9.out.okb))
    have HAD := Lib.hid (fun n => add_any (wc.drewN n) g.sq g.data.length og'.sq)
    have c16 := C9.out.e.c16
    rw [C9.out.inp] at c16
    have hxw : w.heap.size ≠ x := by omega
    clear hlw hst4 hz4 hz5 hxm hzb hzm hB hxb hsb
    by_cases h1 : has g.fl 1 = true
    · have HTO := Lib.hid (show toldC g = true by unfold toldC; rw [h1]; rfl)
      by_cases he : nx = addI g.sq g.data.length
      · have HE := Lib.hid (show endsC st1.take g = true by unfold endsC; rw [h1, HNX.out, decide_eq_true he]; rfl)
        have he' : (nx == addI g.sq g.data.length) = true := by simpa using he
        unfold has at h1
        clear he
        go_upto_region 17 with fail
        go_quiet ((first | (go_at_call 36; exact quiet_same (HNC.out _)) | (go_at_call 60; exact quiet_same (HAD.out _))))
        have z18 := fun n => (C9.out.keep0 (Keeps.drewN [] wc n)).e.fz 18
        have c18 := fun n => (C9.out.keep0 (Keeps.drewN [] wc n)).e.c18
        go_upto_region 19 with fail
        refine wp_gn (fun W7 hW7 => ?_)
        have c7 : Cli W7 B x b mb1 { s2 with ended := true } st1.take (tl ++ st1.out) := by
          rw [hW7]
          exact (C9.out.keep0 (Keeps.drewN [] wc _)).upd (Keeps.setCell _ ⟨x, 18, none⟩ _) ((C9.out.keep0 (Keeps.drewN [] wc _)).e.s18 true) ⟨rfl, rfl, rfl, rfl, rfl, rfl, rfl, rfl, rfl, rfl⟩ rfl
        have k7 : Keeps [x] wc W7 := by rw [hW7]; exact (Keeps.drewN [x] wc _).trans (Keeps.setCell _ ⟨x, 18, none⟩ _)
        have hx7 := (k7.block w.heap.size (lt_of_block HX9.out) (by simp; omega)).trans HX9.out
        have K7 := Lib.hid (K9.out.trans (k7.mono (by simp [footC])))
        have C7 := Lib.hid c7
        clear hW7 k7 c7
        have hx7c4 := cell_of_block hx7 4
        have hx7c8 := cell_of_block hx7 8
        simp at hx7c4 hx7c8
        have hx7f4 := free_of_block hx7 4
        have hx7f8 := free_of_block hx7 8
        clear hx7
        go_wp2_with fail
        refine (eacksC_any C7.out.e C7.out.ok C7.out.st2 C7.out.inp C7.out.bf C7.out.okb _).mono ?_
        rintro e w10 ⟨v, rfl, ht, k10⟩
        have HT := Lib.hid (And.intro (ht.mono (Keeps.refl _ _) K7.out.size) k10)
        have hz7 := K7.out.size
        clear ht k10
        go_wp2_with fail
        go_ret
        refine ⟨v, { s2 with ended := true }, mb1, rfl, ?_, ?_, ?_, K7.out.trans (HT.out.2.mono (by simp)), ?_⟩
        · rw [HST.out]; exact C7.out.keep0 HT.out.2
        · rw [HST.out, HE.out, Bool.or_true]; have := HS2.out; rw [this]
        · rw [HST.out, HTO.out]; exact HT.out.1
        · exact HF.out
      · have HE := Lib.hid (show endsC st1.take g = false by unfold endsC; rw [h1, HNX.out, decide_eq_false he]; rfl)
        have he' : (nx == addI g.sq g.data.length) = false := by simpa using he
        unfold has at h1
        clear he
        go_upto_region 17 with fail
        go_quiet ((first | (go_at_call 36; exact quiet_same (HNC.out _)) | (go_at_call 60; exact quiet_same (HAD.out _))))
        go_upto_region 19 with fail
        refine wp_gn (fun W7 hW7 => ?_)
        have k7 : Keeps [x] wc W7 := by rw [hW7]; first | exact Keeps.refl _ _ | exact Keeps.drewN [x] wc _ | exact Keeps.drew [x] wc
        have k7' : Keeps [] wc W7 := by rw [hW7]; first | exact Keeps.refl _ _ | exact Keeps.drewN [] wc _ | exact Keeps.drew [] wc
        have c7 : Cli W7 B x b mb1 s2 st1.take (tl ++ st1.out) := C9.out.keep0 k7'
        have hx7 := (k7.block w.heap.size (lt_of_block HX9.out) (by simp; omega)).trans HX9.out
        have K7 := Lib.hid (K9.out.trans (k7.mono (by simp [footC])))
        have C7 := Lib.hid c7
        clear hW7 k7 c7
        have hx7c4 := cell_of_block hx7 4
        have hx7c8 := cell_of_block hx7 8
        simp at hx7c4 hx7c8
        have hx7f4 := free_of_block hx7 4
        have hx7f8 := free_of_block hx7 8
        clear hx7
        go_wp2_with fail
        refine (eacksC_any C7.out.e C7.out.ok C7.out.st2 C7.out.inp C7.out.bf C7.out.okb _).mono ?_
        rintro e w10 ⟨v, rfl, ht, k10⟩
        have HT := Lib.hid (And.intro (ht.mono (Keeps.refl _ _) K7.out.size) k10)
        have hz7 := K7.out.size
        clear ht k10
        go_wp2_with fail
        go_ret
        refine ⟨v, s2, mb1, rfl, ?_, ?_, ?_, K7.out.trans (HT.out.2.mono (by simp)), ?_⟩
        · rw [HST.out]; exact C7.out.keep0 HT.out.2
        · rw [HST.out, HE.out, Bool.or_false]; exact HS2.out
        · rw [HST.out, HTO.out]; exact HT.out.1
        · exact HF.out
    · have h1 : has g.fl 1 = false := by simpa using h1
      have HTO := Lib.hid (show toldC g = decide (0 < g.data.length) by unfold toldC; rw [h1]; rfl)
      have HE := Lib.hid (show endsC st1.take g = false by unfold endsC; rw [h1]; rfl)
      unfold has at h1
      go_upto_region 17 with fail
      go_quiet ((first | (go_at_call 36; exact quiet_same (HNC.out _)) | (go_at_call 60; exact quiet_same (HAD.out _))))
      go_upto_region 19 with fail
      refine wp_gn (fun W7 hW7 => ?_)
      have k7 : Keeps [x] wc W7 := by rw [hW7]; first | exact Keeps.refl _ _ | exact Keeps.drewN [x] wc _ | exact Keeps.drew [x] wc
      have k7' : Keeps [] wc W7 := by rw [hW7]; first | exact Keeps.refl _ _ | exact Keeps.drewN [] wc _ | exact Keeps.drew [] wc
      have c7 : Cli W7 B x b mb1 s2 st1.take (tl ++ st1.out) := C9.out.keep0 k7'
      have hx7 := (k7.block w.heap.size (lt_of_block HX9.out) (by simp; omega)).trans HX9.out
      have K7 := Lib.hid (K9.out.trans (k7.mono (by simp [footC])))
      have C7 := Lib.hid c7
      clear hW7 k7 c7
      have hx7c4 := cell_of_block hx7 4
      have hx7c8 := cell_of_block hx7 8
      simp at hx7c4 hx7c8
      have hx7f4 := free_of_block hx7 4
      have hx7f8 := free_of_block hx7 8
      clear hx7
      go_wp2_with fail
      refine (eacksC_any C7.out.e C7.out.ok C7.out.st2 C7.out.inp C7.out.bf C7.out.okb _).mono ?_
      rintro e w10 ⟨v, rfl, ht, k10⟩
      have HT := Lib.hid (And.intro (ht.mono (Keeps.refl _ _) K7.out.size) k10)
      have hz7 := K7.out.size
      clear ht k10
      go_wp2_with fail
      go_ret
      refine ⟨v, s2, mb1, rfl, ?_, ?_, ?_, K7.out.trans (HT.out.2.mono (by simp)), ?_⟩
      · rw [HST.out]; exact C7.out.keep0 HT.out.2
      · rw [HST.out, HE.out, Bool.or_false]; exact HS2.out
      · rw [HST.out, HTO.out]; exact HT.out.1
      · exact HF.out

end Go.Proofs.YtakgohocimlagaaGreat

namespace Go.Proofs.YtakgohocimlagaaGreat
open Go.RowKit
set_option linter.unusedVariables false
set_option linter.unusedSimpArgs false

/-! what a client's segment of sort k makes -/
def nSt (k : Nat) (st : BS) (g : Seg) : BS := if k = 3 then (st.put g.sq g.data).take else st
def nTl (k : Nat) (st : BS) (tl : List UInt8) (g : Seg) : List UInt8 := if k = 3 then tl ++ (st.put g.sq g.data).out else tl
def nTold (k : Nat) (g : Seg) : Bool := if k = 3 then toldC g else decide (k = 1)
def nEnd (k : Nat) (s : ES) (st : BS) (tak : Value) (g : Seg) : ES :=
  if k = 3 then { s with win := winI g.wn s.scl, tak := tak, ended := s.ended || endsC (st.put g.sq g.data).take g } else if k = 2 then { s with st := 3 } else s
/-- what is found behind a client's segment -/
def Behind (w w' : World) (B x b mb : Nat) (s : ES) (st : BS) (tl : List UInt8) (g : Seg) (k : Nat) (v : Value) : Prop :=
  ∃ s' mb', Cli w' B x b mb' s' (nSt k st g) (nTl k st tl g) ∧ s' = nEnd k s st s'.tak g ∧ Told w.heap.size w' v (nTold k g) (s'.ackC (nSt k st g)) ∧ Keeps (footC x b mb s) w w' ∧ ∀ j ∈ footC x b mb' s', j ∈ footC x b mb s ∨ w.heap.size ≤ j
theorem Behind.same {w w' : World} {B x b mb : Nat} {s : ES} {st : BS} {tl : List UInt8} (h : Cli w B x b mb s st tl) (g : Seg) (k : Nat) (hk : k = 0 ∨ k = 1) {v : Value} (ht : Told w.heap.size w' v (decide (k = 1)) (s.ackC st)) (hK : Keeps [] w w') : Behind w w' B x b mb s st tl g k v := by
  have h3 : k ≠ 3 := by omega
  have h2 : k ≠ 2 := by omega
  refine ⟨s, mb, ?_, ?_, ?_, hK.mono (by simp), fun j hj => .inl hj⟩
  · unfold nSt nTl; rw [if_neg h3, if_neg h3]; exact h.keep0 hK
  · unfold nEnd; rw [if_neg h3, if_neg h2]
  · unfold nTold nSt; rw [if_neg h3, if_neg h3]; exact ht

theorem client_any {w : World} {B x b mb : Nat} {s : ES} {st : BS} {tl : List UInt8} (h : Cli w B x b mb s st tl) (g : Seg) (og : g.Ok) (Ao Ad : Option Addr) (no co cd : Nat) (hd : BytesV w (.slice Ad g.data.length cd) g.data) (hn : g.data.length ≤ 1048576) :
    Calls Tryz.prog 40 #[.pointer (some ⟨x, 0, none⟩), segV g (.slice Ao no co) (.slice Ad g.data.length cd)] w fun e w' => ∃ v, e = .returned v ∧ Behind w w' B x b mb s st tl g (cliK s st g) v := by
  cases h2 : has g.fl 2
  · cases h4 : has g.fl 4
    · cases h16 : has g.fl 16
      · have hk : cliK s st g = 0 := by unfold cliK; rw [h2, h4, h16]; rfl
        rw [hk]
        exact (client_noack h g og Ao Ad no co cd h2 h4 h16).mono fun e w' ⟨he, k⟩ => ⟨_, he, Behind.same h g 0 (.inl rfl) (.inl ⟨rfl, rfl⟩) k⟩
      · by_cases ha : g.ak = (s.iss + 1) % 4294967296
        · cases hc : acceptI g.sq (lenI g) st.next (st.room - st.taken)
          · have hk : cliK s st g = 1 := by unfold cliK; rw [h2, h4, h16, hc]; simp
            rw [hk]
            exact (client_far h g og Ao Ad no co cd h2 h4 h16 ha hc).mono fun e w' ⟨v, he, ht, k⟩ => ⟨_, he, Behind.same h g 1 (.inr rfl) ht k⟩
          · have hk : cliK s st g = 3 := by unfold cliK; rw [h2, h4, h16, hc]; simp [ha]
            rw [hk]
            exact (client_take h g og Ao Ad no co cd h2 h4 h16 ha hc hd hn).mono fun e w' ⟨v, s', mb', he, hcl, hs, ht, k, hf⟩ => ⟨v, he, s', mb', hcl, hs, ht, k, hf⟩
        · have hk : cliK s st g = 1 := by unfold cliK; rw [h2, h4, h16]; simp [ha]
          rw [hk]
          exact (client_other h g og Ao Ad no co cd h2 h4 h16 ha).mono fun e w' ⟨v, he, ht, k⟩ => ⟨_, he, Behind.same h g 1 (.inr rfl) ht k⟩
    · by_cases hq : g.sq = st.next
      · have hk : cliK s st g = 2 := by unfold cliK; rw [h2, h4]; simp [hq]
        rw [hk]
        refine (client_reset h g og Ao Ad no co cd h2 h4 hq).mono fun e w' ⟨he, hx, k⟩ => ⟨_, he, { s with st := 3 }, mb, ?_, rfl, .inl ⟨rfl, rfl⟩, k.mono (by simp [footC]), fun j hj => .inl hj⟩
        have h1 := h.xb
        have h2 := h.xm
        refine ⟨hx, ES.Same.ok (s := { s with st := 3 }) ⟨rfl, rfl, rfl, rfl, rfl, rfl, rfl, rfl, rfl, rfl⟩ ⟨h.ok.loc, h.ok.rem, h.ok.iss, h.ok.sscl, h.ok.sscl', h.ok.scl, h.ok.irs⟩, by simp, h.inp, h.out, h.wri, h.bf.keep k (by simp; omega) (by simp; omega), h.okb, own_keepsS h.own k (fun j hj => by have := h.sep j hj; simp; omega), h.sep, h.xb, h.xm, h.zx, h.zb, h.zm, h.len⟩
      · have hq' : (g.sq == st.next) = false := by simpa using hq
        cases hw : withinI g.sq st.next (st.room - st.taken)
        · have hk : cliK s st g = 0 := by unfold cliK; rw [h2, h4, hw]; simp [hq]
          rw [hk]
          refine (client_rst h g og Ao Ad no co cd h2 h4 hq').mono fun e w' ⟨v, he, ht, k⟩ => ⟨_, he, Behind.same h g 0 (.inl rfl) ?_ k⟩
          rw [hw] at ht
          exact ht
        · have hk : cliK s st g = 1 := by unfold cliK; rw [h2, h4, hw]; simp [hq]
          rw [hk]
          refine (client_rst h g og Ao Ad no co cd h2 h4 hq').mono fun e w' ⟨v, he, ht, k⟩ => ⟨_, he, Behind.same h g 1 (.inr rfl) ?_ k⟩
          rw [hw] at ht
          exact ht
  · have hk : cliK s st g = 1 := by unfold cliK; rw [h2]; rfl
    rw [hk]
    exact (client_syn h g og Ao Ad no co cd h2).mono fun e w' ⟨v, he, ht, k⟩ => ⟨_, he, Behind.same h g 1 (.inr rfl) ht k⟩

theorem Behind.ahead {w W w' : World} {B x b mb : Nat} {s : ES} {st : BS} {tl : List UInt8} {g : Seg} {k : Nat} {v : Value} (h : Behind W w' B x b mb s st tl g k v) (hk : Keeps [] w W) : Behind w w' B x b mb s st tl g k v := by
  obtain ⟨s', mb', h1, h2, h3, h4, h5⟩ := h
  exact ⟨s', mb', h1, h2, h3.mono (Keeps.refl _ _) hk.size, (hk.mono (by simp)).trans h4, fun j hj => (h5 j hj).imp id (fun h => Nat.le_trans hk.size h)⟩

set_option maxRecDepth 100000 in
set_option maxHeartbeats 2000000 in
theorem etake_cli {w : World} {B x b mb : Nat} {s : ES} {st : BS} {tl : List UInt8} (h : Cli w B x b mb s st tl) (hst : s.st = 2) (g : Seg) (og : g.Ok) (Ao Ad : Option Addr) (no co cd : Nat) (hd : BytesV w (.slice Ad g.data.length cd) g.data) (hn : g.data.length ≤ 1048576) (now : Int) :
    Calls Tryz.prog 12 #[.pointer (some ⟨x, 0, none⟩), segV g (.slice Ao no co) (.slice Ad g.data.length cd), .int .u64 now] w fun e w' => ∃ v, e = .returned (.tuple #[v, .int .i64 0]) ∧ Behind w w' B x b mb s st tl g (cliK s st g) v := by
  have hlt := h.e.lt
  have HC := Lib.hid (fun (W : World) (k : Keeps [] w W) => client_any (h.keep0 k) g og Ao Ad no co cd (hd.keep0 k) hn)
  have HE := Lib.hid (fun (W : World) (k : Keeps [] w W) => h.e.keep0 k)
  have hi := h.inp
  clear h hd
  unfold segV at HC ⊢
  go_enter Tryz.func12, Tryz.ntmps12
  go_wp2_with fail
  refine (enone_no (HE.out _ (Keeps.alloc _ _ _)) (by omega)).mono ?_
  rintro e w1 ⟨rfl, rfl⟩
  go_wp2_with fail
  refine (eover_no (HE.out _ (Keeps.alloc _ _ _)) (by omega) (by omega)).mono ?_
  rintro e w1 ⟨rfl, rfl⟩
  go_upto_region 5 with fail
  refine wp_gn (fun W1 hW1 => ?_)
  have k1 : Keeps [] w W1 := by rw [hW1]; exact Keeps.alloc _ _ _
  have hx : W1.heap[w.heap.size]? = some (.cells #[.int .u16 g.sp, .int .u16 g.dp, .int .u32 g.sq, .int .u32 g.ak, .int .u8 g.fl, .int .u16 g.wn, .int .u16 g.ug, .slice Ao no co, .slice Ad g.data.length cd] 39 (0, 0)) := by rw [hW1]; exact (MapKept.heap_alloc w _).1
  have c16 := (HE.out W1 k1).c16
  rw [hi] at c16
  have hxc0 := cell_of_block hx 0
  have hxc1 := cell_of_block hx 1
  have hxc2 := cell_of_block hx 2
  have hxc3 := cell_of_block hx 3
  have hxc4 := cell_of_block hx 4
  have hxc5 := cell_of_block hx 5
  have hxc6 := cell_of_block hx 6
  have hxc7 := cell_of_block hx 7
  have hxc8 := cell_of_block hx 8
  simp at hxc0 hxc1 hxc2 hxc3 hxc4 hxc5 hxc6 hxc7 hxc8
  have hxf0 := free_of_block hx 0
  have hxf1 := free_of_block hx 1
  have hxf2 := free_of_block hx 2
  have hxf3 := free_of_block hx 3
  have hxf4 := free_of_block hx 4
  have hxf5 := free_of_block hx 5
  have hxf6 := free_of_block hx 6
  have hxf7 := free_of_block hx 7
  have hxf8 := free_of_block hx 8
  have K1 := Lib.hid k1
  clear hx k1 hW1
  go_wp2_with fail
  refine (HC.out W1 K1.out).mono ?_
  rintro e w2 ⟨v, rfl, hb⟩
  have HB := Lib.hid (hb.ahead K1.out)
  clear hb
  go_wp2_with fail
  go_ret2
  exact ⟨_, rfl, HB.out⟩
set_option maxRecDepth 100000 in
set_option maxHeartbeats 2000000 in
theorem etake_3 {w : World} {x : Nat} {s : ES} (h : EndAt w x s) (hst : s.st = 3) (g : Seg) (ov dv : Value) (now : Int) :
    Calls Tryz.prog 12 #[.pointer (some ⟨x, 0, none⟩), segV g ov dv, .int .u64 now] w fun e w' => e = .returned (.tuple #[.slice none 0 0, .int .i64 0]) ∧ Keeps [] w w' := by
  have H := Lib.hid h
  clear h
  unfold segV
  go_enter Tryz.func12, Tryz.ntmps12
  go_wp2_with fail
  refine (enone_no (H.out.keep0 (Keeps.alloc _ _ _)) (by omega)).mono ?_
  rintro e w1 ⟨rfl, rfl⟩
  go_wp2_with fail
  refine (eover_3 (H.out.keep0 (Keeps.alloc _ _ _)) hst).mono ?_
  rintro e w1 ⟨rfl, rfl⟩
  go_wp2_with fail
  go_ret2
  exact ⟨rfl, Keeps.alloc _ _ _⟩
end Go.Proofs.YtakgohocimlagaaGreat

namespace Go.Proofs.YtakgohocimlagaaGreat
open Go.RowKit
set_option linter.unusedVariables false
set_option linter.unusedSimpArgs false

theorem two_allocs (w : World) (o1 o2 : Obj) : ((w.alloc o1).alloc o2).heap[w.heap.size]? = some o1 ∧ ((w.alloc o1).alloc o2).heap[w.heap.size + 1]? = some o2 := by
  have h := (MapKept.heap_alloc (w.alloc o1) o2).1
  have e : (w.alloc o1).heap.size = w.heap.size + 1 := by simp
  rw [e] at h
  exact ⟨(Below.heap_alloc (w.alloc o1) o2 w.heap.size (by simp)).trans (MapKept.heap_alloc w o1).1, h⟩
/-- a setup's value -/
def setupV (loc rem iss mss scl : Int) (sack : Bool) (room rto tries : Int) : Value := .agg #[.int .u16 loc, .int .u16 rem, .int .u32 iss, .int .u16 mss, .int .i64 scl, .bool sack, .int .i64 room, .int .u64 rto, .int .i64 tries]
def factsV (iss irs mss scl : Int) (sack : Bool) (win : Int) : Value := .agg #[.int .u32 iss, .int .u32 irs, .int .u16 mss, .int .i64 scl, .bool sack, .int .u32 win]

set_option maxRecDepth 100000 in
set_option maxHeartbeats 2000000 in
theorem emay_ok (w : World) (loc rem iss mss scl : Int) (sack : Bool) (room rto tries : Int) (h1 : 88 ≤ mss) (h2 : mss ≤ 1460) (h3 : -1 ≤ scl) (h4 : scl ≤ 14) (h5 : 0 ≤ room) (h6 : room ≤ 16384) (h7 : 1 ≤ rto) (h8 : rto ≤ 1073741824) (h9 : 1 ≤ tries) (h10 : tries ≤ 10) :
    Calls Tryz.prog 28 #[setupV loc rem iss mss scl sack room rto tries] w fun e w' => e = .returned (.bool true) ∧ Keeps [] w w' := by
  have d1 : decide (88 ≤ mss) = true := decide_eq_true h1
  have d2 : decide (mss ≤ 1460) = true := decide_eq_true h2
  have d3 : decide (-1 ≤ scl) = true := decide_eq_true h3
  have d4 : decide (scl ≤ 14) = true := decide_eq_true h4
  have d5 : decide (0 ≤ room) = true := decide_eq_true h5
  have d6 : decide (room ≤ 16384) = true := decide_eq_true h6
  have d7 : decide (1 ≤ rto) = true := decide_eq_true h7
  have d8 : decide (rto ≤ 1073741824) = true := decide_eq_true h8
  have d9 : decide (1 ≤ tries) = true := decide_eq_true h9
  have d10 : decide (tries ≤ 10) = true := decide_eq_true h10
  unfold setupV
  go_enter Tryz.func28, Tryz.ntmps28
  go_wp2_with fail
  go_ret
  exact ⟨rfl, Keeps.alloc _ _ _⟩

/-- the end that Accept makes -/
def acceptS (loc rem iss mss scl : Int) (sack : Bool) (room rto tries : Int) (irs fmss fscl fwin : Int) (b : Nat) : ES :=
  ⟨loc, rem, iss, mss, scl, sack, room, rto, tries, iss, irs, fmss, fscl, false, fwin, 2, .pointer (some ⟨b, 0, none⟩), .slice none 0 0, false, .pointer none, .slice none 0 0, 0, 0, 0⟩
set_option maxRecDepth 100000 in
set_option maxHeartbeats 4000000 in
theorem eaccept_ok (w : World) (loc rem iss mss scl : Int) (sack : Bool) (room rto tries : Int) (l0 : 0 ≤ loc ∧ loc ≤ 65535) (l1 : 0 ≤ rem ∧ rem ≤ 65535) (hu : U32 iss) (h1 : 88 ≤ mss) (h2 : mss ≤ 1460) (h3 : 0 ≤ scl) (h4 : scl ≤ 14) (h5 : 0 ≤ room) (h6 : room ≤ 16384) (h7 : 1 ≤ rto) (h8 : rto ≤ 1073741824) (h9 : 1 ≤ tries) (h10 : tries ≤ 10)
    (fiss irs fmss fscl fwin : Int) (hi : U32 irs) (f1 : -1 ≤ fscl) (f2 : fscl ≤ 14) :
    Calls Tryz.prog 8 #[setupV loc rem iss mss scl sack room rto tries, factsV fiss irs fmss fscl false fwin] w fun e w' => ∃ x b mb, e = .returned (.tuple #[.pointer (some ⟨x, 0, none⟩), .int .i64 0]) ∧
      Cli w' w.heap.size x b mb (acceptS loc rem iss mss scl sack room rto tries irs fmss fscl fwin b) ⟨(irs + 1) % 4294967296, 0, room, []⟩ [] ∧ Keeps [] w w' := by
  have HM := Lib.hid (fun W => emay_ok W loc rem iss mss scl sack room rto tries h1 h2 (by omega) h4 h5 h6 h7 h8 h9 h10)
  have d1 : decide (fscl < -1) = false := decide_eq_false (by omega)
  have d2 : decide (14 < fscl) = false := decide_eq_false (by omega)
  have d3 : decide (scl < 0) = false := decide_eq_false (by omega)
  have hw : IntKind.u32.wrap (irs + 1) = (irs + 1) % 4294967296 := IntKind.wrap_u32 _
  unfold setupV at HM ⊢
  unfold factsV
  go_enter Tryz.func8, Tryz.ntmps8
  go_wp2_with fail
  refine (HM.out _).mono ?_
  rintro e w1 ⟨rfl, k1⟩
  have hS := (k1.block w.heap.size (by simp; omega) (by simp)).trans (two_allocs w _ _).1
  have hF := (k1.block (w.heap.size + 1) (by simp) (by simp)).trans (two_allocs w _ _).2
  have k0 : Keeps [] w w1 := ((Keeps.alloc [] w _).trans (Keeps.alloc [] _ _)).trans k1
  have K1 := Lib.hid k0
  have HS := Lib.hid hS
  have HF := Lib.hid hF
  clear k1 k0 HM
  have hSc0 := cell_of_block hS 0
  have hSc1 := cell_of_block hS 1
  have hSc2 := cell_of_block hS 2
  have hSc3 := cell_of_block hS 3
  have hSc4 := cell_of_block hS 4
  have hSc5 := cell_of_block hS 5
  have hSc6 := cell_of_block hS 6
  have hSc7 := cell_of_block hS 7
  have hSc8 := cell_of_block hS 8
  simp at hSc0 hSc1 hSc2 hSc3 hSc4 hSc5 hSc6 hSc7 hSc8
  have hSf0 := free_of_block hS 0
  have hSf1 := free_of_block hS 1
  have hSf2 := free_of_block hS 2
  have hSf3 := free_of_block hS 3
  have hSf4 := free_of_block hS 4
  have hSf5 := free_of_block hS 5
  have hSf6 := free_of_block hS 6
  have hSf7 := free_of_block hS 7
  have hSf8 := free_of_block hS 8
  have hFc0 := cell_of_block hF 0
  have hFc1 := cell_of_block hF 1
  have hFc2 := cell_of_block hF 2
  have hFc3 := cell_of_block hF 3
  have hFc4 := cell_of_block hF 4
  have hFc5 := cell_of_block hF 5
  simp at hFc0 hFc1 hFc2 hFc3 hFc4 hFc5
  have hFf0 := free_of_block hF 0
  have hFf1 := free_of_block hF 1
  have hFf2 := free_of_block hF 2
  have hFf3 := free_of_block hF 3
  have hFf4 := free_of_block hF 4
  have hFf5 := free_of_block hF 5
  clear hS hF
  go_upto_region 3 with fail
  go_region
  go_upto_region 4 with fail
  refine wp_gn (fun W3 hW3 => ?_)
  have hF3 : W3.heap[w.heap.size + 1]? = some (.cells #[.int .u32 iss, .int .u32 irs, .int .u16 fmss, .int .i64 fscl, .bool false, .int .u32 fwin] 34 (0, 0)) := by rw [hW3]; exact heap_setCell_self (heap_setCell_self HF.out 0 _) 4 _
  have k3 : Keeps [w.heap.size + 1] w1 W3 := by rw [hW3]; exact (((Keeps.refl _ _).setCell' (Or.inr (by simp)) _).setCell' (Or.inr (by simp)) _).drew'
  have hS3 := (k3.block w.heap.size (lt_of_block HS.out) (by simp)).trans HS.out
  have K3 := Lib.hid (((K1.out.mono (T := [w.heap.size + 1]) (by simp)).trans k3).fresh (T := []) (by intro x hx hlt; simp at hx; omega))
  have HS3 := Lib.hid hS3
  have HF3 := Lib.hid hF3
  clear hW3 k3 hSc0 hSc1 hSc2 hSc3 hSc4 hSc5 hSc6 hSc7 hSc8 hSf0 hSf1 hSf2 hSf3 hSf4 hSf5 hSf6 hSf7 hSf8 hFc0 hFc1 hFc2 hFc3 hFc4 hFc5 hFf0 hFf1 hFf2 hFf3 hFf4 hFf5
  have hS3c0 := cell_of_block hS3 0
  have hS3c1 := cell_of_block hS3 1
  have hS3c2 := cell_of_block hS3 2
  have hS3c3 := cell_of_block hS3 3
  have hS3c4 := cell_of_block hS3 4
  have hS3c5 := cell_of_block hS3 5
  have hS3c6 := cell_of_block hS3 6
  have hS3c7 := cell_of_block hS3 7
  have hS3c8 := cell_of_block hS3 8
  simp at hS3c0 hS3c1 hS3c2 hS3c3 hS3c4 hS3c5 hS3c6 hS3c7 hS3c8
  have hF3c0 := cell_of_block hF3 0
  have hF3c1 := cell_of_block hF3 1
  have hF3c2 := cell_of_block hF3 2
  have hF3c3 := cell_of_block hF3 3
  have hF3c4 := cell_of_block hF3 4
  have hF3c5 := cell_of_block hF3 5
  simp at hF3c0 hF3c1 hF3c2 hF3c3 hF3c4 hF3c5
  clear hS3 hF3
  go_wp2_with fail
  refine (bnew_ok W3 ((irs + 1) % 4294967296) room h5 h6).mono ?_
  rintro e w4 ⟨b, mb, rfl, hb, k4, hbs, hms⟩
  have hS4 := (k4.block w.heap.size (lt_of_block HS3.out) (by simp)).trans HS3.out
  have hF4 := (k4.block (w.heap.size + 1) (lt_of_block HF3.out) (by simp)).trans HF3.out
  have HB := Lib.hid hb
  have K4 := Lib.hid (K3.out.trans k4)
  have hz3 := K3.out.size
  have hz4 := K4.out.size
  have hne := hb.ne
  have hlb := lt_of_block hb.head
  have hlm := hb.map.lt
  clear k4 hb hS3c0 hS3c1 hS3c2 hS3c3 hS3c4 hS3c5 hS3c6 hS3c7 hS3c8 hF3c0 hF3c1 hF3c2 hF3c3 hF3c4 hF3c5
  have hS4c0 := cell_of_block hS4 0
  have hS4c1 := cell_of_block hS4 1
  have hS4c2 := cell_of_block hS4 2
  have hS4c3 := cell_of_block hS4 3
  have hS4c4 := cell_of_block hS4 4
  have hS4c5 := cell_of_block hS4 5
  have hS4c6 := cell_of_block hS4 6
  have hS4c7 := cell_of_block hS4 7
  have hS4c8 := cell_of_block hS4 8
  simp at hS4c0 hS4c1 hS4c2 hS4c3 hS4c4 hS4c5 hS4c6 hS4c7 hS4c8
  have hF4c0 := cell_of_block hF4 0
  have hF4c1 := cell_of_block hF4 1
  have hF4c2 := cell_of_block hF4 2
  have hF4c3 := cell_of_block hF4 3
  have hF4c4 := cell_of_block hF4 4
  have hF4c5 := cell_of_block hF4 5
  simp at hF4c0 hF4c1 hF4c2 hF4c3 hF4c4 hF4c5
  clear hS4 hF4
  go_wp2_with fail
  go_ret2
  refine ⟨w4.heap.size, b, mb, rfl, ⟨(MapKept.heap_alloc w4 _).1, ?_, by simp [acceptS], rfl, rfl, rfl, HB.out.keep (Keeps.alloc [] w4 _) (by simp) (by simp), ?_, World.ownsRow_nil _ _ _ _, fun j hj => by simp [acceptS, Value.ownBlock] at hj, by omega, by omega, hz4, by omega, by omega, rfl⟩, K4.out.alloc' _⟩
  · exact ⟨l0, l1, hu, fun _ => h3, h4, ⟨f1, f2⟩, hi⟩
  · exact ⟨⟨by show 0 ≤ (irs + 1) % 4294967296; omega, by show (irs + 1) % 4294967296 ≤ 4294967295; omega⟩, Int.le_refl _, h5, h6, by simp [AL.keys], by simp [AL.keys]⟩
end Go.Proofs.YtakgohocimlagaaGreat

