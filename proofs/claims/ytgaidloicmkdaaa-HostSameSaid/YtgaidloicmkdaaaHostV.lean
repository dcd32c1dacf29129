/-
  The walks of package host: its SYN, Dial, what a SYN says, the answer at SynSent: for a setup that offers neither scaling nor SACK. Condition: a host's numbers are in the ranges of their kinds.
-/
import Derived.Test.YtgaidloicmkdaaaHostR
namespace Go.Proofs.Ytgaidloicmkdaaa
open Go.RowKit
set_option linter.unusedVariables false
set_option linter.unusedSimpArgs false
attribute [local go_sem ↓] Go.wp_at_zero Go.wp_at_succ

def HS.syn (s : HS) : Seg := ⟨s.lp, s.rem, s.iss, 0, 2, min s.room 65535, 0, [(2, put16 s.smss)], []⟩

theorem heap_alloc_at {w : World} {n : Nat} (o : Obj) (h : w.heap.size = n) : (w.alloc o).heap[n]? = some o := by subst h; exact (MapKept.heap_alloc w o).1
theorem nine_far {w : World} {g k : Nat} {o : Obj} (h : w.heap[k]? = some o) (hne : k ≠ g) (v0 v1 v2 v3 v4 v5 v6 v7 v8 : Value) : (((((((((w.setCell ⟨g, 0, none⟩ v0).setCell ⟨g, 1, none⟩ v1).setCell ⟨g, 2, none⟩ v2).setCell ⟨g, 3, none⟩ v3).setCell ⟨g, 4, none⟩ v4).setCell ⟨g, 5, none⟩ v5).setCell ⟨g, 6, none⟩ v6).setCell ⟨g, 7, none⟩ v7).setCell ⟨g, 8, none⟩ v8).heap[k]? = some o :=
  (Below.heap_setCell _ ⟨g, 8, none⟩ v8 k hne).trans ((Below.heap_setCell _ ⟨g, 7, none⟩ v7 k hne).trans ((Below.heap_setCell _ ⟨g, 6, none⟩ v6 k hne).trans ((Below.heap_setCell _ ⟨g, 5, none⟩ v5 k hne).trans ((Below.heap_setCell _ ⟨g, 4, none⟩ v4 k hne).trans ((Below.heap_setCell _ ⟨g, 3, none⟩ v3 k hne).trans ((Below.heap_setCell _ ⟨g, 2, none⟩ v2 k hne).trans ((Below.heap_setCell _ ⟨g, 1, none⟩ v1 k hne).trans ((Below.heap_setCell _ ⟨g, 0, none⟩ v0 k hne).trans (h)))))))))
theorem OptsV.one {w : World} {g : Nat} {t : TypeId} {k : UInt8} {A : Option Addr} {c : Nat} {l : List UInt8} {z : Nat × Nat} (h : w.heap[g]? = some (.cells #[.int .u8 k.toNat, .slice A l.length c] t z)) (hb : BytesV w (.slice A l.length c) l) : OptsV w (.slice (some ⟨g, 0, none⟩) 1 1) [(k, l)] := by
  refine ⟨_, 1, rfl, Nat.le_refl _, by simp [maxLen], fun _ => ⟨g, 0, rfl, fun i x hx => ?_⟩⟩
  match i, hx with
  | 0, hx =>
    cases hx
    exact ⟨A, c, by simp [World.cell?, h, u8V], by simp [World.cell?, h], hb⟩

set_option maxHeartbeats 400000 in
theorem withMss_own (w : World) (n : Int) (n0 : 0 ≤ n) (n1 : n ≤ 65535) :
    Calls Try.prog 30 #[.int .u16 n] w fun e w' => ∃ A c, e = .returned (.agg #[.int .u8 2, .slice A 2 c]) ∧ w'.ownsRow w.heap.size 5 1 (.slice A 2 c) 2 ((put16 n).map u8V) ∧ Keeps [] w w' := by
  go_enter Try.func30, Try.ntmps30
  go_wp2_with fail
  refine (wu16_own _ none 0 0 [] n (BytesV.nil _) (by omega) n0 n1).mono ?_
  rintro e w1 ⟨v, rfl, ho, hk⟩
  obtain ⟨A, c, rfl⟩ := own_slice ho
  have HO := Lib.hid ho
  have HK := Lib.hid hk
  have hx := (HK.out.block w.heap.size (by simp) (by simp)).trans (MapKept.heap_alloc w _).1
  clear ho hk
  have z0 := free_of_block hx 0
  have z1 := free_of_block hx 1
  have c0 := cell_of_block hx 0
  have c1 := cell_of_block hx 1
  simp at c0 c1
  clear hx
  go_wp2_with fail
  refine bodyPost_ret (v := .agg #[.int .u8 2, .slice A 2 c]) (by simp [results, Try.results30, go_sem, c0, c1]) rfl ⟨A, c, rfl, ?_, ?_⟩
  · exact own_less (by simp) (own_setCell (own_setCell HO.out _ _ (by simp)) _ _ (by simp))
  · exact (((Keeps.alloc [] w _).trans HK.out).setCell' (Or.inl (by simp)) _).setCell' (Or.inl (by simp)) _

set_option maxRecDepth 100000 in
set_option maxHeartbeats 2000000 in
theorem hsyn_plain {w : World} {b : Nat} {s : HS} (h : HostAt w b s) (ok : s.Ok) (hsc : s.sscale < 0) (hsk : s.ssack = false) :
    Calls Try.prog 29 #[.pointer (some ⟨b, 0, none⟩), .int .u8 2] w fun e w' => ∃ A c, e = .returned (segV s.syn (.slice A 1 c) (.slice none 0 0)) ∧ OptsV w' (.slice A 1 c) s.syn.ops ∧ Keeps [] w w' := by
  have H := Lib.hid h
  obtain ⟨m0, m1⟩ := ok.smss
  have r := ok.room
  have HM := Lib.hid (fun W => withMss_own W s.smss (by omega) (by omega))
  have ha16 : bits .and .u8 2 16 = 0 := by decide
  have c3 := h.c3
  have c4 := h.c4
  rw [hsk] at c4
  have C3 := Lib.hid c3
  have C4 := Lib.hid c4
  have F := Lib.hid (show s.syn = ⟨s.lp, s.rem, s.iss, 0, 2, min s.room 65535, 0, [(2, put16 s.smss)], []⟩ from rfl)
  clear h ok hsk c3 c4
  go_enter Try.func29, Try.ntmps29
  go_wp2_with fail
  refine (hbare_any (H.out.keep0 (Keeps.alloc _ _ _))).mono ?_
  rintro e w1 ⟨rfl, k1⟩
  unfold HS.bare segV
  have hz := (k1.block w.heap.size (by simp) (by simp)).trans (MapKept.heap_alloc w _).1
  have K1 := Lib.hid ((Keeps.alloc [] w _).trans k1)
  have H1 := Lib.hid (H.out.keep0 K1.out)
  have HZ := Lib.hid hz
  have d1 := H1.out.c1
  have d2 := H1.out.c2
  have d5 := H1.out.c5
  have q1 := fun o => keeps_cell0 (o := o) d1
  have q2 := fun o => keeps_cell0 (o := o) d2
  have q5 := fun o => keeps_cell0 (o := o) d5
  clear k1 hz
  rcases Int.lt_or_le 65535 s.room with hr | hr
  · have FW := Lib.hid (show min s.room 65535 = 65535 by omega)
    go_wp2_with fail
    refine (HM.out _).mono ?_
    rintro e w2 ⟨A, c, rfl, o2, k2⟩
    have hx2 := (k2.block w1.heap.size (by simp) (by simp)).trans (MapKept.heap_alloc w1 _).1
    have k12 : Keeps [] w1 w2 := (Keeps.alloc [] w1 _).trans k2
    have HX2 := Lib.hid hx2
    have K12 := Lib.hid k12
    have O2 := Lib.hid o2
    have hlt := (Array.getElem?_eq_some_iff.1 hx2).1
    clear k2 o2 d1 d2 d5 q1 q2 q5
    have hx2c0 := cell_of_block hx2 0
    have hx2c1 := cell_of_block hx2 1
    have hx2c2 := cell_of_block hx2 2
    have hx2c3 := cell_of_block hx2 3
    have hx2c4 := cell_of_block hx2 4
    have hx2c5 := cell_of_block hx2 5
    have hx2c6 := cell_of_block hx2 6
    have hx2c7 := cell_of_block hx2 7
    have hx2c8 := cell_of_block hx2 8
    simp at hx2c0 hx2c1 hx2c2 hx2c3 hx2c4 hx2c5 hx2c6 hx2c7 hx2c8
    have hx2f0 := free_of_block hx2 0
    have hx2f1 := free_of_block hx2 1
    have hx2f2 := free_of_block hx2 2
    have hx2f3 := free_of_block hx2 3
    have hx2f4 := free_of_block hx2 4
    have hx2f5 := free_of_block hx2 5
    have hx2f6 := free_of_block hx2 6
    have hx2f7 := free_of_block hx2 7
    have hx2f8 := free_of_block hx2 8
    clear hx2 k12
    go_upto_region 8 with fail
    refine wp_gn (fun W hW => ?_)
    have hx : W.heap[w1.heap.size]? = some (.cells #[.int .u16 s.lp, .int .u16 s.rem, .int .u32 s.iss, .int .u32 0, .int .u8 2, .int .u16 (65535), .int .u16 0, .slice (some ⟨w2.heap.size, 0, none⟩) 1 1, .slice none 0 0] 30 (0, 0)) := by
      rw [hW, Below.heap_alloc _ _ _ (by simpa using hlt)]; exact heap_setCell_self HX2.out 7 _
    have ho : W.heap[w2.heap.size]? = some (.cells #[.int .u8 2, .slice A 2 c] 46 (0, 0)) := by
      rw [hW]; exact heap_alloc_at _ (by simp [World.setCell])
    have kW : Keeps [] w1 W := by rw [hW]; exact (K12.out.setCell' (Or.inl (by simp)) _).alloc' _
    have hz := (kW.block _ (Array.getElem?_eq_some_iff.1 HZ.out).1 (by simp)).trans HZ.out
    have OW : W.ownsRow (w1.heap.size + 1) 5 1 (.slice A 2 c) 2 ((put16 s.smss).map u8V) := by
      have o2 := O2.out
      rw [show (w1.alloc (.cells #[.int .u16 s.lp, .int .u16 s.rem, .int .u32 s.iss, .int .u32 0, .int .u8 2, .int .u16 (65535), .int .u16 0, .slice none 0 0, .slice none 0 0] 30)).heap.size = w1.heap.size + 1 by simp] at o2
      rw [hW]
      exact own_keeps (own_setCell o2 _ _ (Nat.lt_succ_self _)) (Keeps.alloc _ _ _)
    have HOW := Lib.hid OW
    clear OW
    have HO := Lib.hid ho
    have KW := Lib.hid (K1.out.trans kW)
    have c3 := cell_keeps KW.out C3.out (by simp)
    have c4 := cell_keeps KW.out C4.out (by simp)
    clear hW kW ho hx2c0 hx2c1 hx2c2 hx2c3 hx2c4 hx2c5 hx2c6 hx2c7 hx2c8 hx2f0 hx2f1 hx2f2 hx2f3 hx2f4 hx2f5 hx2f6 hx2f7 hx2f8
    have hxc0 := cell_of_block hx 0
    have hxc1 := cell_of_block hx 1
    have hxc2 := cell_of_block hx 2
    have hxc3 := cell_of_block hx 3
    have hxc4 := cell_of_block hx 4
    have hxc5 := cell_of_block hx 5
    have hxc6 := cell_of_block hx 6
    have hxc7 := cell_of_block hx 7
    have hxc8 := cell_of_block hx 8
    simp at hxc0 hxc1 hxc2 hxc3 hxc4 hxc5 hxc6 hxc7 hxc8
    have hxf0 := free_of_block hx 0
    have hxf1 := free_of_block hx 1
    have hxf2 := free_of_block hx 2
    have hxf3 := free_of_block hx 3
    have hxf4 := free_of_block hx 4
    have hxf5 := free_of_block hx 5
    have hxf6 := free_of_block hx 6
    have hxf7 := free_of_block hx 7
    have hxf8 := free_of_block hx 8
    have hzc0 := cell_of_block hz 0
    have hzc1 := cell_of_block hz 1
    have hzc2 := cell_of_block hz 2
    have hzc3 := cell_of_block hz 3
    have hzc4 := cell_of_block hz 4
    have hzc5 := cell_of_block hz 5
    have hzc6 := cell_of_block hz 6
    have hzc7 := cell_of_block hz 7
    have hzc8 := cell_of_block hz 8
    simp at hzc0 hzc1 hzc2 hzc3 hzc4 hzc5 hzc6 hzc7 hzc8
    have hzf0 := free_of_block hz 0
    have hzf1 := free_of_block hz 1
    have hzf2 := free_of_block hz 2
    have hzf3 := free_of_block hz 3
    have hzf4 := free_of_block hz 4
    have hzf5 := free_of_block hz 5
    have hzf6 := free_of_block hz 6
    have hzf7 := free_of_block hz 7
    have hzf8 := free_of_block hz 8
    clear hx hz
    go_wp2_with fail
    refine bodyPost_ret (v := segV s.syn (.slice (some ⟨w2.heap.size, 0, none⟩) 1 1) (.slice none 0 0)) (by simp [results, Try.results29, go_sem, segV, F.out, FW.out, hzc0, hzc1, hzc2, hzc3, hzc4, hzc5, hzc6, hzc7, hzc8]) rfl ⟨some ⟨w2.heap.size, 0, none⟩, 1, rfl, ?_, ?_⟩
    · rw [F.out]
      exact OptsV.one (nine_far HO.out (by have := K1.out.size; have := (Array.getElem?_eq_some_iff.1 HZ.out).1; omega) _ _ _ _ _ _ _ _ _) (BytesV.of_own (own_nine HOW.out (by have := (Array.getElem?_eq_some_iff.1 HZ.out).1; omega) _ _ _ _ _ _ _ _ _))
    · exact (((((((((KW.out.setCell' (Or.inl (by simp)) _).setCell' (Or.inl (by simp)) _).setCell' (Or.inl (by simp)) _).setCell' (Or.inl (by simp)) _).setCell' (Or.inl (by simp)) _).setCell' (Or.inl (by simp)) _).setCell' (Or.inl (by simp)) _).setCell' (Or.inl (by simp)) _).setCell' (Or.inl (by simp)) _)
  · have FW := Lib.hid (show min s.room 65535 = s.room by omega)
    go_wp2_with fail
    refine (HM.out _).mono ?_
    rintro e w2 ⟨A, c, rfl, o2, k2⟩
    have hx2 := (k2.block w1.heap.size (by simp) (by simp)).trans (MapKept.heap_alloc w1 _).1
    have k12 : Keeps [] w1 w2 := (Keeps.alloc [] w1 _).trans k2
    have HX2 := Lib.hid hx2
    have K12 := Lib.hid k12
    have O2 := Lib.hid o2
    have hlt := (Array.getElem?_eq_some_iff.1 hx2).1
    clear k2 o2 d1 d2 d5 q1 q2 q5
    have hx2c0 := cell_of_block hx2 0
    have hx2c1 := cell_of_block hx2 1
    have hx2c2 := cell_of_block hx2 2
    have hx2c3 := cell_of_block hx2 3
    have hx2c4 := cell_of_block hx2 4
    have hx2c5 := cell_of_block hx2 5
    have hx2c6 := cell_of_block hx2 6
    have hx2c7 := cell_of_block hx2 7
    have hx2c8 := cell_of_block hx2 8
    simp at hx2c0 hx2c1 hx2c2 hx2c3 hx2c4 hx2c5 hx2c6 hx2c7 hx2c8
    have hx2f0 := free_of_block hx2 0
    have hx2f1 := free_of_block hx2 1
    have hx2f2 := free_of_block hx2 2
    have hx2f3 := free_of_block hx2 3
    have hx2f4 := free_of_block hx2 4
    have hx2f5 := free_of_block hx2 5
    have hx2f6 := free_of_block hx2 6
    have hx2f7 := free_of_block hx2 7
    have hx2f8 := free_of_block hx2 8
    clear hx2 k12
    go_upto_region 8 with fail
    refine wp_gn (fun W hW => ?_)
    have hx : W.heap[w1.heap.size]? = some (.cells #[.int .u16 s.lp, .int .u16 s.rem, .int .u32 s.iss, .int .u32 0, .int .u8 2, .int .u16 (s.room), .int .u16 0, .slice (some ⟨w2.heap.size, 0, none⟩) 1 1, .slice none 0 0] 30 (0, 0)) := by
      rw [hW, Below.heap_alloc _ _ _ (by simpa using hlt)]; exact heap_setCell_self HX2.out 7 _
    have ho : W.heap[w2.heap.size]? = some (.cells #[.int .u8 2, .slice A 2 c] 46 (0, 0)) := by
      rw [hW]; exact heap_alloc_at _ (by simp [World.setCell])
    have kW : Keeps [] w1 W := by rw [hW]; exact (K12.out.setCell' (Or.inl (by simp)) _).alloc' _
    have hz := (kW.block _ (Array.getElem?_eq_some_iff.1 HZ.out).1 (by simp)).trans HZ.out
    have OW : W.ownsRow (w1.heap.size + 1) 5 1 (.slice A 2 c) 2 ((put16 s.smss).map u8V) := by
      have o2 := O2.out
      rw [show (w1.alloc (.cells #[.int .u16 s.lp, .int .u16 s.rem, .int .u32 s.iss, .int .u32 0, .int .u8 2, .int .u16 (s.room), .int .u16 0, .slice none 0 0, .slice none 0 0] 30)).heap.size = w1.heap.size + 1 by simp] at o2
      rw [hW]
      exact own_keeps (own_setCell o2 _ _ (Nat.lt_succ_self _)) (Keeps.alloc _ _ _)
    have HOW := Lib.hid OW
    clear OW
    have HO := Lib.hid ho
    have KW := Lib.hid (K1.out.trans kW)
    have c3 := cell_keeps KW.out C3.out (by simp)
    have c4 := cell_keeps KW.out C4.out (by simp)
    clear hW kW ho hx2c0 hx2c1 hx2c2 hx2c3 hx2c4 hx2c5 hx2c6 hx2c7 hx2c8 hx2f0 hx2f1 hx2f2 hx2f3 hx2f4 hx2f5 hx2f6 hx2f7 hx2f8
    have hxc0 := cell_of_block hx 0
    have hxc1 := cell_of_block hx 1
    have hxc2 := cell_of_block hx 2
    have hxc3 := cell_of_block hx 3
    have hxc4 := cell_of_block hx 4
    have hxc5 := cell_of_block hx 5
    have hxc6 := cell_of_block hx 6
    have hxc7 := cell_of_block hx 7
    have hxc8 := cell_of_block hx 8
    simp at hxc0 hxc1 hxc2 hxc3 hxc4 hxc5 hxc6 hxc7 hxc8
    have hxf0 := free_of_block hx 0
    have hxf1 := free_of_block hx 1
    have hxf2 := free_of_block hx 2
    have hxf3 := free_of_block hx 3
    have hxf4 := free_of_block hx 4
    have hxf5 := free_of_block hx 5
    have hxf6 := free_of_block hx 6
    have hxf7 := free_of_block hx 7
    have hxf8 := free_of_block hx 8
    have hzc0 := cell_of_block hz 0
    have hzc1 := cell_of_block hz 1
    have hzc2 := cell_of_block hz 2
    have hzc3 := cell_of_block hz 3
    have hzc4 := cell_of_block hz 4
    have hzc5 := cell_of_block hz 5
    have hzc6 := cell_of_block hz 6
    have hzc7 := cell_of_block hz 7
    have hzc8 := cell_of_block hz 8
    simp at hzc0 hzc1 hzc2 hzc3 hzc4 hzc5 hzc6 hzc7 hzc8
    have hzf0 := free_of_block hz 0
    have hzf1 := free_of_block hz 1
    have hzf2 := free_of_block hz 2
    have hzf3 := free_of_block hz 3
    have hzf4 := free_of_block hz 4
    have hzf5 := free_of_block hz 5
    have hzf6 := free_of_block hz 6
    have hzf7 := free_of_block hz 7
    have hzf8 := free_of_block hz 8
    clear hx hz
    go_wp2_with fail
    refine bodyPost_ret (v := segV s.syn (.slice (some ⟨w2.heap.size, 0, none⟩) 1 1) (.slice none 0 0)) (by simp [results, Try.results29, go_sem, segV, F.out, FW.out, hzc0, hzc1, hzc2, hzc3, hzc4, hzc5, hzc6, hzc7, hzc8]) rfl ⟨some ⟨w2.heap.size, 0, none⟩, 1, rfl, ?_, ?_⟩
    · rw [F.out]
      exact OptsV.one (nine_far HO.out (by have := K1.out.size; have := (Array.getElem?_eq_some_iff.1 HZ.out).1; omega) _ _ _ _ _ _ _ _ _) (BytesV.of_own (own_nine HOW.out (by have := (Array.getElem?_eq_some_iff.1 HZ.out).1; omega) _ _ _ _ _ _ _ _ _))
    · exact (((((((((KW.out.setCell' (Or.inl (by simp)) _).setCell' (Or.inl (by simp)) _).setCell' (Or.inl (by simp)) _).setCell' (Or.inl (by simp)) _).setCell' (Or.inl (by simp)) _).setCell' (Or.inl (by simp)) _).setCell' (Or.inl (by simp)) _).setCell' (Or.inl (by simp)) _).setCell' (Or.inl (by simp)) _)
end Go.Proofs.Ytgaidloicmkdaaa
