/-
  The walks of package host: its window, its ACK, its RST, up, last. Condition: a host's numbers are in the ranges of their kinds.
-/
import Derived.Test.YtgaidloicmkdaaaHostS
namespace Go.Proofs.Ytgaidloicmkdaaa
open Go.RowKit
set_option linter.unusedVariables false
set_option linter.unusedSimpArgs false

def HS.free (s : HS) : Int := s.room - (s.inn.length - s.read)
/-- The host's numbers are in their ranges. -/
structure HS.Ok (s : HS) : Prop where
  lp : 0 ≤ s.lp ∧ s.lp ≤ 65535
  iss : U32 s.iss
  smss : 1 ≤ s.smss ∧ s.smss ≤ 1460
  sscale : -1 ≤ s.sscale ∧ s.sscale ≤ 14
  room : 1 ≤ s.room ∧ s.room ≤ 131072
  rto : 1 ≤ s.rto ∧ s.rto ≤ 1073741824
  tries : 1 ≤ s.tries ∧ s.tries ≤ 10
  rem : 0 ≤ s.rem ∧ s.rem ≤ 65535
  una : U32 s.una
  nxt : U32 s.nxt
  irs : U32 s.irs
  next : U32 s.next
  edge : U32 s.edge
  wl1 : U32 s.wl1
  wl2 : U32 s.wl2
  out : s.out.length ≤ 131072
  inn : s.inn.length ≤ 1073741824
  read : 0 ≤ s.read ∧ s.read ≤ s.inn.length
  free : 0 ≤ s.free
  mss : 1 ≤ s.mss ∧ s.mss ≤ 1460
  scale : 0 ≤ s.scale ∧ s.scale ≤ 14
  scaled : s.scaled = true → 0 ≤ s.sscale

set_option maxRecDepth 100000 in
set_option maxHeartbeats 1000000 in
theorem htold_plain {w : World} {b : Nat} {s : HS} (h : HostAt w b s) (ok : s.Ok) (hs : s.scaled = false) :
    Calls Try.prog 39 #[.pointer (some ⟨b, 0, none⟩)] w fun e w' => e = .returned (.int .u16 (min s.free 65535)) ∧ ∃ n, w' = w.drewN n := by
  have c5 := h.c5
  have c16 := h.c16
  have c17 := h.c17
  have c21 := h.c21
  rw [hs] at c21
  have r := ok.room
  have f := ok.free
  have il := ok.inn
  have rd := ok.read
  have F0 := Lib.hid (show s.free = s.room - (s.inn.length - s.read) from rfl)
  unfold HS.free at f
  have s1 : IntKind.i64.wrap ((s.inn.length : Int) - s.read) = s.inn.length - s.read := by rw [IntKind.wrap_i64]; omega
  have s2 : IntKind.i64.wrap (s.room - ((s.inn.length : Int) - s.read)) = s.room - ((s.inn.length : Int) - s.read) := by rw [IntKind.wrap_i64]; omega
  clear h ok hs
  rcases Int.lt_or_le 65535 (s.room - (s.inn.length - s.read)) with h1 | h1
  · have F := Lib.hid (show min s.free 65535 = 65535 by rw [F0.out]; omega)
    go_enter Try.func39, Try.ntmps39
    go_wp2_with fail
    go_quiet (fail)
    go_wp2_with fail
    go_ret
    exact ⟨ret_i F.out.symm, _, rfl⟩
  · have F := Lib.hid (show min s.free 65535 = s.room - (s.inn.length - s.read) by rw [F0.out]; omega)
    go_enter Try.func39, Try.ntmps39
    go_wp2_with fail
    go_quiet (fail)
    go_wp2_with fail
    go_ret
    exact ⟨ret_i F.out.symm, _, rfl⟩

set_option maxRecDepth 100000 in
set_option maxHeartbeats 1000000 in
theorem htold_scaled {w : World} {b : Nat} {s : HS} (h : HostAt w b s) (ok : s.Ok) (hs : s.scaled = true) :
    Calls Try.prog 39 #[.pointer (some ⟨b, 0, none⟩)] w fun e w' => e = .returned (.int .u16 (min (s.free / 2 ^ s.sscale.toNat) 65535)) ∧ ∃ n, w' = w.drewN n := by
  have hq : 0 ≤ s.free / 2 ^ s.sscale.toNat := Int.ediv_nonneg ok.free (Int.le_of_lt (Int.pow_pos (by omega)))
  have HQ0 := Lib.hid hq
  have HQ := Lib.hid (show s.free / 2 ^ s.sscale.toNat = (s.room - (s.inn.length - s.read)) / 2 ^ s.sscale.toNat from rfl)
  clear hq
  have c3 := h.c3
  have c5 := h.c5
  have c16 := h.c16
  have c17 := h.c17
  have c21 := h.c21
  rw [hs] at c21
  have r := ok.room
  have f := ok.free
  have il := ok.inn
  have rd := ok.read
  have sc0 := ok.scaled hs
  have sc1 := ok.sscale
  have F0 := Lib.hid (show s.free = s.room - (s.inn.length - s.read) from rfl)
  unfold HS.free at f
  have s1 : IntKind.i64.wrap ((s.inn.length : Int) - s.read) = s.inn.length - s.read := by rw [IntKind.wrap_i64]; omega
  have s2 : IntKind.i64.wrap (s.room - ((s.inn.length : Int) - s.read)) = s.room - ((s.inn.length : Int) - s.read) := by rw [IntKind.wrap_i64]; omega
  clear h ok hs
  go_enter Try.func39, Try.ntmps39
  go_wp2_with fail
  go_quiet (fail)
  go_wp2_with fail
  · go_ret
    refine ⟨ret_i ?_, _, rfl⟩
    have := F0.out
    have q0 := HQ0.out
    rw [HQ.out] at q0 ⊢
    rw [IntKind.wrap_u16]; omega
  · go_ret
    refine ⟨ret_i ?_, _, rfl⟩
    have := F0.out
    have q0 := HQ0.out
    rw [HQ.out] at q0 ⊢
    rw [IntKind.wrap_u16]; omega

def HS.told (s : HS) : Int := if s.scaled then min (s.free / 2 ^ s.sscale.toNat) 65535 else min s.free 65535
theorem HS.told_bd {s : HS} (ok : s.Ok) : 0 ≤ s.told ∧ s.told ≤ 65535 := by
  have := ok.free
  unfold HS.told
  split
  · have : 0 ≤ s.free / 2 ^ s.sscale.toNat := Int.ediv_nonneg ok.free (Int.le_of_lt (Int.pow_pos (by omega)))
    omega
  · omega
theorem htold_any {w : World} {b : Nat} {s : HS} (h : HostAt w b s) (ok : s.Ok) :
    Calls Try.prog 39 #[.pointer (some ⟨b, 0, none⟩)] w fun e w' => e = .returned (.int .u16 s.told) ∧ ∃ n, w' = w.drewN n := by
  cases hs : s.scaled
  · have := htold_plain h ok hs
    rw [show min s.free 65535 = s.told by unfold HS.told; rw [hs]; rfl] at this
    exact this
  · have := htold_scaled h ok hs
    rw [show min (s.free / 2 ^ s.sscale.toNat) 65535 = s.told by unfold HS.told; rw [hs]; rfl] at this
    exact this

/-! ### bare, ack, acks, rst -/
def HS.bare (s : HS) : Seg := ⟨s.lp, s.rem, 0, 0, 0, 0, 0, [], []⟩
def HS.ack (s : HS) : Seg := ⟨s.lp, s.rem, s.nxt, s.next, 16, s.told, 0, [], []⟩
def nilV : Value := .slice none 0 0

set_option maxRecDepth 100000 in
set_option maxHeartbeats 1000000 in
theorem hbare_any {w : World} {b : Nat} {s : HS} (h : HostAt w b s) :
    Calls Try.prog 48 #[.pointer (some ⟨b, 0, none⟩)] w fun e w' => e = .returned (segV s.bare (.slice none 0 0) (.slice none 0 0)) ∧ Keeps [] w w' := by
  have c0 := h.c0
  have c9 := h.c9
  have hlt := h.lt
  have n0 := World.new_ne w _ c0
  have n9 := World.new_ne w _ c9
  clear h
  unfold HS.bare segV
  go_enter Try.func48, Try.ntmps48
  go_wp2_with fail
  go_region
  go_wp2_with fail
  refine bodyPost_ret (v := .agg #[.int .u16 s.lp, .int .u16 s.rem, .int .u32 0, .int .u32 0, .int .u8 0, .int .u16 0, .int .u16 0, .slice none 0 0, .slice none 0 0]) (by simp [results, Try.results48, go_sem]) rfl ⟨rfl, ?_⟩
  repeat (first | exact Keeps.refl _ _ | apply Keeps.alloc' | apply Keeps.drew' | (refine Keeps.setCell' ?_ (by simp) _))

set_option maxRecDepth 100000 in
set_option maxHeartbeats 1000000 in
theorem hack_any {w : World} {b : Nat} {s : HS} (h : HostAt w b s) (ok : s.Ok) :
    Calls Try.prog 41 #[.pointer (some ⟨b, 0, none⟩)] w fun e w' => e = .returned (segV s.ack (.slice none 0 0) (.slice none 0 0)) ∧ Keeps [] w w' := by
  have H := Lib.hid h
  have OK := Lib.hid ok
  clear h ok
  unfold HS.ack segV
  go_enter Try.func41, Try.ntmps41
  go_wp2_with fail
  refine (hbare_any (H.out.keep0 (Keeps.alloc _ _ _))).mono ?_
  rintro e w1 ⟨rfl, k1⟩
  unfold HS.bare segV
  have hz := (k1.block w.heap.size (by simp) (by simp)).trans (MapKept.heap_alloc w _).1
  have HZ := Lib.hid hz
  have K1 := Lib.hid ((Keeps.alloc [] w _).trans k1)
  clear k1 hz
  go_upto_region 2 with fail
  have H1 := Lib.hid (H.out.keep0 K1.out)
  have c11 := H1.out.c11
  have c15 := H1.out.c15
  have n11 := World.new_ne w1 _ c11
  have n15 := World.new_ne w1 _ c15
  have p11 := keeps_cell0 (o := .cells #[.int .u16 s.lp, .int .u16 s.rem, .int .u32 0, .int .u32 0, .int .u8 0, .int .u16 0, .int .u16 0, .slice none 0 0, .slice none 0 0] 30) c11
  have p15 := keeps_cell0 (o := .cells #[.int .u16 s.lp, .int .u16 s.rem, .int .u32 0, .int .u32 0, .int .u8 0, .int .u16 0, .int .u16 0, .slice none 0 0, .slice none 0 0] 30) c15
  go_region_held3 (fun w' => w'.cell? ⟨b, 11, none⟩ = some (.int .u32 s.nxt) ∧ w'.cell? ⟨b, 15, none⟩ = some (.int .u32 s.next)) (go_keep) (first | (go_at_call 39; refine (htold_any (s := s) ((H1.out.keep0 (Keeps.alloc' (Keeps.refl [] w1) _)).keep0 (Keeps.drew [] _)) OK.out).mono ?_; rintro e w2 ⟨rfl, n2, rfl⟩))
  go_upto_region 3 with fail
  refine wp_gn (fun W hW => ?_)
  have hx : W.heap[w1.heap.size]? = some (.cells #[.int .u16 s.lp, .int .u16 s.rem, .int .u32 s.nxt, .int .u32 s.next, .int .u8 16, .int .u16 s.told, .int .u16 0, .slice none 0 0, .slice none 0 0] 30 (0, 0)) := by rw [hW]; exact heap_setCell_self (heap_setCell_self (heap_setCell_self (heap_setCell_self (MapKept.heap_alloc w1 (.cells #[.int .u16 s.lp, .int .u16 s.rem, .int .u32 0, .int .u32 0, .int .u8 0, .int .u16 0, .int .u16 0, .slice none 0 0, .slice none 0 0] 30)).1 2 _) 3 _) 4 _) 5 _
  have k3 : Keeps [] w1 W := by rw [hW]; repeat (first | exact Keeps.refl _ _ | apply Keeps.alloc' | apply Keeps.drew' | apply Keeps.drewN' | (refine Keeps.setCell' ?_ (by simp) _))
  have hr := (k3.block w.heap.size ((Array.getElem?_eq_some_iff.1 HZ.out).1) (by simp)).trans HZ.out
  have KW := Lib.hid (K1.out.trans k3)
  clear hW k3 p11 p15 n11 n15 c11 c15
  have hxc0 := cell_of_block hx 0
  have hxc1 := cell_of_block hx 1
  have hxc2 := cell_of_block hx 2
  have hxc3 := cell_of_block hx 3
  have hxc4 := cell_of_block hx 4
  have hxc5 := cell_of_block hx 5
  have hxc6 := cell_of_block hx 6
  have hxc7 := cell_of_block hx 7
  have hxc8 := cell_of_block hx 8
  simp at hxc0 hxc1 hxc2 hxc3 hxc4 hxc5 hxc6 hxc7 hxc8
  have hxf0 := free_of_block hx 0
  have hxf1 := free_of_block hx 1
  have hxf2 := free_of_block hx 2
  have hxf3 := free_of_block hx 3
  have hxf4 := free_of_block hx 4
  have hxf5 := free_of_block hx 5
  have hxf6 := free_of_block hx 6
  have hxf7 := free_of_block hx 7
  have hxf8 := free_of_block hx 8
  have hrc0 := cell_of_block hr 0
  have hrc1 := cell_of_block hr 1
  have hrc2 := cell_of_block hr 2
  have hrc3 := cell_of_block hr 3
  have hrc4 := cell_of_block hr 4
  have hrc5 := cell_of_block hr 5
  have hrc6 := cell_of_block hr 6
  have hrc7 := cell_of_block hr 7
  have hrc8 := cell_of_block hr 8
  simp at hrc0 hrc1 hrc2 hrc3 hrc4 hrc5 hrc6 hrc7 hrc8
  have hrf0 := free_of_block hr 0
  have hrf1 := free_of_block hr 1
  have hrf2 := free_of_block hr 2
  have hrf3 := free_of_block hr 3
  have hrf4 := free_of_block hr 4
  have hrf5 := free_of_block hr 5
  have hrf6 := free_of_block hr 6
  have hrf7 := free_of_block hr 7
  have hrf8 := free_of_block hr 8
  clear hx hr
  go_wp2_with fail
  refine bodyPost_ret (v := .agg #[.int .u16 s.lp, .int .u16 s.rem, .int .u32 s.nxt, .int .u32 s.next, .int .u8 16, .int .u16 s.told, .int .u16 0, .slice none 0 0, .slice none 0 0]) (by simp [results, Try.results41, go_sem, hrc0, hrc1, hrc2, hrc3, hrc4, hrc5, hrc6, hrc7, hrc8]) rfl ⟨rfl, ?_⟩
  exact (((((((((KW.out.setCell' (Or.inl (by simp)) _).setCell' (Or.inl (by simp)) _).setCell' (Or.inl (by simp)) _).setCell' (Or.inl (by simp)) _).setCell' (Or.inl (by simp)) _).setCell' (Or.inl (by simp)) _).setCell' (Or.inl (by simp)) _).setCell' (Or.inl (by simp)) _).setCell' (Or.inl (by simp)) _)
end Go.Proofs.Ytgaidloicmkdaaa
