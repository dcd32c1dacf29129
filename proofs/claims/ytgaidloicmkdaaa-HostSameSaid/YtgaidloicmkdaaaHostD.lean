/-
  The walks of package host: may, Dial, for a setup that offers neither scaling nor SACK. Condition: a setup's numbers are in the ranges of their kinds.
-/
import Derived.Test.YtgaidloicmkdaaaHostV
namespace Go.Proofs.Ytgaidloicmkdaaa
open Go.RowKit
set_option linter.unusedVariables false
set_option linter.unusedSimpArgs false

/-- A setup's plain state. -/
structure SU where
  (lp iss mss scale : Int)
  (sack : Bool)
  (room rto tries : Int)
def suV (s : SU) : Value := .agg #[.int .u16 s.lp, .int .u32 s.iss, .int .u16 s.mss, .int .i64 s.scale, .bool s.sack, .int .i64 s.room, .int .u64 s.rto, .int .i64 s.tries]
structure SU.Ok (s : SU) : Prop where
  lp : 0 ≤ s.lp ∧ s.lp ≤ 65535
  iss : U32 s.iss
  mss : 1 ≤ s.mss ∧ s.mss ≤ 1460
  scale : -1 ≤ s.scale ∧ s.scale ≤ 14
  room : 1 ≤ s.room ∧ s.room ≤ 131072
  rto : 1 ≤ s.rto ∧ s.rto ≤ 1073741824
  tries : 1 ≤ s.tries ∧ s.tries ≤ 10

set_option maxRecDepth 100000 in
set_option maxHeartbeats 1000000 in
theorem may_ok (w : World) (s : SU) (ok : s.Ok) : Calls Try.prog 27 #[suV s] w fun e w' => e = .returned (.bool true) ∧ Keeps [] w w' := by
  obtain ⟨m0, m1⟩ := ok.mss
  obtain ⟨s0, s1⟩ := ok.scale
  obtain ⟨r0, r1⟩ := ok.room
  obtain ⟨t0, t1⟩ := ok.rto
  obtain ⟨u0, u1⟩ := ok.tries
  unfold suV
  clear ok
  go_enter Try.func27, Try.ntmps27
  go_wp2_with fail
  go_ret
  exact ⟨rfl, Keeps.alloc _ _ _⟩

def SU.host (s : SU) (st rem : Int) : HS :=
  { lp := s.lp, iss := s.iss, smss := s.mss, sscale := s.scale, ssack := s.sack, room := s.room, rto := s.rto, tries := s.tries, st := st, rem := rem, una := s.iss, nxt := (s.iss + 1) % 4294967296, outA := none, out := [], outC := 0, closed := false, irs := 0, next := 0, innA := none, inn := [], innC := 0, read := 0, ended := false, mss := 536, scale := 0, scaled := false, sack := false, edge := 0, wl1 := 0, wl2 := 0, set := false, alarm := 0, wait := 0, count := 0 }
theorem SU.host_ok {s : SU} (ok : s.Ok) (st rem : Int) (hr : 0 ≤ rem ∧ rem ≤ 65535) : (s.host st rem).Ok := by
  have h1 := ok.iss
  unfold U32 at h1
  exact ⟨ok.lp, ok.iss, ok.mss, ok.scale, ok.room, ok.rto, ok.tries, hr, ok.iss, by unfold U32 SU.host; simp only; omega, by unfold U32 SU.host; simp only; omega, by unfold U32 SU.host; simp only; omega, by unfold U32 SU.host; simp only; omega, by unfold U32 SU.host; simp only; omega, by unfold U32 SU.host; simp only; omega, by simp [SU.host], by simp [SU.host], by simp [SU.host], by have := ok.room; simp [HS.free, SU.host]; omega, by simp [SU.host], by simp [SU.host], by simp [SU.host]⟩
theorem HS.begin_ok {s : HS} (ok : s.Ok) (now : Int) : (s.begin now).Ok :=
  ⟨ok.lp, ok.iss, ok.smss, ok.sscale, ok.room, ok.rto, ok.tries, ok.rem, ok.una, ok.nxt, ok.irs, ok.next, ok.edge, ok.wl1, ok.wl2, ok.out, ok.inn, ok.read, ok.free, ok.mss, ok.scale, ok.scaled⟩

set_option maxRecDepth 100000 in
set_option maxHeartbeats 400000 in
theorem dial_ok (w : World) (s : SU) (ok : s.Ok) (hsc : s.scale < 0) (hsk : s.sack = false) (rem now : Int) (r0 : 0 ≤ rem) (r1 : rem ≤ 65535) (n0 : 0 ≤ now) (n1 : now ≤ 4398046511104) :
    Calls Try.prog 7 #[suV s, .int .u16 rem, .int .u64 now] w fun e w' => ∃ b v A c, e = .returned (.tuple #[.pointer (some ⟨b, 0, none⟩), v, .int .i64 0]) ∧ w.heap.size ≤ b ∧ HostAt w' b ((s.host 2 rem).begin now) ∧ OneSeg w' v (s.host 2 rem).syn (.slice A 1 c) (.slice none 0 0) ∧ Keeps [] w w' := by
  have hm : ∀ W, Calls Try.prog 27 #[.agg #[.int .u16 s.lp, .int .u32 s.iss, .int .u16 s.mss, .int .i64 s.scale, .bool s.sack, .int .i64 s.room, .int .u64 s.rto, .int .i64 s.tries]] W fun e w' => e = .returned (.bool true) ∧ Keeps [] W w' := fun W => may_ok W s ok
  have HM := Lib.hid hm
  clear hm
  have hok := s.host_ok ok 2 rem ⟨r0, r1⟩
  have HB := Lib.hid (fun W b (hW : HostAt W b (s.host 2 rem)) => hbegin_any hW now (by have := ok.rto; simp only [SU.host]; omega) (by have := ok.rto; simp only [SU.host]; omega) n0 n1)
  have HSY := Lib.hid (fun W b (hW : HostAt W b ((s.host 2 rem).begin now)) => hsyn_plain hW (HS.begin_ok hok now) hsc hsk)
  obtain ⟨i0, i1⟩ := ok.iss
  clear ok hok hsc hsk
  have hb : ∀ W, (Instr.build 65 #[(0, .agg #[.int .u16 s.lp, .int .u32 s.iss, .int .u16 s.mss, .int .i64 s.scale, .bool s.sack, .int .i64 s.room, .int .u64 s.rto, .int .i64 s.tries]), (1, .int .i64 2), (2, .int .u16 rem), (3, .int .u32 s.iss), (4, .int .u32 ((s.iss + 1) % 4294967296)), (12, .int .i64 536)]).run Try.prog W = .ok (.agg #[.int .u16 s.lp, .int .u32 s.iss, .int .u16 s.mss, .int .i64 s.scale, .bool s.sack, .int .i64 s.room, .int .u64 s.rto, .int .i64 s.tries, .int .i64 2, .int .u16 rem, .int .u32 s.iss, .int .u32 ((s.iss + 1) % 4294967296), .slice none 0 0, .bool false, .int .u32 0, .int .u32 0, .slice none 0 0, .int .i64 0, .bool false, .int .i64 536, .int .i64 0, .bool false, .bool false, .int .u32 0, .int .u32 0, .int .u32 0, .bool false, .int .u64 0, .int .u64 0, .int .i64 0]) W := fun W => run_build W _ _ _ (by kernel_rfl)
  unfold suV
  go_enter Try.func7, Try.ntmps7
  go_wp2_with fail
  refine (HM.out _).mono ?_
  rintro e w1 ⟨rfl, k1⟩
  have hx := (k1.block w.heap.size (by simp) (by simp)).trans (MapKept.heap_alloc w _).1
  have K1 := Lib.hid ((Keeps.alloc [] w _).trans k1)
  clear k1
  have hxc0 := cell_of_block hx 0
  have hxc1 := cell_of_block hx 1
  have hxc2 := cell_of_block hx 2
  have hxc3 := cell_of_block hx 3
  have hxc4 := cell_of_block hx 4
  have hxc5 := cell_of_block hx 5
  have hxc6 := cell_of_block hx 6
  have hxc7 := cell_of_block hx 7
  simp at hxc0 hxc1 hxc2 hxc3 hxc4 hxc5 hxc6 hxc7
  have hxf0 := free_of_block hx 0
  have hxf1 := free_of_block hx 1
  have hxf2 := free_of_block hx 2
  have hxf3 := free_of_block hx 3
  have hxf4 := free_of_block hx 4
  have hxf5 := free_of_block hx 5
  have hxf6 := free_of_block hx 6
  have hxf7 := free_of_block hx 7
  clear hx
  go_wp2_with fail
  refine (HB.out _ w1.heap.size ⟨by exact (MapKept.heap_alloc w1 _).1, BytesV.nil _, BytesV.nil _⟩).mono ?_
  rintro e w2 ⟨rfl, h2, k2⟩
  have H2 := Lib.hid h2
  have K2 := Lib.hid ((((K1.out.alloc' _).mono (T := [w1.heap.size]) (by simp)).trans k2).fresh (T := []) (by intro x hx hlt; simp at hx; have := K1.out.size; omega))
  clear h2 k2
  go_wp2_with fail
  refine (HSY.out _ w1.heap.size H2.out).mono ?_
  rintro e w3 ⟨A, c, rfl, o3, k3⟩
  have H3 := Lib.hid (H2.out.keep0 k3)
  have K3 := Lib.hid (K2.out.trans k3)
  have O3 := Lib.hid o3
  clear k3 o3
  unfold segV
  go_wp2_with fail
  go_ret3
  exact ⟨w1.heap.size, _, A, c, rfl, K1.out.size, H3.out.keep0 (Keeps.alloc _ _ _), OneSeg.block (MapKept.heap_alloc w3 _).1 ⟨O3.out.keep0 (Keeps.alloc _ _ _), BytesV.nil _⟩, K3.out.alloc' _⟩
end Go.Proofs.Ytgaidloicmkdaaa
