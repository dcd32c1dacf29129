/-
  The walk of 'wakes': the chapter's rows. No condition.
-/
import Derived.Test.YtgaidloicmkdaaaHostI
import Derived.Lib.SlBytesConst
namespace Go.Proofs.Ytgaidloicmkdaaa
open Go.RowKit
set_option linter.unusedVariables false
set_option linter.unusedSimpArgs false
attribute [local go_sem ↓] Go.wp_at_zero Go.wp_at_succ

def wk0 : HS := ((suL 9).host 2 2).begin 0
def wg1 : Seg := ⟨2, 1, 99, 10, 18, 3, 0, [(2, put16 500)], []⟩
def wk1 : HS := (wk0.peer wg1 500).upp
theorem wk0_ok : wk0.Ok := HS.begin_ok (SU.host_ok (suL_ok ⟨by decide, by decide⟩) 2 2 ⟨by decide, by decide⟩) 0
theorem wg1_ok : wg1.Ok := ⟨by decide, by decide, ⟨by decide, by decide⟩, ⟨by decide, by decide⟩, by decide, by decide, by decide, by decide⟩
theorem wk1_still : wk1.Still := Or.inr (by decide)
theorem wk1_ok : wk1.Ok := HS.upp_ok (HS.peer_ok wk0_ok wg1_ok ⟨by decide, by decide⟩)

def wk2 : HS := wk1.settle 1
theorem wk2_ok : wk2.Ok := HS.settle_ok wk1_ok 1
theorem wk_take1 (w : World) (b g : Nat) (h : HostAt w b wk0) (hg : OptsV w (.slice (some ⟨g, 0, none⟩) 1 1) [(2, put16 500)]) :
    Calls Try.prog 10 #[.pointer (some ⟨b, 0, none⟩), .agg #[.int .u16 2, .int .u16 1, .int .u32 99, .int .u32 10, .int .u8 18, .int .u16 3, .int .u16 0, .slice (some ⟨g, 0, none⟩) 1 1, .slice none 0 0], .int .u64 1] w fun e w' =>
      ∃ v, e = .returned (.tuple #[v, .int .i64 0]) ∧ (OneSeg w' v wk1.ack (.slice none 0 0) (.slice none 0 0) ∧ HostAt w' b wk2) ∧ Keeps [b] w w' :=
  htake_syn h rfl wg1 (some ⟨g, 0, none⟩) none 1 1 0 0 ⟨hg, BytesV.nil _⟩ 1 (fun v w' => OneSeg w' v wk1.ack (.slice none 0 0) (.slice none 0 0) ∧ HostAt w' b wk2)
    (fun W hW hG => (hsynSent_plain hW wk0_ok rfl rfl wg1 wg1_ok _ _ _ _ _ _ hG (by decide) 500 (Or.inl ⟨by decide, by decide, by decide, by decide⟩) rfl (by decide) 1 (by decide) (by decide) wk1_still).mono fun e w' ⟨v, he, ho, hh, hk⟩ => ⟨v, he, ⟨ho, hh⟩, hk⟩)

def wl : List UInt8 := [97, 98, 99, 100]
def wk3 (A : Option Addr) (c : Nat) : HS := { wk2 with outA := A, out := wl, outC := c }
theorem wk3_ok (A : Option Addr) (c : Nat) : (wk3 A c).Ok := HS.out_ok wk2_ok A wl c (by decide)
def wk4 (A : Option Addr) (c : Nat) : HS := { wk3 A c with nxt := 13 }
theorem wk4_ok (A : Option Addr) (c : Nat) : (wk4 A c).Ok := HS.nxt_ok (wk3_ok A c) 13 ⟨by decide, by decide⟩
def wk5 (A : Option Addr) (c : Nat) : HS := (wk4 A c).settle 2
theorem wk_send1 (w : World) (b : Nat) (A : Option Addr) (c : Nat) (h : HostAt w b (wk3 A c)) :
    Calls Try.prog 43 #[.pointer (some ⟨b, 0, none⟩), .int .u64 2] w fun e w' => ∃ v, e = .returned v ∧ (∃ D cd, OneSeg w' v ((wk3 A c).data 10 0 3) (.slice none 0 0) (.slice D 3 cd) ∧ HostAt w' b (wk5 A c)) ∧ Keeps [b] w w' :=
  (hsend_one h (wk3_ok A c) 2 (by decide) (by decide) (by show (4 : Int) ≤ 4; decide) (by show (4 : Int) < 10; decide) ((wk3 A c).data 10 0 3) 3 3 ⟨by decide, by decide⟩ rfl
    (fun W hW => hpiece_data hW (wk3_ok A c) 10 3 0 3 4 3 ⟨by decide, by decide⟩ ⟨by decide, by decide⟩ rfl rfl rfl rfl rfl (by decide) (by show (3 : Int) < 500; decide) (by show (3 : Int) < 500; decide) (Or.inl ⟨rfl, by decide⟩))
    (wk4_ok A c) (Or.inl (by show (0 : Int) ≤ 0; decide))).mono fun e w' ⟨v, D, cd, he, ho, hh, hk⟩ => ⟨v, he, ⟨D, cd, ho, hh⟩, hk⟩

def wg2 : Seg := ⟨0, 0, 100, 13, 16, 3, 0, [], []⟩
theorem wg2_ok : wg2.Ok := ⟨by decide, by decide, ⟨by decide, by decide⟩, ⟨by decide, by decide⟩, by decide, by decide, by decide, by decide⟩
theorem wk5_ok (A : Option Addr) (c : Nat) : (wk5 A c).Ok := HS.settle_ok (wk4_ok A c) 2
def wk6 (A : Option Addr) (c : Nat) (Ai : Option Addr) (ci : Nat) : HS := { lp := 1, iss := 9, smss := 1000, sscale := -1, ssack := false, room := 100, rto := 4, tries := 10, st := 4, rem := 2, una := 13, nxt := 13, outA := A, out := wl, outC := c, closed := false, irs := 99, next := 100, innA := Ai, inn := [], innC := ci, read := 0, ended := false, mss := 500, scale := 0, scaled := false, sack := false, edge := 16, wl1 := 100, wl2 := 13, set := true, alarm := 7, wait := 4, count := 0 }
set_option maxRecDepth 100000 in
set_option maxHeartbeats 1000000 in
theorem wk6_eq (A : Option Addr) (c : Nat) (Ai : Option Addr) (ci : Nat) : (wk5 A c).after wg2 3 Ai ci = wk6 A c Ai ci := by rfl
theorem wk6_ok (A : Option Addr) (c : Nat) (Ai : Option Addr) (ci : Nat) : (wk6 A c Ai ci).Ok := wk6_eq A c Ai ci ▸ HS.after_ok (wk5_ok A c) wg2_ok 3 Ai ci (by show (0 : Nat) ≤ 1000000000; decide)
def wk7 (A : Option Addr) (c : Nat) (Ai : Option Addr) (ci : Nat) : HS := HS.settle { wk6 A c Ai ci with nxt := 14 } 3
theorem wk7_ok (A : Option Addr) (c : Nat) (Ai : Option Addr) (ci : Nat) : (wk7 A c Ai ci).Ok := HS.settle_ok (HS.nxt_ok (wk6_ok A c Ai ci) 14 ⟨by decide, by decide⟩) 3
theorem wk_send2 (w : World) (b : Nat) (A : Option Addr) (c : Nat) (Ai : Option Addr) (ci : Nat) (h : HostAt w b (wk6 A c Ai ci)) :
    Calls Try.prog 43 #[.pointer (some ⟨b, 0, none⟩), .int .u64 3] w fun e w' => ∃ v, e = .returned v ∧ (∃ D cd, OneSeg w' v ((wk6 A c Ai ci).data 13 3 1) (.slice none 0 0) (.slice D 1 cd) ∧ HostAt w' b (wk7 A c Ai ci)) ∧ Keeps [b] w w' :=
  (hsend_one h (wk6_ok A c Ai ci) 3 (by decide) (by decide) (by show (4 : Int) ≤ 4; decide) (by show (4 : Int) < 10; decide) ((wk6 A c Ai ci).data 13 3 1) 1 1 ⟨by decide, by decide⟩ rfl
    (fun W hW => hpiece_data hW (wk6_ok A c Ai ci) 13 3 3 3 1 1 ⟨by decide, by decide⟩ ⟨by decide, by decide⟩ rfl rfl rfl rfl rfl (by decide) (by show (1 : Int) < 500; decide) (by show (3 : Int) < 500; decide) (Or.inr ⟨rfl, by decide⟩))
    (HS.nxt_ok (wk6_ok A c Ai ci) 14 ⟨by decide, by decide⟩) (Or.inr rfl)).mono fun e w' ⟨v, D, cd, he, ho, hh, hk⟩ => ⟨v, he, ⟨D, cd, ho, hh⟩, hk⟩
theorem wk_take2 (w : World) (b : Nat) (A : Option Addr) (c : Nat) (h : HostAt w b (wk5 A c)) :
    Calls Try.prog 10 #[.pointer (some ⟨b, 0, none⟩), .agg #[.int .u16 0, .int .u16 0, .int .u32 100, .int .u32 13, .int .u8 16, .int .u16 3, .int .u16 0, .slice none 0 0, .slice none 0 0], .int .u64 3] w fun e w' =>
      ∃ v, e = .returned (.tuple #[v, .int .i64 0]) ∧ (∃ Ai ci D cd, OneSeg w' v ((wk6 A c Ai ci).data 13 3 1) (.slice none 0 0) (.slice D 1 cd) ∧ HostAt w' b (wk7 A c Ai ci)) ∧ Keeps [b] w w' :=
  htake_open h (by show (3 : Int) ≤ 4; decide) (by show (4 : Int) ≤ 10; decide) wg2 none none 0 0 0 0 ⟨OptsV.nil _, BytesV.nil _⟩ 3 (fun v w' => ∃ Ai ci D cd, OneSeg w' v ((wk6 A c Ai ci).data 13 3 1) (.slice none 0 0) (.slice D 1 cd) ∧ HostAt w' b (wk7 A c Ai ci))
    (fun W hW hG => hopen_ack hW (wk5_ok A c) rfl rfl rfl wg2 wg2_ok none none 0 0 0 hG rfl 3 (by decide) (by decide) rfl rfl (by decide) (fun v w' => ∃ Ai ci D cd, OneSeg w' v ((wk6 A c Ai ci).data 13 3 1) (.slice none 0 0) (.slice D 1 cd) ∧ HostAt w' b (wk7 A c Ai ci))
      (fun Ai ci => by rw [wk6_eq]; exact HS.settle_ok (wk6_ok A c Ai ci) 3)
      (fun W' Ai ci hW' => (wk_send2 W' b A c Ai ci (by rw [wk6_eq] at hW'; exact hW')).mono fun e w' ⟨v, he, ⟨D, cd, ho, hh⟩, hk⟩ => by
        obtain ⟨g, cg, hv, hr⟩ := ho
        exact ⟨some ⟨g, 0, none⟩, 1, cg, by rw [he, hv], hk, Or.inr (Or.inr ⟨by decide, Ai, ci, D, cd, ⟨g, cg, rfl, hr⟩, hh⟩)⟩))
def wk8 (A : Option Addr) (c : Nat) (Ai : Option Addr) (ci : Nat) : HS := { wk7 A c Ai ci with closed := true, st := 5 }
theorem wk8_ok (A : Option Addr) (c : Nat) (Ai : Option Addr) (ci : Nat) : (wk8 A c Ai ci).Ok := HS.close_ok (wk7_ok A c Ai ci) 5
def wk9 (A : Option Addr) (c : Nat) (Ai : Option Addr) (ci : Nat) : HS := HS.settle { wk8 A c Ai ci with nxt := 15 } 4
theorem wk_close (w : World) (b : Nat) (A : Option Addr) (c : Nat) (Ai : Option Addr) (ci : Nat) (h : HostAt w b (wk7 A c Ai ci)) :
    Calls Try.prog 21 #[.pointer (some ⟨b, 0, none⟩), .int .u64 4] w fun e w' => ∃ v, e = .returned (.tuple #[v, .int .i64 0]) ∧ (∃ D cd, OneSeg w' v ((wk8 A c Ai ci).finS 14) (.slice none 0 0) (.slice D 0 cd) ∧ HostAt w' b (wk9 A c Ai ci)) ∧ Keeps [b] w w' :=
  hclose_up h rfl rfl 4 (fun v w' => ∃ D cd, OneSeg w' v ((wk8 A c Ai ci).finS 14) (.slice none 0 0) (.slice D 0 cd) ∧ HostAt w' b (wk9 A c Ai ci))
    (fun W hW => (hsend_one (s := wk8 A c Ai ci) hW (wk8_ok A c Ai ci) 4 (by decide) (by decide) (by show (4 : Int) ≤ 5; decide) (by show (5 : Int) < 10; decide) ((wk8 A c Ai ci).finS 14) 1 0 ⟨by decide, by decide⟩ rfl
      (fun W' hW' => (hpiece_fin hW' (wk8_ok A c Ai ci) 14 3 2 ⟨by decide, by decide⟩ ⟨by decide, by decide⟩ rfl rfl rfl rfl (by decide) (by show (2 : Int) < 500; decide)).mono fun e w' ⟨he, hk⟩ => ⟨none, 0, he, World.ownsRow_nil _ _ _ _, hk⟩)
      (HS.nxt_ok (wk8_ok A c Ai ci) 15 ⟨by decide, by decide⟩) (Or.inr rfl)).mono fun e w' ⟨v, D, cd, he, ho, hh, hk⟩ => ⟨v, he, ⟨D, cd, ho, hh⟩, hk⟩)

theorem BytesV.blockc {w : World} {g n c : Nat} {t : TypeId} {z : Nat × Nat} {l : List UInt8} (h : w.heap[g]? = some (.cells (l.map u8V).toArray t z)) (hn : l.length = n) (hc : n ≤ c) (hm : c ≤ maxLen) : BytesV w (.slice (some ⟨g, 0, none⟩) n c) l := by
  subst hn
  refine ⟨_, _, rfl, hc, hm, fun hp => ⟨g, 0, rfl, fun i x hx => ?_⟩⟩
  rw [Nat.zero_add]
  simp [World.cell?, h, hx]
theorem BytesV.wl (c : Nat) (w : World) (t : TypeId) (z : Nat × Nat) (l : List UInt8) (h : l = [97, 98, 99, 100]) (h4 : 4 ≤ c := by omega) (hm : c ≤ maxLen := by simp [maxLen]) : BytesV (w.alloc (.cells #[.int .u8 97, .int .u8 98, .int .u8 99, .int .u8 100] t z)) (.slice (some ⟨w.heap.size, 0, none⟩) l.length c) l := by
  subst h
  exact BytesV.blockc (t := t) (z := z) (MapKept.heap_alloc w _).1 rfl h4 hm
set_option maxRecDepth 100000 in
set_option maxHeartbeats 2000000 in
theorem wakes_any (w : World) : Calls Try.prog 9 #[] w fun e w' => e = .returned (.bool true) ∧ Keeps [] w w' := by
  have hdial : ∀ W, Calls Try.prog 7 #[.agg #[.int .u16 1, .int .u32 9, .int .u16 1000, .int .i64 (-1), .bool false, .int .i64 100, .int .u64 4, .int .i64 10], .int .u16 2, .int .u64 0] W fun e w' => ∃ b v A c, e = .returned (.tuple #[.pointer (some ⟨b, 0, none⟩), v, .int .i64 0]) ∧ W.heap.size ≤ b ∧ HostAt w' b wk0 ∧ OneSeg w' v ((suL 9).host 2 2).syn (.slice A 1 c) (.slice none 0 0) ∧ Keeps [] W w' :=
    fun W => dial_ok W (suL 9) (suL_ok ⟨by decide, by decide⟩) (by decide) rfl 2 0 (by decide) (by decide) (by decide) (by decide)
  have HD := Lib.hid hdial
  clear hdial
  have kc := fun (w : World) (C : Array Value) (n c : Nat) => Lib.run_convert_bytes_const (P := Try.prog) w 28 5 C n c Try.underlying28 Try.underlying5
  go_enter Try.func9, Try.ntmps9
  go_wp2_with fail
  refine (setup_any _).mono ?_
  rintro e w1 ⟨rfl, k1⟩
  have K1 := Lib.hid k1
  clear k1
  unfold suV suL
  go_wp2_with fail
  refine (HD.out _).mono ?_
  rintro e w2 ⟨b, v, A, c, rfl, hb, h2, o2, k2⟩
  obtain ⟨g2, cc, rfl, hc1, hc2, hcell, hseg⟩ := o2
  have r2 := hcell 2 _ rfl
  have r4 := hcell 4 _ rfl
  have r7 := hcell 7 _ rfl
  have HB := Lib.hid hb
  have H2 := Lib.hid h2
  have K2 := Lib.hid (K1.out.trans k2)
  have hcc : (1 : Int) ≤ cc := by omega
  simp only [HS.syn, SU.host, suL] at r2 r4 r7
  clear h2 k2 hcell hseg hb hc2
  go_wp2_with fail
  refine (withMss_any _ 500 (by decide) (by decide)).mono ?_
  rintro e w3 ⟨A3, c3, rfl, b3, k3⟩
  have H3 := Lib.hid (H2.out.keep0 k3)
  have K3 := Lib.hid (K2.out.trans k3)
  have B3 := Lib.hid b3
  clear b3 k3 r2 r4 r7
  go_wp2_with fail
  refine (wk_take1 _ b w3.heap.size (H3.out.keep0 (Keeps.alloc _ _ _)) (OptsV.one (MapKept.heap_alloc w3 _).1 (B3.out.keep0 (Keeps.alloc _ _ _)))).mono ?_
  rintro e w4 ⟨v, rfl, ⟨o4, h4⟩, k4⟩
  obtain ⟨g4, cc4, rfl, hc1, hc2, hcell, hseg⟩ := o4
  have r2 := hcell 2 _ rfl
  have r3 := hcell 3 _ rfl
  have hcc4 : (1 : Int) ≤ cc4 := by omega
  rw [show wk1.ack.sq = 10 by decide] at r2
  rw [show wk1.ack.ak = 100 by decide] at r3
  have H4 := Lib.hid h4
  have K4 := Lib.hid (((K3.out.alloc' _).mono (T := [b]) (by simp)).trans k4)
  clear h4 k4 hcell hseg hc2 hc1
  go_wp2_with fail
  refine (hwrite_up (H4.out.keep0 (Keeps.alloc _ _ _)) rfl rfl (by show (0:Nat) ≤ 131072; decide) _ _ wl (BytesV.wl _ w4 _ _ _ rfl) (by decide) 2 (fun v w' => ∃ A c D cd, OneSeg w' v ((wk3 A c).data 10 0 3) (.slice none 0 0) (.slice D 3 cd) ∧ HostAt w' b (wk5 A c)) (fun W Ao co hW => (wk_send1 W b Ao co hW).mono fun e w' ⟨v, he, ⟨D, cd, ho, hh⟩, hk⟩ => ⟨v, he, ⟨Ao, co, D, cd, ho, hh⟩, hk⟩)).mono ?_
  rintro e w5 ⟨v, rfl, ⟨Ao, co, D, cd, o5, h5⟩, k5⟩
  obtain ⟨g5, cc5, rfl, hc1, hc2, hcell, hseg⟩ := o5
  have r2 := hcell 2 _ rfl
  have r8 := hcell 8 _ rfl
  have hcc5 : (1 : Int) ≤ cc5 := by omega
  rw [show ((wk3 Ao co).data 10 0 3).sq = 10 by rfl] at r2
  have st := BytesV.str (P := Try.prog) hseg.2 28 9 5 Try.underlying28 Try.underlying5 Try.underlying9 (by decide)
  rw [show ((wk3 Ao co).data 10 0 3).data = [97, 98, 99] by rfl] at st
  have H5 := Lib.hid h5
  have K5 := Lib.hid (((K4.out.alloc' _).mono (T := [b]) (by simp)).trans k5)
  clear h5 k5 hcell hseg hc2 hc1
  go_wp2_with fail
  refine (wk_take2 _ b Ao co H5.out).mono ?_
  rintro e w6 ⟨v, rfl, ⟨Ai, ci, D6, cd6, o6, h6⟩, k6⟩
  obtain ⟨g6, cc6, rfl, hc1, hc2, hcell, hseg⟩ := o6
  have r2 := hcell 2 _ rfl
  have r8 := hcell 8 _ rfl
  have hcc6 : (1 : Int) ≤ cc6 := by omega
  rw [show ((wk6 Ao co Ai ci).data 13 3 1).sq = 13 by rfl] at r2
  have st := BytesV.str (P := Try.prog) hseg.2 28 9 5 Try.underlying28 Try.underlying5 Try.underlying9 (by decide)
  rw [show ((wk6 Ao co Ai ci).data 13 3 1).data = [100] by rfl] at st
  have H6 := Lib.hid h6
  have K6 := Lib.hid (K5.out.trans k6)
  clear h6 k6 hcell hseg hc2 hc1
  go_wp2_with fail
  refine (wk_close _ b Ao co Ai ci H6.out).mono ?_
  rintro e w7 ⟨v, rfl, ⟨D7, cd7, o7, h7⟩, k7⟩
  obtain ⟨g7, cc7, rfl, hc1, hc2, hcell, hseg⟩ := o7
  have r2 := hcell 2 _ rfl
  have r4 := hcell 4 _ rfl
  have r8 := hcell 8 _ rfl
  have hcc7 : (1 : Int) ≤ cc7 := by omega
  have hd7 : (0 : Int) ≤ cd7 := by omega
  rw [show ((wk8 Ao co Ai ci).finS 14).sq = 14 by rfl] at r2
  rw [show ((wk8 Ao co Ai ci).finS 14).fl = 17 by rfl] at r4
  have H7 := Lib.hid h7
  have K7 := Lib.hid (K6.out.trans k7)
  clear h7 k7 hcell hseg hc2 hc1
  have f1 : (bits .and .u8 17 1 != 0) = true := by decide
  go_wp2_with fail
  refine (hstate_any H7.out (by show (1 : Int) ≤ 5; decide)).mono ?_
  rintro e w8 ⟨rfl, rfl⟩
  rw [show (wk9 Ao co Ai ci).st = 5 by rfl]
  go_wp2_with fail
  refine bodyPost_ret (v := .bool true) (by simp [results, Try.results9, go_sem]) rfl ⟨rfl, ?_⟩
  exact K7.out.fresh (fun x hx hl => by have h1 := HB.out; have h2 := K1.out.size; simp at hx; omega)
end Go.Proofs.Ytgaidloicmkdaaa
