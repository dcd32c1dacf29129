/-
  The walks of package host: a piece of what is to be sent. Condition: a host's numbers are in the ranges of their kinds.
-/
import Derived.Test.YtgaidloicmkdaaaHostU
namespace Go.Proofs.Ytgaidloicmkdaaa
open Go.RowKit
set_option linter.unusedVariables false
set_option linter.unusedSimpArgs false

theorem own_less {w : World} {B B' e sz n : Nat} {v : Value} {xs : List Value} (hB : B ≤ B') (h : w.ownsRow B' e sz v n xs) : w.ownsRow B e sz v n xs := by
  refine ⟨h.1, ?_⟩
  rcases h.2 with hn | ⟨g, cap, cur, h1, h2, h3⟩
  · exact .inl hn
  · exact .inr ⟨g, cap, cur, h1, Nat.le_trans hB h2, h3⟩
def HS.at (s : HS) (frm : Int) : Int := (frm - (s.iss + 1) % 4294967296) % 4294967296
def HS.left (s : HS) (frm stretch : Int) : Int := stretch - (frm - s.una) % 4294967296

set_option maxRecDepth 100000 in
set_option maxHeartbeats 1000000 in
theorem hpiece_none {w : World} {b : Nat} {s : HS} (h : HostAt w b s) (ok : s.Ok) (frm stretch : Int) (hf : U32 frm) (hs : U32 stretch) (hn : s.left frm stretch ≤ 0 ∨ frm = s.fin) :
    Calls Try.prog 44 #[.pointer (some ⟨b, 0, none⟩), .int .u32 frm, .int .u32 stretch] w fun e w' => e = .returned (.tuple #[segV s.ack (.slice none 0 0) (.slice none 0 0), .int .u32 0, .bool false]) ∧ Keeps [] w w' := by
  have H := Lib.hid h
  have OK := Lib.hid ok
  obtain ⟨f0, f1⟩ := hf
  obtain ⟨s0, s1⟩ := hs
  obtain ⟨i0, i1⟩ := ok.iss
  obtain ⟨u0, u1⟩ := ok.una
  have HA := Lib.hid (fun W (hW : HostAt W b s) => hack_any hW ok)
  have HE := Lib.hid (fun W (hW : HostAt W b s) => hend_any hW ok.iss (by have := ok.out; omega))
  unfold HS.left at hn
  clear h ok
  by_cases hl : stretch - (frm - s.una) % 4294967296 ≤ 0
  · clear hn
    go_enter Try.func44, Try.ntmps44
    go_wp2_with fail
    refine (HA.out _ (H.out.keep0 (Keeps.alloc _ _ _))).mono ?_
    rintro e w1 ⟨rfl, k1⟩
    have hz := (k1.block w.heap.size (by simp) (by simp)).trans (MapKept.heap_alloc w _).1
    have K1 := Lib.hid ((Keeps.alloc [] w _).trans k1)
    have H1 := Lib.hid (H.out.keep0 K1.out)
    have HZ := Lib.hid hz
    have hlt := (Array.getElem?_eq_some_iff.1 hz).1
    have q1 := keeps_cell0 (o := .cells #[.int .u16 s.lp, .int .u16 s.rem, .int .u32 s.nxt, .int .u32 s.next, .int .u8 16, .int .u16 s.told, .int .u16 0, .slice none 0 0, .slice none 0 0] 30) H1.out.c1
    have q10 := keeps_cell0 (o := .cells #[.int .u16 s.lp, .int .u16 s.rem, .int .u32 s.nxt, .int .u32 s.next, .int .u8 16, .int .u16 s.told, .int .u16 0, .slice none 0 0, .slice none 0 0] 30) H1.out.c10
    clear k1 hz
    unfold HS.ack segV
    go_upto_region 5 with fail
    refine wp_gn (fun W hW => ?_)
    have hx : W.heap[w1.heap.size]? = some (.cells #[.int .u16 s.lp, .int .u16 s.rem, .int .u32 s.nxt, .int .u32 s.next, .int .u8 16, .int .u16 s.told, .int .u16 0, .slice none 0 0, .slice none 0 0] 30 (0, 0)) := by rw [hW]; exact (MapKept.heap_alloc w1 _).1
    have k3 : Keeps [] w1 W := by rw [hW]; exact Keeps.alloc _ _ _
    have hr := (k3.block w.heap.size hlt (by simp)).trans HZ.out
    have KW := Lib.hid (K1.out.trans k3)
    clear hW k3 q1 q10
    have hxc0 := cell_of_block hx 0
    have hxc1 := cell_of_block hx 1
    have hxc2 := cell_of_block hx 2
    have hxc3 := cell_of_block hx 3
    have hxc4 := cell_of_block hx 4
    have hxc5 := cell_of_block hx 5
    have hxc6 := cell_of_block hx 6
    have hxc7 := cell_of_block hx 7
    have hxc8 := cell_of_block hx 8
    simp at hxc0 hxc1 hxc2 hxc3 hxc4 hxc5 hxc6 hxc7 hxc8
    have hxf0 := free_of_block hx 0
    have hxf1 := free_of_block hx 1
    have hxf2 := free_of_block hx 2
    have hxf3 := free_of_block hx 3
    have hxf4 := free_of_block hx 4
    have hxf5 := free_of_block hx 5
    have hxf6 := free_of_block hx 6
    have hxf7 := free_of_block hx 7
    have hxf8 := free_of_block hx 8
    have hrc0 := cell_of_block hr 0
    have hrc1 := cell_of_block hr 1
    have hrc2 := cell_of_block hr 2
    have hrc3 := cell_of_block hr 3
    have hrc4 := cell_of_block hr 4
    have hrc5 := cell_of_block hr 5
    have hrc6 := cell_of_block hr 6
    have hrc7 := cell_of_block hr 7
    have hrc8 := cell_of_block hr 8
    simp at hrc0 hrc1 hrc2 hrc3 hrc4 hrc5 hrc6 hrc7 hrc8
    have hrf0 := free_of_block hr 0
    have hrf1 := free_of_block hr 1
    have hrf2 := free_of_block hr 2
    have hrf3 := free_of_block hr 3
    have hrf4 := free_of_block hr 4
    have hrf5 := free_of_block hr 5
    have hrf6 := free_of_block hr 6
    have hrf7 := free_of_block hr 7
    have hrf8 := free_of_block hr 8
    clear hx hr
    go_wp2_with fail
    refine bodyPost_ret (v := .tuple #[.agg #[.int .u16 s.lp, .int .u16 s.rem, .int .u32 s.nxt, .int .u32 s.next, .int .u8 16, .int .u16 s.told, .int .u16 0, .slice none 0 0, .slice none 0 0], .int .u32 0, .bool false]) (by simp [results, Try.results44, go_sem, hrc0, hrc1, hrc2, hrc3, hrc4, hrc5, hrc6, hrc7, hrc8]) rfl ⟨rfl, ?_⟩
    exact (((((((((KW.out.setCell' (Or.inl (by simp)) _).setCell' (Or.inl (by simp)) _).setCell' (Or.inl (by simp)) _).setCell' (Or.inl (by simp)) _).setCell' (Or.inl (by simp)) _).setCell' (Or.inl (by simp)) _).setCell' (Or.inl (by simp)) _).setCell' (Or.inl (by simp)) _).setCell' (Or.inl (by simp)) _)
  · have he : (frm == s.fin) = true := by rcases hn with h | h; exact absurd h hl; simpa using h
    clear hn
    go_enter Try.func44, Try.ntmps44
    go_wp2_with fail
    refine (HA.out _ (H.out.keep0 (Keeps.alloc _ _ _))).mono ?_
    rintro e w1 ⟨rfl, k1⟩
    have hz := (k1.block w.heap.size (by simp) (by simp)).trans (MapKept.heap_alloc w _).1
    have K1 := Lib.hid ((Keeps.alloc [] w _).trans k1)
    have H1 := Lib.hid (H.out.keep0 K1.out)
    have HZ := Lib.hid hz
    have hlt := (Array.getElem?_eq_some_iff.1 hz).1
    have q1 := keeps_cell0 (o := .cells #[.int .u16 s.lp, .int .u16 s.rem, .int .u32 s.nxt, .int .u32 s.next, .int .u8 16, .int .u16 s.told, .int .u16 0, .slice none 0 0, .slice none 0 0] 30) H1.out.c1
    have q10 := keeps_cell0 (o := .cells #[.int .u16 s.lp, .int .u16 s.rem, .int .u32 s.nxt, .int .u32 s.next, .int .u8 16, .int .u16 s.told, .int .u16 0, .slice none 0 0, .slice none 0 0] 30) H1.out.c10
    clear k1 hz
    unfold HS.ack segV
    go_wp2_with fail
    refine (HE.out _ (H1.out.keep0 (Keeps.alloc _ _ _))).mono ?_
    rintro e w2 ⟨rfl, n2, rfl⟩
    go_upto_region 5 with fail
    refine wp_gn (fun W hW => ?_)
    have hx : W.heap[w1.heap.size]? = some (.cells #[.int .u16 s.lp, .int .u16 s.rem, .int .u32 s.nxt, .int .u32 s.next, .int .u8 16, .int .u16 s.told, .int .u16 0, .slice none 0 0, .slice none 0 0] 30 (0, 0)) := by rw [hW]; exact (MapKept.heap_alloc w1 _).1
    have k3 : Keeps [] w1 W := by rw [hW]; exact (Keeps.alloc _ _ _).trans (Keeps.drewN _ _ _)
    have hr := (k3.block w.heap.size hlt (by simp)).trans HZ.out
    have KW := Lib.hid (K1.out.trans k3)
    clear hW k3 q1 q10
    have hxc0 := cell_of_block hx 0
    have hxc1 := cell_of_block hx 1
    have hxc2 := cell_of_block hx 2
    have hxc3 := cell_of_block hx 3
    have hxc4 := cell_of_block hx 4
    have hxc5 := cell_of_block hx 5
    have hxc6 := cell_of_block hx 6
    have hxc7 := cell_of_block hx 7
    have hxc8 := cell_of_block hx 8
    simp at hxc0 hxc1 hxc2 hxc3 hxc4 hxc5 hxc6 hxc7 hxc8
    have hxf0 := free_of_block hx 0
    have hxf1 := free_of_block hx 1
    have hxf2 := free_of_block hx 2
    have hxf3 := free_of_block hx 3
    have hxf4 := free_of_block hx 4
    have hxf5 := free_of_block hx 5
    have hxf6 := free_of_block hx 6
    have hxf7 := free_of_block hx 7
    have hxf8 := free_of_block hx 8
    have hrc0 := cell_of_block hr 0
    have hrc1 := cell_of_block hr 1
    have hrc2 := cell_of_block hr 2
    have hrc3 := cell_of_block hr 3
    have hrc4 := cell_of_block hr 4
    have hrc5 := cell_of_block hr 5
    have hrc6 := cell_of_block hr 6
    have hrc7 := cell_of_block hr 7
    have hrc8 := cell_of_block hr 8
    simp at hrc0 hrc1 hrc2 hrc3 hrc4 hrc5 hrc6 hrc7 hrc8
    have hrf0 := free_of_block hr 0
    have hrf1 := free_of_block hr 1
    have hrf2 := free_of_block hr 2
    have hrf3 := free_of_block hr 3
    have hrf4 := free_of_block hr 4
    have hrf5 := free_of_block hr 5
    have hrf6 := free_of_block hr 6
    have hrf7 := free_of_block hr 7
    have hrf8 := free_of_block hr 8
    clear hx hr
    go_wp2_with fail
    refine bodyPost_ret (v := .tuple #[.agg #[.int .u16 s.lp, .int .u16 s.rem, .int .u32 s.nxt, .int .u32 s.next, .int .u8 16, .int .u16 s.told, .int .u16 0, .slice none 0 0, .slice none 0 0], .int .u32 0, .bool false]) (by simp [results, Try.results44, go_sem, hrc0, hrc1, hrc2, hrc3, hrc4, hrc5, hrc6, hrc7, hrc8]) rfl ⟨rfl, ?_⟩
    exact (((((((((KW.out.setCell' (Or.inl (by simp)) _).setCell' (Or.inl (by simp)) _).setCell' (Or.inl (by simp)) _).setCell' (Or.inl (by simp)) _).setCell' (Or.inl (by simp)) _).setCell' (Or.inl (by simp)) _).setCell' (Or.inl (by simp)) _).setCell' (Or.inl (by simp)) _).setCell' (Or.inl (by simp)) _)

/-- A piece with data, no FIN. M: how many bytes stand behind frm; L: how far the stretch reaches. -/
def HS.data (s : HS) (frm : Int) (A n : Nat) : Seg := ⟨s.lp, s.rem, frm, s.next, 24, s.told, 0, [], (s.out.drop A).take n⟩

set_option maxRecDepth 100000 in
set_option maxHeartbeats 2000000 in
theorem hpiece_data {w : World} {b : Nat} {s : HS} (h : HostAt w b s) (ok : s.Ok) (frm stretch : Int) (A L M n : Nat) (hf : U32 frm) (hs : U32 stretch)
    (hA : s.at frm = A) (hL : s.left frm stretch = L) (hM : (s.out.length : Int) - A = M) (hne : (frm == s.fin) = false) (hcl : s.closed = false) (hn : 0 < n) (hm : (n : Int) < s.mss) (hLm : (L : Int) < s.mss) (hcase : (n = L ∧ L ≤ M) ∨ (n = M ∧ M < L)) :
    Calls Try.prog 44 #[.pointer (some ⟨b, 0, none⟩), .int .u32 frm, .int .u32 stretch] w fun e w' => ∃ D c, e = .returned (.tuple #[segV (s.data frm A n) (.slice none 0 0) (.slice D n c), .int .u32 n, .bool true]) ∧ w'.ownsRow w.heap.size 5 1 (.slice D n c) n ((s.data frm A n).data.map u8V) ∧ Keeps [] w w' := by
  have H := Lib.hid h
  have OK := Lib.hid ok
  obtain ⟨f0, f1⟩ := hf
  obtain ⟨s0, s1⟩ := hs
  obtain ⟨i0, i1⟩ := ok.iss
  obtain ⟨u0, u1⟩ := ok.una
  have ol := ok.out
  have ms := ok.mss
  have HA := Lib.hid (fun W (hW : HostAt W b s) => hack_any hW ok)
  have HE := Lib.hid (fun W (hW : HostAt W b s) => hend_any hW ok.iss (by have := ok.out; omega))
  unfold HS.left at hL
  unfold HS.at at hA
  have hMw : IntKind.i64.wrap ((s.out.length : Int) - A) = M := by rw [hM, IntKind.wrap_i64]; omega
  have hAM : A + M = s.out.length := by omega
  have hnM : n ≤ M := by omega
  have hLp : (0 : Int) < L := by omega
  have hAMH := Lib.hid hAM
  have hfl : bits .or .u8 16 8 = 24 := by decide
  have hlen : ((s.out.drop A).take n).length = n := by simp; omega
  have HLEN := Lib.hid hlen
  have sok : (s.data frm A n).Ok := ⟨ok.lp, ok.rem, ⟨f0, f1⟩, ok.next, by simp [HS.data], HS.told_bd ok, by simp [HS.data], by unfold HS.data; simp only [hlen]; omega⟩
  have HLI := Lib.hid (show lenI (s.data frm A n) = n by unfold lenI HS.data; simp only [hlen]; rw [show has 24 2 = false by decide, show has 24 1 = false by decide]; simp [bI])
  have hlc : ∀ W A1 n1 c1 A2 c2, Calls Try.prog 57 #[.agg #[.int .u16 s.lp, .int .u16 s.rem, .int .u32 frm, .int .u32 s.next, .int .u8 24, .int .u16 s.told, .int .u16 0, .slice A1 n1 c1, .slice A2 n c2]] W fun e w' => e = .returned (.int .u32 n) ∧ Keeps [] W w' := by
    intro W A1 n1 c1 A2 c2
    have := length_any W (s.data frm A n) sok A1 A2 n1 c1 c2
    rw [show (s.data frm A n).data.length = n from hlen, HLI.out] at this
    exact this
  have HLC := Lib.hid hlc
  clear hlc
  clear sok hlen
  have hb0 : (0 : Int) ≤ (A : Int) + n := by omega
  have hb1 : (A : Int) + n ≤ s.outC := by have := h.out.form.2.1; omega
  obtain ⟨g, o, hoA, _⟩ := h.out.get (by omega)
  obtain ⟨_, hoc, hocm⟩ := h.out.form
  simp only [maxLen] at hocm
  have HBO := Lib.hid h.out
  rw [hoA] at HBO
  have c12 := h.c12
  rw [hoA] at c12
  have c13 := h.c13
  rw [hcl] at c13
  have C12 := Lib.hid c12
  have C13 := Lib.hid c13
  clear h ok hoA hM hAM hcl c12 c13
  rcases hcase with ⟨hc1, hc2⟩ | ⟨hc1, hc2⟩
  · subst hc1
    have d1 : (n : Int) < s.mss := hm
    go_enter Try.func44, Try.ntmps44
    go_wp2_with fail
    refine (HA.out _ (H.out.keep0 (Keeps.alloc _ _ _))).mono ?_
    rintro e w1 ⟨rfl, k1⟩
    have hz := (k1.block w.heap.size (by simp) (by simp)).trans (MapKept.heap_alloc w _).1
    have K1 := Lib.hid ((Keeps.alloc [] w _).trans k1)
    have H1 := Lib.hid (H.out.keep0 K1.out)
    have HZ := Lib.hid hz
    have hlt := (Array.getElem?_eq_some_iff.1 hz).1
    have q1 := keeps_cell0 (o := .cells #[.int .u16 s.lp, .int .u16 s.rem, .int .u32 s.nxt, .int .u32 s.next, .int .u8 16, .int .u16 s.told, .int .u16 0, .slice none 0 0, .slice none 0 0] 30) H1.out.c1
    have q10 := keeps_cell0 (o := .cells #[.int .u16 s.lp, .int .u16 s.rem, .int .u32 s.nxt, .int .u32 s.next, .int .u8 16, .int .u16 s.told, .int .u16 0, .slice none 0 0, .slice none 0 0] 30) H1.out.c10
    have q12 := keeps_cell0 (o := .cells #[.int .u16 s.lp, .int .u16 s.rem, .int .u32 s.nxt, .int .u32 s.next, .int .u8 16, .int .u16 s.told, .int .u16 0, .slice none 0 0, .slice none 0 0] 30) (cell_keeps K1.out C12.out (by simp))
    have q13 := keeps_cell0 (o := .cells #[.int .u16 s.lp, .int .u16 s.rem, .int .u32 s.nxt, .int .u32 s.next, .int .u8 16, .int .u16 s.told, .int .u16 0, .slice none 0 0, .slice none 0 0] 30) (cell_keeps K1.out C13.out (by simp))
    have q19 := keeps_cell0 (o := .cells #[.int .u16 s.lp, .int .u16 s.rem, .int .u32 s.nxt, .int .u32 s.next, .int .u8 16, .int .u16 s.told, .int .u16 0, .slice none 0 0, .slice none 0 0] 30) H1.out.c19
    clear k1 hz
    unfold HS.ack segV
    go_wp2_with fail
    refine (HE.out _ (H1.out.keep0 (Keeps.alloc _ _ _))).mono ?_
    rintro e w2 ⟨rfl, n2, rfl⟩
    go_wp2_with fail
    go_quiet (fail)
    go_wp2_with fail
    refine (sclone_own _ (some ⟨g, o + A, none⟩) n (s.outC - A) ((s.out.drop A).take n) ?_ (by omega)).mono ?_
    · have := (HBO.out.sub (lo := A) (hi := A + n) (by omega) (by have := hAMH.out; omega) (some ⟨g, o + A, none⟩) (s.outC - A) (fun _ => rfl) (by omega) (by simp only [maxLen]; omega)).keep0 K1.out
      rw [Nat.add_sub_cancel_left] at this
      exact (this.keep0 (Keeps.alloc _ _ _)).keep0 (Keeps.drewN _ _ _)
    rintro e w3 ⟨v, rfl, o3, k3⟩
    have b3 := BytesV.of_own o3
    obtain ⟨D, c, rfl⟩ := b3.slice
    have O3 := Lib.hid o3
    clear o3
    rw [HLEN.out] at b3 O3 ⊢
    have hx := (k3.block w1.heap.size (by simp) (by simp)).trans (MapKept.heap_alloc w1 _).1
    have k13 : Keeps [] w1 w3 := ((Keeps.alloc [] w1 _).trans (Keeps.drewN _ _ _)).trans k3
    have hr := (k13.block w.heap.size hlt (by simp)).trans HZ.out
    have H3 := Lib.hid (H1.out.keep0 k13)
    have K13 := Lib.hid k13
    have KW := Lib.hid (K1.out.trans k13)
    have B3 := Lib.hid b3
    have hlt3 := (Array.getElem?_eq_some_iff.1 hx).1
    have HX := Lib.hid hx
    have HR := Lib.hid hr
    clear k3 k13 b3 q1 q10 q12 q13 q19
    have hxc0 := cell_of_block hx 0
    have hxc1 := cell_of_block hx 1
    have hxc2 := cell_of_block hx 2
    have hxc3 := cell_of_block hx 3
    have hxc4 := cell_of_block hx 4
    have hxc5 := cell_of_block hx 5
    have hxc6 := cell_of_block hx 6
    have hxc7 := cell_of_block hx 7
    have hxc8 := cell_of_block hx 8
    simp at hxc0 hxc1 hxc2 hxc3 hxc4 hxc5 hxc6 hxc7 hxc8
    have hxf0 := free_of_block hx 0
    have hxf1 := free_of_block hx 1
    have hxf2 := free_of_block hx 2
    have hxf3 := free_of_block hx 3
    have hxf4 := free_of_block hx 4
    have hxf5 := free_of_block hx 5
    have hxf6 := free_of_block hx 6
    have hxf7 := free_of_block hx 7
    have hxf8 := free_of_block hx 8
    clear hx hr
    go_upto_region 12 with fail
    refine wp_gn (fun W hW => ?_)
    have hx : W.heap[w1.heap.size]? = some (.cells #[.int .u16 s.lp, .int .u16 s.rem, .int .u32 frm, .int .u32 s.next, .int .u8 24, .int .u16 s.told, .int .u16 0, .slice none 0 0, .slice D n c] 30 (0, 0)) := by rw [hW]; exact heap_setCell_self (heap_setCell_self (heap_setCell_self HX.out 8 _) 4 _) 2 _
    have k4 : Keeps [] w1 W := by rw [hW]; exact ((((K13.out).setCell' (Or.inl (by simp)) _).setCell' (Or.inl (by simp)) _).setCell' (Or.inl (by simp)) _)
    have hr := (k4.block w.heap.size hlt (by simp)).trans HZ.out
    have c13 := cell_keeps (K1.out.trans k4) C13.out (by simp)
    have OW : W.ownsRow (w1.heap.size + 1) 5 1 (.slice D n c) n (((s.out.drop A).take n).map u8V) := by
      have o3 := O3.out
      simp at o3
      rw [hW]
      simp only [List.map_take, List.map_drop]
      refine own_setCell (own_setCell (own_setCell o3 _ _ ?_) _ _ ?_) _ _ ?_ <;> exact Nat.lt_succ_self _
    have HOW := Lib.hid OW
    clear OW
    have KW4 := Lib.hid (K1.out.trans k4)
    clear hW k4 hxc0 hxc1 hxc2 hxc3 hxc4 hxc5 hxc6 hxc7 hxc8 hxf0 hxf1 hxf2 hxf3 hxf4 hxf5 hxf6 hxf7 hxf8 hfl
    have hxc0 := cell_of_block hx 0
    have hxc1 := cell_of_block hx 1
    have hxc2 := cell_of_block hx 2
    have hxc3 := cell_of_block hx 3
    have hxc4 := cell_of_block hx 4
    have hxc5 := cell_of_block hx 5
    have hxc6 := cell_of_block hx 6
    have hxc7 := cell_of_block hx 7
    have hxc8 := cell_of_block hx 8
    simp at hxc0 hxc1 hxc2 hxc3 hxc4 hxc5 hxc6 hxc7 hxc8
    have hxf0 := free_of_block hx 0
    have hxf1 := free_of_block hx 1
    have hxf2 := free_of_block hx 2
    have hxf3 := free_of_block hx 3
    have hxf4 := free_of_block hx 4
    have hxf5 := free_of_block hx 5
    have hxf6 := free_of_block hx 6
    have hxf7 := free_of_block hx 7
    have hxf8 := free_of_block hx 8
    have hrc0 := cell_of_block hr 0
    have hrc1 := cell_of_block hr 1
    have hrc2 := cell_of_block hr 2
    have hrc3 := cell_of_block hr 3
    have hrc4 := cell_of_block hr 4
    have hrc5 := cell_of_block hr 5
    have hrc6 := cell_of_block hr 6
    have hrc7 := cell_of_block hr 7
    have hrc8 := cell_of_block hr 8
    simp at hrc0 hrc1 hrc2 hrc3 hrc4 hrc5 hrc6 hrc7 hrc8
    have hrf0 := free_of_block hr 0
    have hrf1 := free_of_block hr 1
    have hrf2 := free_of_block hr 2
    have hrf3 := free_of_block hr 3
    have hrf4 := free_of_block hr 4
    have hrf5 := free_of_block hr 5
    have hrf6 := free_of_block hr 6
    have hrf7 := free_of_block hr 7
    have hrf8 := free_of_block hr 8
    have HR4 := Lib.hid hr
    clear hx hr
    go_upto_region 14 with fail
    clear hA hne hm hMw hnM hAMH HLI hb0 hb1 hL hLp hc2 d1 c13 HA HE C12 C13 HBO H H1 H3 HX HR HZ ol ms i0 i1 u0 u1
    have hne1 : ¬ w.heap.size = w1.heap.size := by omega
    have hne2 : ¬ w1.heap.size = w.heap.size := by omega
    clear hrc0 hrc1 hrc2 hrc3 hrc4 hrc5 hrc6 hrc7 hrc8 hrf0 hrf1 hrf2 hrf3 hrf4 hrf5 hrf6 hrf7 hrf8
    go_region_with (first | (go_at_call 57; refine (HLC.out _ none 0 0 D c).mono ?_; rintro e w5 ⟨rfl, k5⟩; have kk := (Keeps.drew [] W).trans k5; have d0 := cell_keeps kk hxc0 (by simp); have d1 := cell_keeps kk hxc1 (by simp); have d2 := cell_keeps kk hxc2 (by simp); have d3 := cell_keeps kk hxc3 (by simp); have d4 := cell_keeps kk hxc4 (by simp); have d5 := cell_keeps kk hxc5 (by simp); have d6 := cell_keeps kk hxc6 (by simp); have d7 := cell_keeps kk hxc7 (by simp); have d8 := cell_keeps kk hxc8 (by simp); have hs5 := (kk.block w.heap.size (Array.getElem?_eq_some_iff.1 HR4.out).1 (by simp)).trans HR4.out; have hsc0 := cell_of_block hs5 0; have hsc1 := cell_of_block hs5 1; have hsc2 := cell_of_block hs5 2; have hsc3 := cell_of_block hs5 3; have hsc4 := cell_of_block hs5 4; have hsc5 := cell_of_block hs5 5; have hsc6 := cell_of_block hs5 6; have hsc7 := cell_of_block hs5 7; have hsc8 := cell_of_block hs5 8; simp at hsc0 hsc1 hsc2 hsc3 hsc4 hsc5 hsc6 hsc7 hsc8; have hsf0 := free_of_block hs5 0; have hsf1 := free_of_block hs5 1; have hsf2 := free_of_block hs5 2; have hsf3 := free_of_block hs5 3; have hsf4 := free_of_block hs5 4; have hsf5 := free_of_block hs5 5; have hsf6 := free_of_block hs5 6; have hsf7 := free_of_block hs5 7; have hsf8 := free_of_block hs5 8; have K5 := Lib.hid kk; clear kk k5 hs5))
    all_goals
      go_wp2_with fail
      refine bodyPost_ret (v := .tuple #[.agg #[.int .u16 s.lp, .int .u16 s.rem, .int .u32 frm, .int .u32 s.next, .int .u8 24, .int .u16 s.told, .int .u16 0, .slice none 0 0, .slice D n c], .int .u32 n, .bool true]) (by simp [results, Try.results44, go_sem, hsc0, hsc1, hsc2, hsc3, hsc4, hsc5, hsc6, hsc7, hsc8]) rfl ⟨D, c, rfl, ?_, ?_⟩
      · have OWK := own_keeps HOW.out K5.out
        exact own_less (by omega) (own_setCell (own_setCell (own_setCell (own_setCell (own_setCell (own_setCell (own_setCell (own_setCell (own_setCell (OWK) _ _ (by simp; omega)) _ _ (by simp; omega)) _ _ (by simp; omega)) _ _ (by simp; omega)) _ _ (by simp; omega)) _ _ (by simp; omega)) _ _ (by simp; omega)) _ _ (by simp; omega)) _ _ (by simp; omega))
      · have KWK := KW4.out.trans K5.out
        exact (((((((((KWK.setCell' (Or.inl (by simp)) _).setCell' (Or.inl (by simp)) _).setCell' (Or.inl (by simp)) _).setCell' (Or.inl (by simp)) _).setCell' (Or.inl (by simp)) _).setCell' (Or.inl (by simp)) _).setCell' (Or.inl (by simp)) _).setCell' (Or.inl (by simp)) _).setCell' (Or.inl (by simp)) _)
  · subst hc1
    have d1 : (n : Int) < L := by omega
    have d2 : ¬ (L : Int) < n := by omega
    go_enter Try.func44, Try.ntmps44
    go_wp2_with fail
    refine (HA.out _ (H.out.keep0 (Keeps.alloc _ _ _))).mono ?_
    rintro e w1 ⟨rfl, k1⟩
    have hz := (k1.block w.heap.size (by simp) (by simp)).trans (MapKept.heap_alloc w _).1
    have K1 := Lib.hid ((Keeps.alloc [] w _).trans k1)
    have H1 := Lib.hid (H.out.keep0 K1.out)
    have HZ := Lib.hid hz
    have hlt := (Array.getElem?_eq_some_iff.1 hz).1
    have q1 := keeps_cell0 (o := .cells #[.int .u16 s.lp, .int .u16 s.rem, .int .u32 s.nxt, .int .u32 s.next, .int .u8 16, .int .u16 s.told, .int .u16 0, .slice none 0 0, .slice none 0 0] 30) H1.out.c1
    have q10 := keeps_cell0 (o := .cells #[.int .u16 s.lp, .int .u16 s.rem, .int .u32 s.nxt, .int .u32 s.next, .int .u8 16, .int .u16 s.told, .int .u16 0, .slice none 0 0, .slice none 0 0] 30) H1.out.c10
    have q12 := keeps_cell0 (o := .cells #[.int .u16 s.lp, .int .u16 s.rem, .int .u32 s.nxt, .int .u32 s.next, .int .u8 16, .int .u16 s.told, .int .u16 0, .slice none 0 0, .slice none 0 0] 30) (cell_keeps K1.out C12.out (by simp))
    have q13 := keeps_cell0 (o := .cells #[.int .u16 s.lp, .int .u16 s.rem, .int .u32 s.nxt, .int .u32 s.next, .int .u8 16, .int .u16 s.told, .int .u16 0, .slice none 0 0, .slice none 0 0] 30) (cell_keeps K1.out C13.out (by simp))
    have q19 := keeps_cell0 (o := .cells #[.int .u16 s.lp, .int .u16 s.rem, .int .u32 s.nxt, .int .u32 s.next, .int .u8 16, .int .u16 s.told, .int .u16 0, .slice none 0 0, .slice none 0 0] 30) H1.out.c19
    clear k1 hz
    unfold HS.ack segV
    go_wp2_with fail
    refine (HE.out _ (H1.out.keep0 (Keeps.alloc _ _ _))).mono ?_
    rintro e w2 ⟨rfl, n2, rfl⟩
    go_wp2_with fail
    go_quiet (fail)
    go_wp2_with fail
    refine (sclone_own _ (some ⟨g, o + A, none⟩) n (s.outC - A) ((s.out.drop A).take n) ?_ (by omega)).mono ?_
    · have := (HBO.out.sub (lo := A) (hi := A + n) (by omega) (by have := hAMH.out; omega) (some ⟨g, o + A, none⟩) (s.outC - A) (fun _ => rfl) (by omega) (by simp only [maxLen]; omega)).keep0 K1.out
      rw [Nat.add_sub_cancel_left] at this
      exact (this.keep0 (Keeps.alloc _ _ _)).keep0 (Keeps.drewN _ _ _)
    rintro e w3 ⟨v, rfl, o3, k3⟩
    have b3 := BytesV.of_own o3
    obtain ⟨D, c, rfl⟩ := b3.slice
    have O3 := Lib.hid o3
    clear o3
    rw [HLEN.out] at b3 O3 ⊢
    have hx := (k3.block w1.heap.size (by simp) (by simp)).trans (MapKept.heap_alloc w1 _).1
    have k13 : Keeps [] w1 w3 := ((Keeps.alloc [] w1 _).trans (Keeps.drewN _ _ _)).trans k3
    have hr := (k13.block w.heap.size hlt (by simp)).trans HZ.out
    have H3 := Lib.hid (H1.out.keep0 k13)
    have K13 := Lib.hid k13
    have KW := Lib.hid (K1.out.trans k13)
    have B3 := Lib.hid b3
    have hlt3 := (Array.getElem?_eq_some_iff.1 hx).1
    have HX := Lib.hid hx
    have HR := Lib.hid hr
    clear k3 k13 b3 q1 q10 q12 q13 q19
    have hxc0 := cell_of_block hx 0
    have hxc1 := cell_of_block hx 1
    have hxc2 := cell_of_block hx 2
    have hxc3 := cell_of_block hx 3
    have hxc4 := cell_of_block hx 4
    have hxc5 := cell_of_block hx 5
    have hxc6 := cell_of_block hx 6
    have hxc7 := cell_of_block hx 7
    have hxc8 := cell_of_block hx 8
    simp at hxc0 hxc1 hxc2 hxc3 hxc4 hxc5 hxc6 hxc7 hxc8
    have hxf0 := free_of_block hx 0
    have hxf1 := free_of_block hx 1
    have hxf2 := free_of_block hx 2
    have hxf3 := free_of_block hx 3
    have hxf4 := free_of_block hx 4
    have hxf5 := free_of_block hx 5
    have hxf6 := free_of_block hx 6
    have hxf7 := free_of_block hx 7
    have hxf8 := free_of_block hx 8
    clear hx hr
    go_upto_region 12 with fail
    refine wp_gn (fun W hW => ?_)
    have hx : W.heap[w1.heap.size]? = some (.cells #[.int .u16 s.lp, .int .u16 s.rem, .int .u32 frm, .int .u32 s.next, .int .u8 24, .int .u16 s.told, .int .u16 0, .slice none 0 0, .slice D n c] 30 (0, 0)) := by rw [hW]; exact heap_setCell_self (heap_setCell_self (heap_setCell_self HX.out 8 _) 4 _) 2 _
    have k4 : Keeps [] w1 W := by rw [hW]; exact ((((K13.out).setCell' (Or.inl (by simp)) _).setCell' (Or.inl (by simp)) _).setCell' (Or.inl (by simp)) _)
    have hr := (k4.block w.heap.size hlt (by simp)).trans HZ.out
    have c13 := cell_keeps (K1.out.trans k4) C13.out (by simp)
    have OW : W.ownsRow (w1.heap.size + 1) 5 1 (.slice D n c) n (((s.out.drop A).take n).map u8V) := by
      have o3 := O3.out
      simp at o3
      rw [hW]
      simp only [List.map_take, List.map_drop]
      refine own_setCell (own_setCell (own_setCell o3 _ _ ?_) _ _ ?_) _ _ ?_ <;> exact Nat.lt_succ_self _
    have HOW := Lib.hid OW
    clear OW
    have KW4 := Lib.hid (K1.out.trans k4)
    clear hW k4 hxc0 hxc1 hxc2 hxc3 hxc4 hxc5 hxc6 hxc7 hxc8 hxf0 hxf1 hxf2 hxf3 hxf4 hxf5 hxf6 hxf7 hxf8 hfl
    have hxc0 := cell_of_block hx 0
    have hxc1 := cell_of_block hx 1
    have hxc2 := cell_of_block hx 2
    have hxc3 := cell_of_block hx 3
    have hxc4 := cell_of_block hx 4
    have hxc5 := cell_of_block hx 5
    have hxc6 := cell_of_block hx 6
    have hxc7 := cell_of_block hx 7
    have hxc8 := cell_of_block hx 8
    simp at hxc0 hxc1 hxc2 hxc3 hxc4 hxc5 hxc6 hxc7 hxc8
    have hxf0 := free_of_block hx 0
    have hxf1 := free_of_block hx 1
    have hxf2 := free_of_block hx 2
    have hxf3 := free_of_block hx 3
    have hxf4 := free_of_block hx 4
    have hxf5 := free_of_block hx 5
    have hxf6 := free_of_block hx 6
    have hxf7 := free_of_block hx 7
    have hxf8 := free_of_block hx 8
    have hrc0 := cell_of_block hr 0
    have hrc1 := cell_of_block hr 1
    have hrc2 := cell_of_block hr 2
    have hrc3 := cell_of_block hr 3
    have hrc4 := cell_of_block hr 4
    have hrc5 := cell_of_block hr 5
    have hrc6 := cell_of_block hr 6
    have hrc7 := cell_of_block hr 7
    have hrc8 := cell_of_block hr 8
    simp at hrc0 hrc1 hrc2 hrc3 hrc4 hrc5 hrc6 hrc7 hrc8
    have hrf0 := free_of_block hr 0
    have hrf1 := free_of_block hr 1
    have hrf2 := free_of_block hr 2
    have hrf3 := free_of_block hr 3
    have hrf4 := free_of_block hr 4
    have hrf5 := free_of_block hr 5
    have hrf6 := free_of_block hr 6
    have hrf7 := free_of_block hr 7
    have hrf8 := free_of_block hr 8
    have HR4 := Lib.hid hr
    clear hx hr
    go_upto_region 14 with fail
    clear hA hne hm hMw hnM hAMH HLI hb0 hb1 hL hLp hc2 d1 c13 HA HE C12 C13 HBO H H1 H3 HX HR HZ ol ms i0 i1 u0 u1
    have hne1 : ¬ w.heap.size = w1.heap.size := by omega
    have hne2 : ¬ w1.heap.size = w.heap.size := by omega
    clear hrc0 hrc1 hrc2 hrc3 hrc4 hrc5 hrc6 hrc7 hrc8 hrf0 hrf1 hrf2 hrf3 hrf4 hrf5 hrf6 hrf7 hrf8
    go_region_with (first | (go_at_call 57; refine (HLC.out _ none 0 0 D c).mono ?_; rintro e w5 ⟨rfl, k5⟩; have kk := (Keeps.drew [] W).trans k5; have d0 := cell_keeps kk hxc0 (by simp); have d1 := cell_keeps kk hxc1 (by simp); have d2 := cell_keeps kk hxc2 (by simp); have d3 := cell_keeps kk hxc3 (by simp); have d4 := cell_keeps kk hxc4 (by simp); have d5 := cell_keeps kk hxc5 (by simp); have d6 := cell_keeps kk hxc6 (by simp); have d7 := cell_keeps kk hxc7 (by simp); have d8 := cell_keeps kk hxc8 (by simp); have hs5 := (kk.block w.heap.size (Array.getElem?_eq_some_iff.1 HR4.out).1 (by simp)).trans HR4.out; have hsc0 := cell_of_block hs5 0; have hsc1 := cell_of_block hs5 1; have hsc2 := cell_of_block hs5 2; have hsc3 := cell_of_block hs5 3; have hsc4 := cell_of_block hs5 4; have hsc5 := cell_of_block hs5 5; have hsc6 := cell_of_block hs5 6; have hsc7 := cell_of_block hs5 7; have hsc8 := cell_of_block hs5 8; simp at hsc0 hsc1 hsc2 hsc3 hsc4 hsc5 hsc6 hsc7 hsc8; have hsf0 := free_of_block hs5 0; have hsf1 := free_of_block hs5 1; have hsf2 := free_of_block hs5 2; have hsf3 := free_of_block hs5 3; have hsf4 := free_of_block hs5 4; have hsf5 := free_of_block hs5 5; have hsf6 := free_of_block hs5 6; have hsf7 := free_of_block hs5 7; have hsf8 := free_of_block hs5 8; have K5 := Lib.hid kk; clear kk k5 hs5))
    all_goals
      go_wp2_with fail
      refine bodyPost_ret (v := .tuple #[.agg #[.int .u16 s.lp, .int .u16 s.rem, .int .u32 frm, .int .u32 s.next, .int .u8 24, .int .u16 s.told, .int .u16 0, .slice none 0 0, .slice D n c], .int .u32 n, .bool true]) (by simp [results, Try.results44, go_sem, hsc0, hsc1, hsc2, hsc3, hsc4, hsc5, hsc6, hsc7, hsc8]) rfl ⟨D, c, rfl, ?_, ?_⟩
      · have OWK := own_keeps HOW.out K5.out
        exact own_less (by omega) (own_setCell (own_setCell (own_setCell (own_setCell (own_setCell (own_setCell (own_setCell (own_setCell (own_setCell (OWK) _ _ (by simp; omega)) _ _ (by simp; omega)) _ _ (by simp; omega)) _ _ (by simp; omega)) _ _ (by simp; omega)) _ _ (by simp; omega)) _ _ (by simp; omega)) _ _ (by simp; omega)) _ _ (by simp; omega))
      · have KWK := KW4.out.trans K5.out
        exact (((((((((KWK.setCell' (Or.inl (by simp)) _).setCell' (Or.inl (by simp)) _).setCell' (Or.inl (by simp)) _).setCell' (Or.inl (by simp)) _).setCell' (Or.inl (by simp)) _).setCell' (Or.inl (by simp)) _).setCell' (Or.inl (by simp)) _).setCell' (Or.inl (by simp)) _).setCell' (Or.inl (by simp)) _)

/-- A piece that is a FIN alone. -/
def HS.finS (s : HS) (frm : Int) : Seg := ⟨s.lp, s.rem, frm, s.next, 17, s.told, 0, [], []⟩

set_option maxRecDepth 100000 in
set_option maxHeartbeats 2000000 in
theorem hpiece_fin {w : World} {b : Nat} {s : HS} (h : HostAt w b s) (ok : s.Ok) (frm stretch : Int) (L : Nat) (hf : U32 frm) (hs : U32 stretch)
    (hA : s.at frm = s.out.length) (hL : s.left frm stretch = L) (hne : (frm == s.fin) = false) (hcl : s.closed = true) (hL0 : 0 < L) (hLm : (L : Int) < s.mss) :
    Calls Try.prog 44 #[.pointer (some ⟨b, 0, none⟩), .int .u32 frm, .int .u32 stretch] w fun e w' => e = .returned (.tuple #[segV (s.finS frm) (.slice none 0 0) (.slice none 0 0), .int .u32 1, .bool true]) ∧ Keeps [] w w' := by
  have H := Lib.hid h
  obtain ⟨f0, f1⟩ := hf
  obtain ⟨s0, s1⟩ := hs
  obtain ⟨i0, i1⟩ := ok.iss
  obtain ⟨u0, u1⟩ := ok.una
  have ol := ok.out
  have ms := ok.mss
  have HA := Lib.hid (fun W (hW : HostAt W b s) => hack_any hW ok)
  have HE := Lib.hid (fun W (hW : HostAt W b s) => hend_any hW ok.iss (by have := ok.out; omega))
  unfold HS.left at hL
  unfold HS.at at hA
  have hMw : IntKind.i64.wrap ((s.out.length : Int) - s.out.length) = 0 := by rw [IntKind.wrap_i64]; omega
  have hLp : (0 : Int) < L := by omega
  have hfl : bits .or .u8 16 1 = 17 := by decide
  have sok : (s.finS frm).Ok := ⟨ok.lp, ok.rem, ⟨f0, f1⟩, ok.next, by simp [HS.finS], HS.told_bd ok, by simp [HS.finS], by simp [HS.finS]⟩
  have hlc : ∀ W A1 n1 c1 A2 c2, Calls Try.prog 57 #[.agg #[.int .u16 s.lp, .int .u16 s.rem, .int .u32 frm, .int .u32 s.next, .int .u8 17, .int .u16 s.told, .int .u16 0, .slice A1 n1 c1, .slice A2 0 c2]] W fun e w' => e = .returned (.int .u32 1) ∧ Keeps [] W w' := by
    intro W A1 n1 c1 A2 c2
    have := length_any W (s.finS frm) sok A1 A2 n1 c1 c2
    rw [show lenI (s.finS frm) = 1 by unfold lenI HS.finS; rw [show has 17 2 = false by decide, show has 17 1 = true by decide]; simp [bI]] at this
    exact this
  have HLC := Lib.hid hlc
  have c12 := h.c12
  have c13 := h.c13
  rw [hcl] at c13
  have C12 := Lib.hid c12
  have C13 := Lib.hid c13
  clear h ok hcl c12 c13 hlc sok
  go_enter Try.func44, Try.ntmps44
  go_wp2_with fail
  refine (HA.out _ (H.out.keep0 (Keeps.alloc _ _ _))).mono ?_
  rintro e w1 ⟨rfl, k1⟩
  have hz := (k1.block w.heap.size (by simp) (by simp)).trans (MapKept.heap_alloc w _).1
  have K1 := Lib.hid ((Keeps.alloc [] w _).trans k1)
  have H1 := Lib.hid (H.out.keep0 K1.out)
  have HZ := Lib.hid hz
  have hlt := (Array.getElem?_eq_some_iff.1 hz).1
  have q1 := keeps_cell0 (o := .cells #[.int .u16 s.lp, .int .u16 s.rem, .int .u32 s.nxt, .int .u32 s.next, .int .u8 16, .int .u16 s.told, .int .u16 0, .slice none 0 0, .slice none 0 0] 30) H1.out.c1
  have q10 := keeps_cell0 (o := .cells #[.int .u16 s.lp, .int .u16 s.rem, .int .u32 s.nxt, .int .u32 s.next, .int .u8 16, .int .u16 s.told, .int .u16 0, .slice none 0 0, .slice none 0 0] 30) H1.out.c10
  have q12 := keeps_cell0 (o := .cells #[.int .u16 s.lp, .int .u16 s.rem, .int .u32 s.nxt, .int .u32 s.next, .int .u8 16, .int .u16 s.told, .int .u16 0, .slice none 0 0, .slice none 0 0] 30) (cell_keeps K1.out C12.out (by simp))
  have q19 := keeps_cell0 (o := .cells #[.int .u16 s.lp, .int .u16 s.rem, .int .u32 s.nxt, .int .u32 s.next, .int .u8 16, .int .u16 s.told, .int .u16 0, .slice none 0 0, .slice none 0 0] 30) H1.out.c19
  clear k1 hz
  unfold HS.ack segV
  go_wp2_with fail
  refine (HE.out _ (H1.out.keep0 (Keeps.alloc _ _ _))).mono ?_
  rintro e w2 ⟨rfl, n2, rfl⟩
  go_wp2_with fail
  go_quiet (fail)
  go_upto_region 12 with fail
  refine wp_gn (fun W hW => ?_)
  have hx : W.heap[w1.heap.size]? = some (.cells #[.int .u16 s.lp, .int .u16 s.rem, .int .u32 frm, .int .u32 s.next, .int .u8 16, .int .u16 s.told, .int .u16 0, .slice none 0 0, .slice none 0 0] 30 (0, 0)) := by rw [hW]; exact heap_setCell_self (MapKept.heap_alloc w1 (.cells #[.int .u16 s.lp, .int .u16 s.rem, .int .u32 s.nxt, .int .u32 s.next, .int .u8 16, .int .u16 s.told, .int .u16 0, .slice none 0 0, .slice none 0 0] 30)).1 2 _
  have k4 : Keeps [] w1 W := by rw [hW]; exact ((Keeps.alloc [] w1 _).trans (Keeps.drewN _ _ _)).setCell' (Or.inl (by simp)) _
  have c13 := cell_keeps (K1.out.trans k4) C13.out (by simp)
  have c12 := cell_keeps (K1.out.trans k4) C12.out (by simp)
  have hr := (k4.block w.heap.size hlt (by simp)).trans HZ.out
  have K4 := Lib.hid k4
  have HX := Lib.hid hx
  have HR := Lib.hid hr
  clear hW k4 q1 q10 q12 q19
  have hxc0 := cell_of_block hx 0
  have hxc1 := cell_of_block hx 1
  have hxc2 := cell_of_block hx 2
  have hxc3 := cell_of_block hx 3
  have hxc4 := cell_of_block hx 4
  have hxc5 := cell_of_block hx 5
  have hxc6 := cell_of_block hx 6
  have hxc7 := cell_of_block hx 7
  have hxc8 := cell_of_block hx 8
  simp at hxc0 hxc1 hxc2 hxc3 hxc4 hxc5 hxc6 hxc7 hxc8
  have hxf0 := free_of_block hx 0
  have hxf1 := free_of_block hx 1
  have hxf2 := free_of_block hx 2
  have hxf3 := free_of_block hx 3
  have hxf4 := free_of_block hx 4
  have hxf5 := free_of_block hx 5
  have hxf6 := free_of_block hx 6
  have hxf7 := free_of_block hx 7
  have hxf8 := free_of_block hx 8
  clear hx hr
  go_upto_region 14 with fail
  refine wp_gn (fun W2 hW2 => ?_)
  have hx : W2.heap[w1.heap.size]? = some (.cells #[.int .u16 s.lp, .int .u16 s.rem, .int .u32 frm, .int .u32 s.next, .int .u8 17, .int .u16 s.told, .int .u16 0, .slice none 0 0, .slice none 0 0] 30 (0, 0)) := by rw [hW2]; exact heap_setCell_self HX.out 4 _
  have k5 : Keeps [] w1 W2 := by rw [hW2]; exact K4.out.setCell' (Or.inl (by simp)) _
  have hr := (k5.block w.heap.size hlt (by simp)).trans HZ.out
  have HR4 := Lib.hid hr
  have KW4 := Lib.hid (K1.out.trans k5)
  clear hW2 k5 hr c12 c13 hxc0 hxc1 hxc2 hxc3 hxc4 hxc5 hxc6 hxc7 hxc8 hxf0 hxf1 hxf2 hxf3 hxf4 hxf5 hxf6 hxf7 hxf8 hfl
  have hxc0 := cell_of_block hx 0
  have hxc1 := cell_of_block hx 1
  have hxc2 := cell_of_block hx 2
  have hxc3 := cell_of_block hx 3
  have hxc4 := cell_of_block hx 4
  have hxc5 := cell_of_block hx 5
  have hxc6 := cell_of_block hx 6
  have hxc7 := cell_of_block hx 7
  have hxc8 := cell_of_block hx 8
  simp at hxc0 hxc1 hxc2 hxc3 hxc4 hxc5 hxc6 hxc7 hxc8
  have hxf0 := free_of_block hx 0
  have hxf1 := free_of_block hx 1
  have hxf2 := free_of_block hx 2
  have hxf3 := free_of_block hx 3
  have hxf4 := free_of_block hx 4
  have hxf5 := free_of_block hx 5
  have hxf6 := free_of_block hx 6
  have hxf7 := free_of_block hx 7
  have hxf8 := free_of_block hx 8
  clear hx
  clear hA hne hMw hL hLp HA HE C12 C13 H H1 HX HR HZ ol ms i0 i1 u0 u1
  have hne1 : ¬ w.heap.size = w1.heap.size := by omega
  have hne2 : ¬ w1.heap.size = w.heap.size := by omega
  go_region_with (first | (go_at_call 57; refine (HLC.out _ none 0 0 none 0).mono ?_; rintro e w5 ⟨rfl, k5⟩; have kk := (Keeps.drew [] W2).trans k5; have d0 := cell_keeps kk hxc0 (by simp); have d1 := cell_keeps kk hxc1 (by simp); have d2 := cell_keeps kk hxc2 (by simp); have d3 := cell_keeps kk hxc3 (by simp); have d4 := cell_keeps kk hxc4 (by simp); have d5 := cell_keeps kk hxc5 (by simp); have d6 := cell_keeps kk hxc6 (by simp); have d7 := cell_keeps kk hxc7 (by simp); have d8 := cell_keeps kk hxc8 (by simp); have hs5 := (kk.block w.heap.size (Array.getElem?_eq_some_iff.1 HR4.out).1 (by simp)).trans HR4.out; have hsc0 := cell_of_block hs5 0; have hsc1 := cell_of_block hs5 1; have hsc2 := cell_of_block hs5 2; have hsc3 := cell_of_block hs5 3; have hsc4 := cell_of_block hs5 4; have hsc5 := cell_of_block hs5 5; have hsc6 := cell_of_block hs5 6; have hsc7 := cell_of_block hs5 7; have hsc8 := cell_of_block hs5 8; simp at hsc0 hsc1 hsc2 hsc3 hsc4 hsc5 hsc6 hsc7 hsc8; have hsf0 := free_of_block hs5 0; have hsf1 := free_of_block hs5 1; have hsf2 := free_of_block hs5 2; have hsf3 := free_of_block hs5 3; have hsf4 := free_of_block hs5 4; have hsf5 := free_of_block hs5 5; have hsf6 := free_of_block hs5 6; have hsf7 := free_of_block hs5 7; have hsf8 := free_of_block hs5 8; have K5 := Lib.hid kk; clear kk k5 hs5))
  all_goals
    go_wp2_with fail
    refine bodyPost_ret (v := .tuple #[.agg #[.int .u16 s.lp, .int .u16 s.rem, .int .u32 frm, .int .u32 s.next, .int .u8 17, .int .u16 s.told, .int .u16 0, .slice none 0 0, .slice none 0 0], .int .u32 1, .bool true]) (by simp [results, Try.results44, go_sem, hsc0, hsc1, hsc2, hsc3, hsc4, hsc5, hsc6, hsc7, hsc8]) rfl ⟨rfl, ?_⟩
    have KWK := KW4.out.trans K5.out
    exact (((((((((KWK.setCell' (Or.inl (by simp)) _).setCell' (Or.inl (by simp)) _).setCell' (Or.inl (by simp)) _).setCell' (Or.inl (by simp)) _).setCell' (Or.inl (by simp)) _).setCell' (Or.inl (by simp)) _).setCell' (Or.inl (by simp)) _).setCell' (Or.inl (by simp)) _).setCell' (Or.inl (by simp)) _)
end Go.Proofs.Ytgaidloicmkdaaa
