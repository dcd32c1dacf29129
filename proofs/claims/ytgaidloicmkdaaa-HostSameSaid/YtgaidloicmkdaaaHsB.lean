/-
  The walks of package host: open at an ACK that is not accepted; Read. Condition: a host's numbers are in the ranges of their kinds.
-/
import Derived.Test.YtgaidloicmkdaaaHsA
namespace Go.Proofs.Ytgaidloicmkdaaa
open Go.RowKit
set_option linter.unusedVariables false
set_option linter.unusedSimpArgs false
attribute [local go_sem ↓] Go.wp_at_zero Go.wp_at_succ

set_option maxRecDepth 100000 in
set_option maxHeartbeats 1000000 in
theorem hopen_ack_far {w : World} {b : Nat} {s : HS} (h : HostAt w b s) (ok : s.Ok) (g : Seg) (gok : g.Ok) (A1 A2 : Option Addr) (n1 c1 c2 : Nat) (hfl : g.fl = 16) (hst : s.st = 4) (hdl : g.data.length ≤ 100000) (now : Int)
    (hacc : acceptI g.sq (lenI g) s.next s.free = false) :
    Calls Try.prog 35 #[.pointer (some ⟨b, 0, none⟩), segV g (.slice A1 n1 c1) (.slice A2 g.data.length c2), .int .u64 now] w fun e w' => ∃ v, e = .returned v ∧ OneSeg w' v s.ack (.slice none 0 0) (.slice none 0 0) ∧ HostAt w' b s ∧ Keeps [b] w w' := by
  have LN : 0 ≤ lenI g ∧ lenI g ≤ 4294967295 := by unfold lenI bI; split <;> split <;> omega
  have hft := ok.free
  have hrm := ok.room
  have hin := ok.inn
  have hrd := ok.read
  have FR := Lib.hid (show s.free = s.room - (s.inn.length - s.read) from rfl)
  unfold HS.free at hft
  have HL := Lib.hid (fun W => length_any W g gok A1 A2 n1 c1 c2)
  have hac : ∀ W, Calls Try.prog 56 #[.int .u32 g.sq, .int .i64 (lenI g), .int .u32 s.next, .int .u32 (s.room - (s.inn.length - s.read))] W fun e w' => e = .returned (.bool false) ∧ Keeps [] W w' := by
    intro W
    have := accept_any W g.sq (lenI g) s.next s.free gok.sq ok.next LN.1 LN.2
    rw [hacc] at this
    exact this
  have HAC := Lib.hid hac
  have OK := Lib.hid ok
  have H := Lib.hid h
  have hlt := h.lt
  have b1 : (bits .and .u8 16 1 != 0) = false := by decide
  have b2 : (bits .and .u8 16 4 != 0) = false := by decide
  have HST := Lib.hid hst
  obtain ⟨ln0, ln1⟩ := LN
  clear h ok gok hacc hac hst
  unfold segV at *
  rw [hfl] at *
  go_enter Try.func35, Try.ntmps35
  go_upto_region 1 with fail
  refine wp_gn (fun W hW => ?_)
  have hx : W.heap[w.heap.size]? = some (.cells #[.int .u16 g.sp, .int .u16 g.dp, .int .u32 g.sq, .int .u32 g.ak, .int .u8 16, .int .u16 g.wn, .int .u16 g.ug, .slice A1 n1 c1, .slice A2 g.data.length c2] 30 (0, 0)) := by rw [hW]; exact (MapKept.heap_alloc w _).1
  have k0 : Keeps [] w W := by rw [hW]; exact Keeps.alloc _ _ _
  have H0 := Lib.hid (H.out.keep0 k0)
  have K0 := Lib.hid (k0.mono (T := [b]) (by simp))
  have HX := Lib.hid hx
  clear hW k0
  have hxc0 := cell_of_block hx 0
  have hxc1 := cell_of_block hx 1
  have hxc2 := cell_of_block hx 2
  have hxc3 := cell_of_block hx 3
  have hxc4 := cell_of_block hx 4
  have hxc5 := cell_of_block hx 5
  have hxc6 := cell_of_block hx 6
  have hxc7 := cell_of_block hx 7
  have hxc8 := cell_of_block hx 8
  simp at hxc0 hxc1 hxc2 hxc3 hxc4 hxc5 hxc6 hxc7 hxc8
  clear hx
  have c5 := H0.out.c5
  have c15 := H0.out.c15
  have c16 := H0.out.c16
  have c17 := H0.out.c17
  have s1 : IntKind.i64.wrap ((s.inn.length : Int) - s.read) = s.inn.length - s.read := by rw [IntKind.wrap_i64]; omega
  have s2 : IntKind.i64.wrap (s.room - ((s.inn.length : Int) - s.read)) = s.room - ((s.inn.length : Int) - s.read) := by rw [IntKind.wrap_i64]; omega
  have s3 : IntKind.u32.wrap (s.room - ((s.inn.length : Int) - s.read)) = s.room - ((s.inn.length : Int) - s.read) := by rw [IntKind.wrap_u32]; omega
  go_wp2_with fail
  go_quiet (fail)
  clear s1 s2 s3
  go_wp2_with fail
  have hl1 : IntKind.i64.wrap (lenI g) = lenI g := by rw [IntKind.wrap_i64]; omega
  go_region_held3 (fun w' => w'.cell? ⟨w.heap.size, 0, none⟩ = some (.int .u16 g.sp) ∧ w'.cell? ⟨w.heap.size, 1, none⟩ = some (.int .u16 g.dp) ∧ w'.cell? ⟨w.heap.size, 2, none⟩ = some (.int .u32 g.sq) ∧ w'.cell? ⟨w.heap.size, 3, none⟩ = some (.int .u32 g.ak) ∧ w'.cell? ⟨w.heap.size, 4, none⟩ = some (.int .u8 16) ∧ w'.cell? ⟨w.heap.size, 5, none⟩ = some (.int .u16 g.wn) ∧ w'.cell? ⟨w.heap.size, 6, none⟩ = some (.int .u16 g.ug) ∧ w'.cell? ⟨w.heap.size, 7, none⟩ = some (.slice A1 n1 c1) ∧ w'.cell? ⟨w.heap.size, 8, none⟩ = some (.slice A2 g.data.length c2) ∧ w'.cell? ⟨b, 15, none⟩ = some (.int .u32 s.next)) ((refine (fun kx => ⟨cell_keeps kx hxc0 (by simp), cell_keeps kx hxc1 (by simp), cell_keeps kx hxc2 (by simp), cell_keeps kx hxc3 (by simp), cell_keeps kx hxc4 (by simp), cell_keeps kx hxc5 (by simp), cell_keeps kx hxc6 (by simp), cell_keeps kx hxc7 (by simp), cell_keeps kx hxc8 (by simp), cell_keeps kx c15 (by simp)⟩ : Keeps [] W _ → _) ?_; (repeat (first | with_reducible assumption | with_reducible exact Keeps.refl _ _ | with_reducible apply Keeps.alloc' | with_reducible apply Keeps.drew' | with_reducible apply Keeps.drewN' | (with_reducible apply Keeps.setCell'; rotate_left; · simp))))) (first | (go_at_call 57; with_reducible refine (HL.out _).mono ?_; rintro e w5 ⟨rfl, k5⟩; have kw5 : Keeps [] W w5 := Keeps.trans (by (repeat (first | with_reducible assumption | with_reducible exact Keeps.refl _ _ | with_reducible apply Keeps.alloc' | with_reducible apply Keeps.drew' | with_reducible apply Keeps.drewN' | (with_reducible apply Keeps.setCell'; rotate_left; · simp)))) k5; clear k5) | (go_at_call 56; with_reducible refine (HAC.out _).mono ?_; rintro e w6 ⟨rfl, k6⟩; have kw6 : Keeps [] W w6 := Keeps.trans (by (repeat (first | with_reducible assumption | with_reducible exact Keeps.refl _ _ | with_reducible apply Keeps.alloc' | with_reducible apply Keeps.drew' | with_reducible apply Keeps.drewN' | (with_reducible apply Keeps.setCell'; rotate_left; · simp)))) k6; clear k6))
  clear hl1 hxc0 hxc1 hxc2 hxc3 hxc4 hxc5 hxc6 hxc7 hxc8 c5 c15 c16 c17 kw5
  have hx6 := (kw6.block _ (Array.getElem?_eq_some_iff.1 HX.out).1 (by simp)).trans HX.out
  have H6 := Lib.hid (H0.out.keep0 kw6)
  have K6 := Lib.hid (K0.out.trans (kw6.mono (by simp)))
  clear kw6
  have hx6c0 := cell_of_block hx6 0
  have hx6c1 := cell_of_block hx6 1
  have hx6c2 := cell_of_block hx6 2
  have hx6c3 := cell_of_block hx6 3
  have hx6c4 := cell_of_block hx6 4
  have hx6c5 := cell_of_block hx6 5
  have hx6c6 := cell_of_block hx6 6
  have hx6c7 := cell_of_block hx6 7
  have hx6c8 := cell_of_block hx6 8
  simp at hx6c0 hx6c1 hx6c2 hx6c3 hx6c4 hx6c5 hx6c6 hx6c7 hx6c8
  clear hx6
  have c8 := H6.out.c8
  rw [HST.out] at c8
  have HA := Lib.hid (fun W (k : Keeps [] w6 W) => hacks_any (H6.out.keep0 k) OK.out)
  go_wp2_with fail
  refine (HA.out _ (by (repeat (first | with_reducible assumption | with_reducible exact Keeps.refl _ _ | with_reducible apply Keeps.alloc' | with_reducible apply Keeps.drew' | with_reducible apply Keeps.drewN' | (with_reducible apply Keeps.setCell'; rotate_left; · simp))))).mono ?_
  rintro e w7 ⟨v, rfl, ho, k7⟩
  have R := Lib.hid (show OneSeg w7 v s.ack (.slice none 0 0) (.slice none 0 0) ∧ HostAt w7 b s ∧ Keeps [b] w w7 from ⟨ho, H6.out.keep0 (Keeps.trans (by (repeat (first | with_reducible assumption | with_reducible exact Keeps.refl _ _ | with_reducible apply Keeps.alloc' | with_reducible apply Keeps.drew' | with_reducible apply Keeps.drewN' | (with_reducible apply Keeps.setCell'; rotate_left; · simp)))) k7), K6.out.trans ((Keeps.trans (by (repeat (first | with_reducible assumption | with_reducible exact Keeps.refl _ _ | with_reducible apply Keeps.alloc' | with_reducible apply Keeps.drew' | with_reducible apply Keeps.drewN' | (with_reducible apply Keeps.setCell'; rotate_left; · simp)))) k7 : Keeps [] w6 w7).mono (by simp))⟩)
  clear ho k7 c8
  go_wp2_with fail
  go_ret
  exact ⟨v, rfl, R.out⟩
/-- string(b), whatever its length. -/
theorem BytesV.str0 {P : Program} {w : World} {A : Option Addr} {n c : Nat} {l : List UInt8} (h : BytesV w (.slice A n c) l) (src dst e : TypeId) (hs : P.underlying src = some (.slice e)) (he : P.underlying e = some (.int .u8)) (hd : P.underlying dst = some .string) :
    (convert src dst (.slice A n c)).run P w = .ok (.string ⟨l.toArray⟩) w := by
  rcases Nat.eq_zero_or_pos n with h0 | h0
  · have hl : l = [] := List.eq_nil_of_length_eq_zero (by have := h.form.1; omega)
    subst hl
    subst h0
    cases A with
    | none =>
      rw [run_convert_bytes_string w src dst e none 0 c hs he hd]
      simp [Conv.bytesToString]
      rfl
    | some a => exact run_convert_bytes_back w src dst e a c [] hs he hd (fun j hj => by simp at hj)
  · exact h.str src dst e hs he hd h0
theorem BytesV.fromXe {w : World} {A X : Option Addr} {n c k e : Nat} {l : List UInt8} (h : BytesV w (.slice A n c) l) (hk : k ≤ e) (he : e ≤ n) (hX : (if c = k then A else Option.map (fun x : Addr => x.add k) A) = X) : BytesV w (.slice X (e - k) (c - k)) ((l.drop k).take (e - k)) := by
  have hf := h.form
  by_cases h0 : e = k
  · subst h0
    rw [Nat.sub_self]
    exact BytesV.empty _ (by omega)
  · obtain ⟨g, o, rfl, _⟩ := h.get (by omega)
    rw [if_neg (by omega)] at hX
    exact h.sub hk he X (c - k) (fun _ => by rw [← hX]; simp only [Option.map_some]; congr 1; unfold Addr.add; split <;> simp_all) (by omega) (by omega)
set_option maxRecDepth 100000 in
set_option maxHeartbeats 2000000 in
theorem hread_any {w : World} {b : Nat} {s : HS} (h : HostAt w b s) (ok : s.Ok) (hst : s.st = 4) (hsc : s.scaled = false) (R n m : Nat) (hR : s.read = R) (hn : n ≤ 1000) (hl : s.inn.length ≤ 200) (hm : m = min n (s.inn.length - R)) (ok2 : ({ s with read := ((R + m : Nat) : Int) } : HS).Ok) :
    Calls Try.prog 18 #[.pointer (some ⟨b, 0, none⟩), .int .i64 n] w fun e w' => ∃ v v2, e = .returned (.tuple #[v, v2]) ∧ BytesV w' v ((s.inn.drop R).take m) ∧ HostAt w' b { s with read := ((R + m : Nat) : Int) } ∧ Keeps [b] w w' := by
  have hRL : R ≤ s.inn.length := by have := ok.read; omega
  obtain ⟨X, hX⟩ : ∃ X, (if s.innC = R then s.innA else Option.map (fun x : Addr => x.add R) s.innA) = X := ⟨_, rfl⟩
  obtain ⟨_, hc1, hc2⟩ := h.inn.form
  obtain ⟨T, hT⟩ : ∃ T, R + m = T := ⟨_, rfl⟩
  have hTm : T - R = m := by omega
  rw [hT] at ok2
  have hsub : ∀ W, Keeps [] w W → BytesV W (.slice X (T - R) (s.innC - R)) ((s.inn.drop R).take (T - R)) := fun W k => (h.inn.keep0 k).fromXe (k := R) (e := T) (by omega) (by omega) hX
  have SUB := Lib.hid hsub
  have HC := Lib.hid (fun W (hW : BytesV W (.slice X (T - R) (s.innC - R)) ((s.inn.drop R).take (T - R))) => bclone_any W X (T - R) (s.innC - R) _ hW (by omega))
  rw [hT, ← hTm]
  have HTM := Lib.hid (And.intro hT hTm)
  have H := Lib.hid h
  have OK2 := Lib.hid ok2
  have HN := Lib.hid (hnone_no h (by omega))
  have HTO := Lib.hid (htold_plain h ok hsc)
  have HT2 := Lib.hid (fun W (hW : HostAt W b { s with read := (T : Int) }) => htold_plain hW ok2 hsc)
  have HA2 := Lib.hid (fun W (hW : HostAt W b { s with read := (T : Int) }) => hacks_any hW ok2)
  have HST := Lib.hid hst
  have HRE := Lib.hid hR
  have f2 : ({ s with read := (T : Int) } : HS).free = s.free + m := by unfold HS.free; simp only; omega
  have hrm := ok.room
  have hfr := ok.free
  have hfr2 : s.free ≤ 131072 := by unfold HS.free; omega
  obtain ⟨t0, ht0⟩ : ∃ t0, min s.free 65535 = t0 := ⟨_, rfl⟩
  rw [ht0] at HTO
  have T0 := Lib.hid ht0
  have F2 := Lib.hid f2
  have n1 : decide ((n : Int) < 0) = false := decide_eq_false (by omega)
  have i1 : (0 : Int) ≤ R := by omega
  have i2 : (R : Int) ≤ T := by omega
  have i3 : (T : Int) ≤ s.innC := by omega
  have i3b : (R : Int) ≤ s.innC := by omega
  have i4b : (R : Int) + m = T := by omega
  have i4 : IntKind.i64.wrap (T : Int) = T := by rw [IntKind.wrap_i64]; omega
  have i5 : IntKind.i64.wrap ((s.inn.length : Int) - R) = (s.inn.length : Int) - R := by rw [IntKind.wrap_i64]; omega
  have i6 : (if (s.inn.length : Int) - R < n then (s.inn.length : Int) - R else n) = m := by split <;> omega
  clear h ok hsub ok2 hst hR hm f2 hfr hfr2 hrm ht0 hc2 hT hTm hc1 hRL
  go_enter Try.func18, Try.ntmps18
  go_wp2_with fail
  refine HN.out.mono ?_
  rintro e w1 ⟨rfl, rfl⟩
  go_wp2_with fail
  refine HTO.out.mono ?_
  rintro e w1 ⟨rfl, dk, rfl⟩
  go_upto_region 4 with fail
  refine wp_gn (fun W1 hW1 => ?_)
  have k1 : Keeps [] w W1 := by rw [hW1]; exact Keeps.drewN [] w dk
  have H1 := Lib.hid (H.out.keep0 k1)
  have K1 := Lib.hid k1
  have c16 := H1.out.c16
  have c17 := H1.out.c17
  rw [HRE.out] at c17
  clear hW1 k1
  go_region_held3 (fun w' => w'.cell? ⟨b, 16, none⟩ = some (.slice s.innA s.inn.length s.innC) ∧ w'.cell? ⟨b, 17, none⟩ = some (.int .i64 R)) ((refine (fun kx => ⟨cell_keeps kx c16 (by simp), cell_keeps kx c17 (by simp)⟩ : Keeps [] W1 _ → _) ?_; (repeat (first | with_reducible assumption | with_reducible exact Keeps.refl _ _ | with_reducible apply Keeps.alloc' | with_reducible apply Keeps.drew' | with_reducible apply Keeps.drewN' | (with_reducible apply Keeps.setCell'; rotate_left; · simp))))) (fail)
  go_upto_region 5 with fail
  refine wp_gn (fun W2 hW2 => ?_)
  have k2 : Keeps [] W1 W2 := by rw [hW2]; (repeat (first | with_reducible assumption | with_reducible exact Keeps.refl _ _ | with_reducible apply Keeps.alloc' | with_reducible apply Keeps.drew' | with_reducible apply Keeps.drewN' | (with_reducible apply Keeps.setCell'; rotate_left; · simp)))
  have K2 := Lib.hid (K1.out.trans k2)
  have H2 := Lib.hid (H1.out.keep0 k2)
  have c16 := H2.out.c16
  have c17 := H2.out.c17
  rw [HRE.out] at c17
  clear hW2 k2
  go_region_held3 (fun w' => w'.cell? ⟨b, 16, none⟩ = some (.slice s.innA s.inn.length s.innC) ∧ w'.cell? ⟨b, 17, none⟩ = some (.int .i64 R)) ((refine (fun kx => ⟨cell_keeps kx c16 (by simp), cell_keeps kx c17 (by simp)⟩ : Keeps [] W2 _ → _) ?_; (repeat (first | with_reducible assumption | with_reducible exact Keeps.refl _ _ | with_reducible apply Keeps.alloc' | with_reducible apply Keeps.drew' | with_reducible apply Keeps.drewN' | (with_reducible apply Keeps.setCell'; rotate_left; · simp))))) (first | (go_at_call 37; (with_reducible refine (HC.out _ (SUB.out _ (K2.out.trans (by (repeat (first | with_reducible assumption | with_reducible exact Keeps.refl _ _ | with_reducible apply Keeps.alloc' | with_reducible apply Keeps.drew' | with_reducible apply Keeps.drewN' | (with_reducible apply Keeps.setCell'; rotate_left; · simp))))))).mono ?_); rintro e w3 ⟨v, rfl, b3, k3⟩; have kw3 : Keeps [] W2 w3 := Keeps.trans (by (repeat (first | with_reducible assumption | with_reducible exact Keeps.refl _ _ | with_reducible apply Keeps.alloc' | with_reducible apply Keeps.drew' | with_reducible apply Keeps.drewN' | (with_reducible apply Keeps.setCell'; rotate_left; · simp)))) k3; clear k3) | fail)
  have H3 := Lib.hid (H2.out.keep0 kw3)
  have K3 := Lib.hid ((K2.out.trans kw3).mono (T := [b]) (by simp))
  have B3 := Lib.hid b3
  have c17 := H3.out.c17
  have f17 := H3.out.fz 17
  rw [HRE.out] at c17
  clear kw3 b3 c16
  go_upto_region 7 with fail
  refine wp_gn (fun W4 hW4 => ?_)
  have h4 : HostAt W4 b { s with read := (T : Int) } := by rw [hW4]; exact H3.out.s17 _
  have k4 : Keeps [b] w3 W4 := by rw [hW4]; exact Keeps.setCell w3 ⟨b, 17, none⟩ _
  have H4 := Lib.hid h4
  have K4 := Lib.hid (K3.out.trans k4)
  have B4 := Lib.hid (B3.out.keep k4 H3.out.no)
  have c8 := H4.out.c8
  rw [show ({ s with read := (T : Int) } : HS).st = 4 from HST.out] at c8
  clear hW4 h4 k4 c17 f17
  by_cases h0 : t0 = 0
  · have e0 : (t0 != 0) = false := by rw [h0]; rfl
    have hfz : s.free = 0 := by have := T0.out; omega
    have hm1 : min (({ s with read := (T : Int) } : HS).free) 65535 = m := by rw [F2.out, hfz]; omega
    clear h0 hfz
    go_wp2_with fail
    refine (HT2.out _ H4.out).mono ?_
    rintro e w5 ⟨rfl, d5, rfl⟩
    rw [hm1]
    by_cases hm0 : m = 0
    · have e1 : ((m : Int) == 0) = true := by simp [hm0]
      have K5 := Lib.hid (K4.out.trans (Keeps.drewN [b] W4 d5))
      have H5 := Lib.hid (H4.out.keep0 (Keeps.drewN [] W4 d5))
      have B5 := Lib.hid (B4.out.keep0 (Keeps.drewN [] W4 d5))
      clear hm0
      go_wp2_with fail
      go_ret2
      exact ⟨_, _, rfl, B5.out, H5.out, K5.out⟩
    · have e1 : ((m : Int) == 0) = false := by simp [hm0]
      have c8 := (H4.out.keep0 (Keeps.drewN [] W4 d5)).c8
      rw [show ({ s with read := (T : Int) } : HS).st = 4 from HST.out] at c8
      clear hm0
      go_wp2_with fail
      refine (HA2.out _ (H4.out.keep0 (Keeps.drewN [] W4 d5))).mono ?_
      rintro e w6 ⟨v6, rfl, _, k6⟩
      have kk := (Keeps.drewN [] W4 d5).trans k6
      have K5 := Lib.hid (K4.out.trans (kk.mono (by simp)))
      have H5 := Lib.hid (H4.out.keep0 kk)
      have B5 := Lib.hid (B4.out.keep0 kk)
      clear kk k6
      go_wp2_with fail
      go_ret2
      exact ⟨_, _, rfl, B5.out, H5.out, K5.out⟩
  · have e0 : (t0 != 0) = true := by simp [h0]
    clear h0
    go_wp2_with fail
    go_ret2
    exact ⟨_, _, rfl, B4.out, H4.out, K4.out⟩
end Go.Proofs.Ytgaidloicmkdaaa
