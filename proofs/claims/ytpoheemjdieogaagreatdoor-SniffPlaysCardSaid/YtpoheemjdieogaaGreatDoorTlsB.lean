/-
  The walk of tls.looker's body. Condition: the looker lies in memory as LkAt says.
-/
import Derived.Test.YtpoheemjdieogaaGreatDoorTlsX
namespace Go.Proofs.YtpoheemjdieogaaGreatDoor
open Go.RowKit Go.Lib
set_option linter.unusedVariables false
set_option linter.unusedSimpArgs false

section
variable {W0 : World} {B r lb g0 : Nat} {A : Option Addr} {m c : Nat} {bs : List UInt8} {es : List Nat} {e : Nat}
set_option maxRecDepth 100000 in
theorem b4_any (bx : Nat) (w : World) (s : LS) (h : LkAt W0 B r lb g0 A m c es e s w) (hbx : w.cell? ⟨bx, 0, none⟩ = some (.pointer (some ⟨lb, 0, none⟩))) (n : Nat) :
    Calls Tryz.prog 126 #[.int .i64 n, .pointer (some ⟨bx, 0, none⟩)] w fun en w' => en = .returned (.bool (decide (n = e - s.at_))) ∧ Keeps [] w w' := by
  have HLT := Lib.hid (lleft_any w s h)
  clear h
  obtain ⟨d, hd⟩ : ∃ d, e - s.at_ = d := ⟨_, rfl⟩
  rw [hd] at HLT ⊢
  have hb : ((n : Int) == (d : Int)) = decide (n = d) := by
    by_cases h : n = d
    · simp [h]
    · have : ¬ (n : Int) = (d : Int) := by omega
      simp [h, this]
  go_enter Tryz.func126, Tryz.ntmps126
  go_wp2_with fail
  refine HLT.out.mono ?_
  rintro en w2 ⟨rfl, k2⟩
  have K2 := Lib.hid k2
  clear k2 HLT
  go_wp2_with fail
  go_ret
  exact ⟨rfl, K2.out⟩
theorem bodyL_parts {e : Nat} {s : LS} {res : Except Int LS} (h : bodyL bs e s = res) : (match skipL bs 34 e s with
  | .error c => .error c
  | .ok s1 =>
    match someL bs 1 e (fun n _ => decide (n ≤ 32)) (fun n e' t => skipL bs n e' t) s1 with
    | .error c => .error c
    | .ok s2 =>
      match someL bs 2 e (fun n _ => decide (2 ≤ n ∧ n % 2 = 0)) (fun n e' t => skipL bs n e' t) s2 with
      | .error c => .error c
      | .ok s3 =>
        match someL bs 1 e (fun n _ => decide (1 ≤ n)) (fun n e' t => skipL bs n e' t) s3 with
        | .error c => .error c
        | .ok s4 => if e ≤ s4.at_ then .ok s4 else someL bs 2 e (fun n left => decide (n = left)) (fun _ e' t => extsL bs e' t) s4) = res := h
set_option maxRecDepth 100000 in
set_option maxHeartbeats 8000000 in
theorem body_any (hx : Cxt W0 r lb g0 A m c bs) (hL : CxL W0 r lb g0) (hB : B ≤ W0.heap.size) (w : World) (s : LS) (h : LkAt W0 B r lb g0 A m c es e s w) (hes : es.length ≤ 40) (z : Value) :
    Calls Tryz.prog 88 #[.pointer (some ⟨lb, 0, none⟩), z] w fun en w' => Out W0 B r lb g0 A m c es e (bodyL bs e s) en w' := by
  obtain ⟨res, hr0⟩ : ∃ res, bodyL bs e s = res := ⟨_, rfl⟩
  have hres := bodyL_parts hr0
  rw [hr0]
  clear hr0
  obtain ⟨bx, hnb⟩ : ∃ bx, w.heap.size = bx := ⟨_, rfl⟩
  obtain ⟨w1, hw1⟩ : ∃ w1, w.alloc (.cells #[.pointer (some ⟨lb, 0, none⟩)] 115) = w1 := ⟨_, rfl⟩
  have k1 : Keeps [] w w1 := by rw [← hw1]; exact Keeps.alloc [] w _
  obtain ⟨g1, hg1, hgs1, kp1, hx1, h1⟩ := h.rebase hx k1
  have hb1 : w1.cell? ⟨bx, 0, none⟩ = some (.pointer (some ⟨lb, 0, none⟩)) := by rw [← hw1, ← hnb]; exact cell_of_block (MapKept.heap_alloc w _).1 0
  have hwl : lb < w.heap.size := Nat.lt_of_lt_of_le hx.l0 h.kp.size
  have hwr : r < w.heap.size := Nat.lt_of_lt_of_le hx.r0 h.kp.size
  have HBX := Lib.hid (Box.at (r := r) (lb := lb) (g1 := g1) hb1 (by omega) (by omega) (by omega))
  have HX1 := Lib.hid hx1
  have H1 := Lib.hid h1
  have HL1 := Lib.hid (hL.rebase kp1 hg1)
  have HG1 := Lib.hid (And.intro kp1 hg1)
  have HB1 := Lib.hid (Nat.le_trans hB kp1.size)
  have cb := HBX.out w1 (Keeps.refl _ _)
  clear h hx hL hB k1 hg1 hgs1 kp1 hx1 h1 hwl hwr hb1
  have HSK := Lib.hid (skip_any HX1.out w1 s H1.out 34 (by omega))
  go_enter Tryz.func88, Tryz.ntmps88
  go_wp2_with fail
  cases hso : skipL bs 34 e s with
  | error k =>
    rw [hso] at hres HSK
    subst hres
    refine HSK.out.mono ?_
    rintro en w' ⟨rfl, h'⟩
    have H' := Lib.hid h'
    clear h' HSK hso
    go_wp2_with fail
    exact ⟨rfl, Out.back (x := .error k) HG1.out.1 HG1.out.2 ⟨rfl, H'.out⟩⟩
  | ok s1 =>
    rw [hso] at hres HSK
    simp only at hres
    refine HSK.out.mono ?_
    rintro en w2 ⟨rfl, h'⟩
    have H2 := Lib.hid h'
    have cb2 := HBX.out w2 h'.kp
    clear h' HSK hso
    have HSO := Lib.hid (some_any HX1.out HB1.out w2 s1 H2.out 1 (by omega) (by omega) (fun n _ => decide (n ≤ 32)) (fun n e' t => skipL bs n e' t) 123 122 #[] #[] #[.pointer (some ⟨lb, 0, none⟩)] #[]
      (enters Tryz.func123 (by kernel_rfl) (by kernel_rfl)) (enters Tryz.func122 (by kernel_rfl) (by kernel_rfl))
      (fun v s' w' _ _ => (b1_any w' v).mono fun en w'' ⟨he, hw⟩ => ⟨he, by rw [hw]; exact Keeps.refl _ _⟩)
      (fun v s' w' hv16 hv hl => skip_any HX1.out w' s' hl v (by omega)))
    go_wp2_with fail
    cases hso : someL bs 1 e (fun n _ => decide (n ≤ 32)) (fun n e' t => skipL bs n e' t) s1 with
    | error k =>
      rw [hso] at hres HSO
      subst hres
      refine HSO.out.mono ?_
      rintro en w' ⟨rfl, h'⟩
      have H' := Lib.hid h'
      clear h' HSO hso
      go_wp2_with fail
      exact ⟨rfl, Out.back (x := .error k) HG1.out.1 HG1.out.2 ⟨rfl, H'.out⟩⟩
    | ok s2 =>
      rw [hso] at hres HSO
      simp only at hres
      refine HSO.out.mono ?_
      rintro en w3 ⟨rfl, h'⟩
      have H3 := Lib.hid h'
      have cb3 := HBX.out w3 h'.kp
      clear h' HSO hso
      have HSO := Lib.hid (some_any HX1.out HB1.out w3 s2 H3.out 2 (by omega) (by omega) (fun n _ => decide (2 ≤ n ∧ n % 2 = 0)) (fun n e' t => skipL bs n e' t) 124 122 #[] #[] #[.pointer (some ⟨lb, 0, none⟩)] #[]
        (enters Tryz.func124 (by kernel_rfl) (by kernel_rfl)) (enters Tryz.func122 (by kernel_rfl) (by kernel_rfl))
        (fun v s' w' _ _ => (b2_any w' v).mono fun en w'' ⟨he, hw⟩ => ⟨he, by rw [hw]; exact Keeps.refl _ _⟩)
        (fun v s' w' hv16 hv hl => skip_any HX1.out w' s' hl v (by omega)))
      go_wp2_with fail
      cases hso : someL bs 2 e (fun n _ => decide (2 ≤ n ∧ n % 2 = 0)) (fun n e' t => skipL bs n e' t) s2 with
      | error k =>
        rw [hso] at hres HSO
        subst hres
        refine HSO.out.mono ?_
        rintro en w' ⟨rfl, h'⟩
        have H' := Lib.hid h'
        clear h' HSO hso
        go_wp2_with fail
        exact ⟨rfl, Out.back (x := .error k) HG1.out.1 HG1.out.2 ⟨rfl, H'.out⟩⟩
      | ok s3 =>
        rw [hso] at hres HSO
        simp only at hres
        refine HSO.out.mono ?_
        rintro en w4 ⟨rfl, h'⟩
        have H4 := Lib.hid h'
        have cb4 := HBX.out w4 h'.kp
        clear h' HSO hso
        have HSO := Lib.hid (some_any HX1.out HB1.out w4 s3 H4.out 1 (by omega) (by omega) (fun n _ => decide (1 ≤ n)) (fun n e' t => skipL bs n e' t) 125 122 #[] #[] #[.pointer (some ⟨lb, 0, none⟩)] #[]
          (enters Tryz.func125 (by kernel_rfl) (by kernel_rfl)) (enters Tryz.func122 (by kernel_rfl) (by kernel_rfl))
          (fun v s' w' _ _ => (b3_any w' v).mono fun en w'' ⟨he, hw⟩ => ⟨he, by rw [hw]; exact Keeps.refl _ _⟩)
          (fun v s' w' hv16 hv hl => skip_any HX1.out w' s' hl v (by omega)))
        go_wp2_with fail
        cases hso : someL bs 1 e (fun n _ => decide (1 ≤ n)) (fun n e' t => skipL bs n e' t) s3 with
        | error k =>
          rw [hso] at hres HSO
          subst hres
          refine HSO.out.mono ?_
          rintro en w' ⟨rfl, h'⟩
          have H' := Lib.hid h'
          clear h' HSO hso
          go_wp2_with fail
          exact ⟨rfl, Out.back (x := .error k) HG1.out.1 HG1.out.2 ⟨rfl, H'.out⟩⟩
        | ok s4 =>
          rw [hso] at hres HSO
          simp only at hres
          refine HSO.out.mono ?_
          rintro en w5 ⟨rfl, h'⟩
          have H5 := Lib.hid h'
          have cb5 := HBX.out w5 h'.kp
          clear h' HSO hso
          have HLT := Lib.hid (lleft_any w5 s4 H5.out)
          by_cases h0 : e ≤ s4.at_
          · rw [if_pos h0] at hres
            subst hres
            have h0' : e - s4.at_ = 0 := by omega
            rw [h0'] at HLT
            go_wp2_with fail
            refine HLT.out.mono ?_
            rintro en w6 ⟨rfl, k6⟩
            have H6 := Lib.hid (H5.out.keep0 k6)
            clear k6 HLT
            go_wp2_with fail
            go_end0
            exact Out.back HG1.out.1 HG1.out.2 ⟨rfl, H6.out⟩
          · rw [if_neg h0] at hres
            obtain ⟨d, hd⟩ : ∃ d, e - s4.at_ = d := ⟨_, rfl⟩
            have hd0 : (0 : Int) < (d : Int) := by omega
            rw [hd] at HLT
            clear hd
            go_wp2_with fail
            refine HLT.out.mono ?_
            rintro en w6 ⟨rfl, k6⟩
            have H6 := Lib.hid (H5.out.keep0 k6)
            have cb6 := HBX.out w6 H6.out.kp
            clear k6 HLT
            have HSO := Lib.hid (some_any HX1.out HB1.out w6 s4 H6.out 2 (by omega) (by omega) (fun n left => decide (n = left)) (fun _ e' t => extsL bs e' t) 126 127 #[] #[.pointer (some ⟨bx, 0, none⟩)] #[.pointer (some ⟨lb, 0, none⟩)] #[]
              (enters Tryz.func126 (by kernel_rfl) (by kernel_rfl)) (enters Tryz.func127 (by kernel_rfl) (by kernel_rfl))
              (fun v s' w' _ hl => b4_any bx w' s' hl (HBX.out w' hl.kp) v)
              (fun v s' w' hv16 hv hl => exts_any HX1.out HL1.out HB1.out w' s' hl (by rw [List.length_append]; simp; omega) _))
            go_wp2_with fail
            cases hso : someL bs 2 e (fun n left => decide (n = left)) (fun _ e' t => extsL bs e' t) s4 with
            | error k =>
              rw [hso] at hres HSO
              subst hres
              refine HSO.out.mono ?_
              rintro en w' ⟨rfl, h'⟩
              have H' := Lib.hid h'
              clear h' HSO hso
              go_wp2_with fail
              exact ⟨rfl, Out.back (x := .error k) HG1.out.1 HG1.out.2 ⟨rfl, H'.out⟩⟩
            | ok s5 =>
              rw [hso] at hres HSO
              subst hres
              refine HSO.out.mono ?_
              rintro en w7 ⟨rfl, h'⟩
              have H7 := Lib.hid h'
              clear h' HSO hso
              go_wp2_with fail
              go_end0
              exact Out.back (x := .ok s5) HG1.out.1 HG1.out.2 ⟨rfl, H7.out⟩
end
end Go.Proofs.YtpoheemjdieogaaGreatDoor
