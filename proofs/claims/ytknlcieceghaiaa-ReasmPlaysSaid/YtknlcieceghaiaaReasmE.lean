/-
  The walks of the document's row of places (4): Put. Condition: at most 16384 places, at most 100,000 bytes.
-/
import Derived.Test.YtknlcieceghaiaaReasmD
namespace Go.Proofs.Ytknlcieceghaiaa
open Go.RowKit
set_option linter.unusedVariables false
set_option linter.unusedSimpArgs false

theorem Try.infoBl : (Try.prog.info? 4).map (fun i => (i.zero, i.size, i.bytes)) = some (some (.bool false), 1, 1) := by kernel_rfl
theorem held_of {r r' : RB} (h1 : r'.at_ = r.at_) (h2 : r'.len = r.len) (h3 : r'.g = r.g) : r'.held = r.held := by unfold RB.held RB.heldI; rw [h1, h2, h3]
set_option maxRecDepth 1000000 in
set_option maxHeartbeats 16000000 in
theorem rput_any {w : World} {q : Nat} {J : List Nat} {r : RB} {v1 v2 : Value} (h : RbAt w q J r v1 v2) (ok : r.ok) (hJq : q ∉ J) (a : Int) (ha : U32 a) (A : Option Addr) (m c : Nat) (data : List UInt8) (hd : BytesV w (.slice A m c) data) (hm : m ≤ 100000) :
    Calls Try.prog 17 #[.pointer (some ⟨q, 0, none⟩), .int .u32 a, .slice A m c] w fun e w' =>
      (16 < (r.put a data).held.length → e = .returned (.tuple #[.int .i64 0, .int .i64 7]) ∧ RbAt w' q J r v1 v2 ∧ Keeps [q] w w') ∧
      (¬ 16 < (r.put a data).held.length → ∃ (cn : Nat) (J' : List Nat) (v1' v2' : Value), e = .returned (.tuple #[.int .i64 cn, .int .i64 0]) ∧ cn + cntF r.len r.g = cntF r.len (r.put a data).g ∧ RbAt w' q J' (r.put a data) v1' v2' ∧ (∀ y ∈ J', w.heap.size ≤ y ∧ y < w'.heap.size) ∧ Keeps [q] w w') := by
  have hml := hd.form.1
  obtain ⟨n, hn⟩ : ∃ n, r.len = n := ⟨_, rfl⟩
  have hln := ok.len
  rw [hn] at hln
  obtain ⟨A1, c1, hv1⟩ := h.form1
  obtain ⟨A2, c2, hv2⟩ := h.form2
  rw [hn] at hv1 hv2
  subst hv1 hv2
  obtain ⟨at_, hat⟩ : ∃ a, r.at_ = a := ⟨_, rfl⟩
  obtain ⟨off, hoff⟩ : ∃ o, aheadI at_ a = o := ⟨_, rfl⟩
  have hputr : r.put a data = r.putI off data m := by unfold RB.put; rw [hat, hoff, hml]
  rw [hputr]
  obtain ⟨L, hL⟩ : ∃ L, (r.putI off data m).held.length = L := ⟨_, rfl⟩
  rw [hL]
  have HLEN := Lib.hid hL
  clear hL
  have hob := aheadI_bd at_ a
  rw [hoff] at hob
  obtain ⟨D, hD⟩ : ∃ D, (a - at_) % 4294967296 = D := ⟨_, rfl⟩
  have x1 : IntKind.u32.wrap (a - at_) = D := by rw [← hD]; simp [IntKind.wrap, IntKind.signed, IntKind.bits]
  have x2 : IntKind.i32.wrap D = off := by
    rw [← hoff, ← hD]
    unfold aheadI
    simp [IntKind.wrap, IntKind.signed, IntKind.bits]
    try split <;> omega
  have x3 : IntKind.i64.wrap off = off := IntWalk.i64_in _ (by omega)
  have HIS := Lib.hid h.is
  have HBY := Lib.hid h.by_
  have d0 := h.c0
  rw [hat] at d0
  have d1 := h.c1
  have hlen1 := r.is_len
  have hlen2 := r.by_len
  rw [hn] at hlen1 hlen2
  have HB := Lib.hid h
  have HD := Lib.hid hd
  have HOFF := Lib.hid hob
  have HML := Lib.hid hml
  have HN := Lib.hid hn
  have HAT := Lib.hid hat
  have HQJ := Lib.hid hJq
  have HU := Lib.hid ok.at_
  clear h ok hd hoff hD hputr hat ha hob hml hJq
  go_enter Try.func17, Try.ntmps17
  go_wp2_with (at_builtin; apply stop_c)
  unfold StopC
  refine app_row (enc := Value.bool) rfl _ _ 30 4 (.bool false) rfl Try.underlying30 Try.infoBl rfl (fun _ => rfl) rfl _ J r.is rfl HIS.out (by omega) ?_
  intro v8 w1 hv8 hk1
  obtain ⟨A8, c8, hv8f, hr8⟩ := HasRow.of_app hv8
  rw [hlen1] at hv8f hr8
  have HR8 := Lib.hid hr8
  have HK1 := Lib.hid hk1
  have HBY1 := Lib.hid (HBY.out.keep0 hk1)
  have d2 : w1.cell? ⟨q, 2, none⟩ = some (.slice A2 n c2) := (HB.out.keep0 hk1).c2
  have d01 : w1.cell? ⟨q, 0, none⟩ = some (.int .u32 at_) := cell_keeps hk1 d0 (by simp)
  clear hv8 hr8 hk1 d0 d1
  subst hv8f
  go_wp2_with (at_builtin; apply stop_c)
  unfold StopC
  refine app_row (enc := u8V) rfl _ _ 22 5 (.int .u8 0) rfl Try.underlying22 Try.infoU8 rfl (fun _ => rfl) rfl _ J r.by_ rfl HBY1.out (by omega) ?_
  intro v9 w2 hv9 hk2
  obtain ⟨A9, c9, hv9f, hr9⟩ := HasRow.of_app hv9
  rw [hlen2] at hv9f hr9
  have HR9 := Lib.hid hr9
  have HR82 := Lib.hid (HR8.out.keep hk2 (by simp))
  have HK2 := Lib.hid (HK1.out.trans hk2)
  have d02 : w2.cell? ⟨q, 0, none⟩ = some (.int .u32 at_) := cell_keeps hk2 d01 (by simp)
  have HNE := Lib.hid (show 0 < n → ∀ g g', A8 = some ⟨g, 0, none⟩ → A9 = some ⟨g', 0, none⟩ → g ≠ g' ∧ w.heap.size ≤ g ∧ w.heap.size ≤ g' from fun hp g g' e1 e2 => by
    have h1 := HR8.out.lt hp e1
    have h2 := hr9.lt hp e2
    have h3 := HK1.out.size
    omega)
  clear hv9 hr9 hk2 d01 d2 HR8 HBY1
  subst hv9f
  go_wp2_with fail
  clear x1 x2 x3 d02
  go_loopg [10, 12] (m + 1) (fun gk nv iv wx => ∃ (i cn : Nat), nv = .int .i64 cn ∧ iv = .int .i64 i ∧ i ≤ m ∧ gk = m + 1 - i ∧ Hid (cn ≤ i ∧ cn + cntF n r.g = cntF n (r.putI off data i).g ∧ HasRow Value.bool 4 wx w.heap.size A8 n c8 (r.putI off data i).is ∧ HasRow u8V 5 wx w1.heap.size A9 n c9 (r.putI off data i).by_ ∧ Keeps [] w wx))
  case atStart =>
    obtain ⟨z1, z2, z3⟩ := putI_zero r off data
    exact ⟨0, 0, rfl, rfl, Nat.zero_le _, rfl, Lib.hid ⟨Nat.le_refl _, by rw [z3, Nat.zero_add], HR82.out.congr z1, HR9.out.congr z2, HK2.out⟩⟩
  case round =>
    obtain ⟨i, cn, rfl, rfl, hi, hg, HI⟩ := hrel
    subst hg
    rcases Nat.lt_or_ge i m with hlt | hge
    · have hltI : (i : Int) < (m : Int) := by omega
      have hi0 : (0 : Int) ≤ (i : Int) := by omega
      have hib : i ≤ 100000 := by omega
      have hcb : cn ≤ 100000 := by have := HI.out.1; omega
      by_cases hin : 0 ≤ off + (i : Int) ∧ off + (i : Int) < (n : Int)
      · obtain ⟨j, hj⟩ : ∃ j : Nat, off + (i : Int) = (j : Int) := ⟨(off + (i : Int)).toNat, by omega⟩
        have hjn : j < n := by omega
        have hjI : (j : Int) < (n : Int) := by omega
        have hj0 : (0 : Int) ≤ (j : Int) := by omega
        have hw : IntKind.i64.wrap (off + (i : Int)) = (j : Int) := by rw [hj]; exact IntWalk.i64_in _ (by omega)
        obtain ⟨x, hx⟩ : ∃ x, data[i]? = some x := ⟨_, List.getElem?_eq_getElem (by have := HML.out; omega)⟩
        obtain ⟨ga, oa, hA, hca⟩ := HD.out.get (by omega)
        subst hA
        have hda := hca i x hx
        have hga : ga < w.heap.size := lt_of_cell hda
        have cd : wr.cell? ⟨ga, oa + i, none⟩ = some (.int .u8 (x.toNat : Int)) := cell_keeps HI.out.2.2.2.2 hda (by simp)
        obtain ⟨g8, hA8, hb8, hm8⟩ := HI.out.2.2.1.2.2.2 (by omega)
        obtain ⟨g9, hA9, hb9, hm9⟩ := HI.out.2.2.2.1.2.2.2 (by omega)
        have hne := HNE.out (by omega) g8 g9 hA8 hA9
        subst hA8 hA9
        obtain ⟨b, hb⟩ : ∃ b, (r.putI off data i).g j = b := ⟨_, rfl⟩
        have hjl : j < (r.putI off data i).len := by show j < r.len; have := HN.out; omega
        have c8j := hm8.cell (RB.is_at hjl)
        rw [hb] at c8j
        obtain ⟨p1, p2⟩ := c8j
        cases b with
        | true =>
          have HS := Lib.hid (putI_same (r := r) (off := off) (data := data) (i := i) (fun j' hj' _ => by
            have : j' = j := by omega
            rw [this]; exact hb))
          have HJ := Lib.hid hj
          clear hj hin hb hca hda hx hm8 hm9 hga hne hb8 hb9 p2
          go_wp2_with fail
          go_roundg (m + 1 - (i + 1))
          case measure => omega
          case rel => exact ⟨i + 1, cn, rfl, by simp, by omega, rfl, Lib.hid ⟨by have := HI.out.1; omega, by have h1 := HS.out.2.2; have h2 := HN.out; rw [h2] at h1; rw [h1]; exact HI.out.2.1, HI.out.2.2.1.congr HS.out.1, HI.out.2.2.2.1.congr HS.out.2.1, HI.out.2.2.2.2⟩⟩
        | false =>
          obtain ⟨s1, s2, s3⟩ := putI_set hj (by have := HN.out; omega) hx hb
          have hmm8 := hm8.set j true
          have k8 : Keeps [g8] wr (wr.setCell ⟨g8, j, none⟩ (.bool true)) := Keeps.setCell wr ⟨g8, j, none⟩ (.bool true)
          have hm93 := hm9.keep k8 (by simp; exact fun e => hne.1 e.symm)
          obtain ⟨p3, p4⟩ := hm93.cell (RB.by_at hjl)
          have cd3 : (wr.setCell ⟨g8, j, none⟩ (.bool true)).cell? ⟨ga, oa + i, none⟩ = some (.int .u8 (x.toNat : Int)) := cell_keeps k8 cd (by simp; omega)
          have hmm9 := hm93.set j x
          have k9 : Keeps [g9] (wr.setCell ⟨g8, j, none⟩ (.bool true)) ((wr.setCell ⟨g8, j, none⟩ (.bool true)).setCell ⟨g9, j, none⟩ (u8V x)) := Keeps.setCell _ ⟨g9, j, none⟩ (u8V x)
          have HREL := Lib.hid (show cn + 1 ≤ i + 1 ∧ cn + 1 + cntF n r.g = cntF n (r.putI off data (i + 1)).g ∧ HasRow Value.bool 4 ((wr.setCell ⟨g8, j, none⟩ (.bool true)).setCell ⟨g9, j, none⟩ (u8V x)) w.heap.size (some ⟨g8, 0, none⟩) n c8 (r.putI off data (i + 1)).is ∧ HasRow u8V 5 ((wr.setCell ⟨g8, j, none⟩ (.bool true)).setCell ⟨g9, j, none⟩ (u8V x)) w1.heap.size (some ⟨g9, 0, none⟩) n c9 (r.putI off data (i + 1)).by_ ∧ Keeps [] w ((wr.setCell ⟨g8, j, none⟩ (.bool true)).setCell ⟨g9, j, none⟩ (u8V x)) from by
            have hI := HI.out
            refine ⟨by omega, ?_, ?_, ?_, ?_⟩
            · have h2 := HN.out
              rw [h2] at s3
              rw [s3]
              have := hI.2.1
              omega
            · refine ⟨by rw [s1, List.length_set]; exact hI.2.2.1.1, hI.2.2.1.2.1, hI.2.2.1.2.2.1, fun _ => ⟨g8, rfl, hne.2.1, ?_⟩⟩
              rw [s1]
              exact hmm8.keep k9 (by simp; exact hne.1)
            · refine ⟨by rw [s2, List.length_set]; exact hI.2.2.2.1.1, hI.2.2.2.1.2.1, hI.2.2.2.1.2.2.1, fun _ => ⟨g9, rfl, hb9, ?_⟩⟩
              rw [s2]
              exact hmm9
            · exact (hI.2.2.2.2.setCell' (p := ⟨g8, j, none⟩) (.inl hne.2.1) _).setCell' (p := ⟨g9, j, none⟩) (.inl hne.2.2) _)
          have HJ := Lib.hid hj
          clear hj hin hb hca hda hx hm8 hm9 hga hne hb8 hb9 s1 s2 s3 hmm8 hmm9 hm93 k8 k9 HI
          go_wp2_with fail
          go_roundg (m + 1 - (i + 1))
          case measure => omega
          case rel => exact ⟨i + 1, cn + 1, by simp, by simp, by omega, rfl, HREL⟩
      · have HS := Lib.hid (putI_same (r := r) (off := off) (data := data) (i := i) (fun j' hj' hl' => by have := HN.out; omega))
        have hw : IntKind.i64.wrap (off + (i : Int)) = off + (i : Int) := IntWalk.i64_in _ (by have := HOFF.out; omega)
        by_cases hneg : 0 ≤ off + (i : Int)
        · have hbig : ¬ off + (i : Int) < (n : Int) := by omega
          clear hin
          go_wp2_with fail
          go_roundg (m + 1 - (i + 1))
          case measure => omega
          case rel => exact ⟨i + 1, cn, rfl, by simp, by omega, rfl, Lib.hid ⟨by have := HI.out.1; omega, by have h1 := HS.out.2.2; have h2 := HN.out; rw [h2] at h1; rw [h1]; exact HI.out.2.1, HI.out.2.2.1.congr HS.out.1, HI.out.2.2.2.1.congr HS.out.2.1, HI.out.2.2.2.2⟩⟩
        · clear hin
          go_wp2_with fail
          go_roundg (m + 1 - (i + 1))
          case measure => omega
          case rel => exact ⟨i + 1, cn, rfl, by simp, by omega, rfl, Lib.hid ⟨by have := HI.out.1; omega, by have h1 := HS.out.2.2; have h2 := HN.out; rw [h2] at h1; rw [h1]; exact HI.out.2.1, HI.out.2.2.1.congr HS.out.1, HI.out.2.2.2.1.congr HS.out.2.1, HI.out.2.2.2.2⟩⟩
    · have hltI : ¬ (i : Int) < (m : Int) := by omega
      obtain rfl : i = m := by omega
      have hI := HI.out
      have hbr := HB.out.keep0 hI.2.2.2.2
      have hh0 : wr.heap[q]? = some (.cells #[.int .u32 at_, .slice A1 n c1, .slice A2 n c2] 49 (0, 0)) := by
        have := hbr.head
        rw [HAT.out] at this
        exact this
      have hh1 : (wr.setCell ⟨q, 1, none⟩ (.slice A8 n c8)).heap[q]? = some (.cells #[.int .u32 at_, .slice A8 n c8, .slice A2 n c2] 49 (0, 0)) := heap_setCell_self hh0 1 _
      obtain ⟨J8, hJ8, hrow8⟩ := hI.2.2.1.row
      obtain ⟨J9, hJ9, hrow9⟩ := hI.2.2.2.1.row
      have hqw : q < w.heap.size := lt_of_block HB.out.head
      have k1 : Keeps [q] wr (wr.setCell ⟨q, 1, none⟩ (.slice A8 n c8)) := Keeps.setCell wr ⟨q, 1, none⟩ _
      have hq8 : ∀ y ∈ J8, y ∉ [q] := fun y hy => by have := hJ8 y hy; simp; omega
      have hq9 : ∀ y ∈ J9, y ∉ [q] := fun y hy => by have := hJ9 y hy; have := HK1.out.size; simp; omega
      have hqJ : ∀ y ∈ J, y ∉ [q] := fun y hy hm => HQJ.out (by rw [← List.mem_singleton.1 hm]; exact hy)
      have hb1 : RbAt (wr.setCell ⟨q, 1, none⟩ (.slice A8 n c8)) q (J ++ J8) ⟨r.at_, r.len, (r.putI off data i).g, r.y⟩ (.slice A8 n c8) (.slice A2 n c2) :=
        ⟨by rw [HAT.out]; exact hh1, (hrow8.keep k1 hq8).mono (fun y hy => List.mem_append_right _ hy), (hbr.by_.keep k1 hqJ).mono (fun y hy => List.mem_append_left _ hy)⟩
      have HHELD := Lib.hid (rheld_any hb1 ⟨HU.out, by have := HN.out; show r.len ≤ 16384; omega⟩)
      rw [held_of (r := r.putI off data i) (r' := ⟨r.at_, r.len, (r.putI off data i).g, r.y⟩) rfl rfl rfl] at HHELD
      rw [HLEN.out] at HHELD
      have HH1 := Lib.hid hh1
      have d1r : wr.cell? ⟨q, 1, none⟩ = some (.slice A1 n c1) := cell_of_block hh0 1
      have z1r : wr.frozen? ⟨q, 1, none⟩ = false := free_of_block hh0 1
      have HROW8 := Lib.hid (And.intro hq8 hrow8)
      have HROW9 := Lib.hid (And.intro hq9 hrow9)
      have HJJ := Lib.hid (And.intro hJ8 (And.intro hJ9 hqJ))
      have HK1R := Lib.hid k1
      have HCN := Lib.hid hI.2.1
      have HKW := Lib.hid hI.2.2.2.2
      have HLL := Lib.hid (show L ≤ 16384 from by rw [← HLEN.out]; exact Nat.le_trans (heldI_len _ _) (by have := HN.out; show r.len ≤ 16384; omega))
      clear hI hbr hh0 hh1 hJ8 hrow8 hJ9 hrow9 k1 hq8 hq9 hqJ hb1 HI
      go_wp2_with fail
      refine HHELD.out.mono ?_
      rintro e w5 ⟨v, rfl, hv, k5⟩
      obtain ⟨Ah, ch, rfl⟩ := own_form hv
      have hh5 := (k5.block q (lt_of_block HH1.out) (by simp)).trans HH1.out
      have HH5 := Lib.hid hh5
      have HK5 := Lib.hid (HK1R.out.trans (k5.mono (by simp)))
      have e1 : w5.cell? ⟨q, 1, none⟩ = some (.slice A8 n c8) := cell_of_block hh5 1
      have e2 : w5.cell? ⟨q, 2, none⟩ = some (.slice A2 n c2) := cell_of_block hh5 2
      have f1 : w5.frozen? ⟨q, 1, none⟩ = false := free_of_block hh5 1
      have f2 : w5.frozen? ⟨q, 2, none⟩ = false := free_of_block hh5 2
      clear hv k5 hh5 HHELD d1r z1r
      by_cases hfull : 16 < L
      · have hfI : (16 : Int) < (L : Int) := by omega
        go_wp2_with fail
        go_ret2
        have h6 := heap_setCell_self HH5.out 1 (.slice A1 n c1)
        have k6 : Keeps [q] w5 (w5.setCell ⟨q, 1, none⟩ (.slice A1 n c1)) := Keeps.setCell w5 ⟨q, 1, none⟩ _
        have kk : Keeps [q] w (w5.setCell ⟨q, 1, none⟩ (.slice A1 n c1)) := ((HKW.out.mono (by simp)).trans HK5.out).trans k6
        exact ⟨fun _ => ⟨rfl, ⟨by rw [HAT.out]; exact h6, HIS.out.keep kk HJJ.out.2.2, HBY.out.keep kk HJJ.out.2.2⟩, kk⟩, fun hno => absurd hfull hno⟩
      · have hfI : ¬ (16 : Int) < (L : Int) := by omega
        go_wp2_with fail
        go_ret2
        have h6 := heap_setCell_self HH5.out 2 (.slice A9 n c9)
        have k6 : Keeps [q] w5 (w5.setCell ⟨q, 2, none⟩ (.slice A9 n c9)) := Keeps.setCell w5 ⟨q, 2, none⟩ _
        have kk : Keeps [q] w (w5.setCell ⟨q, 2, none⟩ (.slice A9 n c9)) := ((HKW.out.mono (by simp)).trans HK5.out).trans k6
        have k56 := HK5.out.trans k6
        refine ⟨fun hyes => absurd hyes hfull, fun _ => ⟨cn, J8 ++ J9, _, _, rfl, by have h1 := HN.out; rw [h1]; exact HCN.out, ⟨by have h7 := h6; rw [← HAT.out] at h7; exact h7, (HROW8.out.2.keep k56 HROW8.out.1).mono (fun y hy => List.mem_append_left _ hy), (HROW9.out.2.keep k56 HROW9.out.1).mono (fun y hy => List.mem_append_right _ hy)⟩, fun y hy => ?_, kk⟩⟩
        have hz := k56.size
        rcases List.mem_append.1 hy with hy | hy
        · have := HJJ.out.1 y hy
          omega
        · have := HJJ.out.2.1 y hy
          have := HK1.out.size
          omega
end Go.Proofs.Ytknlcieceghaiaa
