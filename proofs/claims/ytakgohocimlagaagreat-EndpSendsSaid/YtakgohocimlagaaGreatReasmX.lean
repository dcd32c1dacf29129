/-
  The walks of package reasm (7): Put. Condition: the buffer's numbers are in the ranges of their kinds; at most 2^20 bytes.
-/
import Derived.Test.YtakgohocimlagaaGreatReasmU
namespace Go.Proofs.YtakgohocimlagaaGreat
open Go.RowKit
set_option linter.unusedVariables false
set_option linter.unusedSimpArgs false

set_option maxRecDepth 100000 in
set_option maxHeartbeats 400000 in
theorem bput_any {w : World} {b mb : Nat} {s : BS} (h : BuffAt w b mb s) (ok : s.ok) (a : Int) (ha : U32 a) (A : Option Addr) (n c : Nat) (data : List UInt8) (hv : BytesV w (.slice A n c) data) (hn : n ≤ 1048576) :
    Calls Tryz.prog 68 #[.pointer (some ⟨b, 0, none⟩), .int .u32 a, .slice A n c] w fun e w' =>
      (16 < s.holes a data ∧ e = .returned (.tuple #[.int .i64 0, .int .i64 7]) ∧ Keeps [] w w') ∨
      (s.holes a data ≤ 16 ∧ e = .returned (.tuple #[.int .i64 ((s.anew a data).length - s.m.length), .int .i64 0]) ∧ Keeps [b] w w' ∧ ∃ mb', BuffAt w' b mb' { s with m := s.anew a data } ∧ w.heap.size ≤ mb') := by
  have hl := hv.form.1
  subst hl
  obtain ⟨cu, cp, ce⟩ := BS.cut_in ok ha data hn
  have hfu := cu
  have hab := aheadI_bd s.next (s.cut a data).1
  have hkeys := BS.anew_keys ok ha data hn
  have hnd : (AL.keys (s.anew a data)).Nodup := insL_nd _ _ ok.nd
  have hmlen : s.m.length ≤ 16384 := keys_len ok.nd (fun k hk => by have := ok.keys k hk; have := ok.t0; have := ok.r; omega)
  have t0 := ok.t0
  have tr := ok.tr
  have r16 := ok.r
  have hlt := lt_of_block h.head
  have hlm := h.map.lt
  have HB := Lib.hid (fun (X : World) (k : Keeps [] w X) => (h.keep k (by simp) (by simp) : BuffAt X b mb s))
  have HV := Lib.hid hv
  have OK := Lib.hid ok
  have q0 : (w.alloc (.cells #[.pointer (some ⟨b, 0, none⟩)] 63)).cell? ⟨w.heap.size, 0, none⟩ = some (.pointer (some ⟨b, 0, none⟩)) := cell_of_block (MapKept.heap_alloc w (.cells #[.pointer (some ⟨b, 0, none⟩)] 63)).1 0
  have KA := Lib.hid (Keeps.alloc [] w (.cells #[.pointer (some ⟨b, 0, none⟩)] 63))
  have HCU := Lib.hid cu
  have HKEYS := Lib.hid hkeys
  have HND := Lib.hid hnd
  have FC := Lib.hid (show s.cut a data = cutI a data s.next (s.room - s.taken) from rfl)
  have FP := Lib.hid (show s.place a data = s.taken + aheadI s.next (s.cut a data).1 from rfl)
  have FA := Lib.hid (show s.anew a data = insL s.m (s.place a data) (s.cut a data).2 from rfl)
  have FH := Lib.hid (show s.holes a data = cntR s.taken (runsOf (s.anew a data)) from rfl)
  have hwr : IntKind.u32.wrap (s.room - s.taken) = s.room - s.taken := by
    have : IntKind.u32.wrap (s.room - s.taken) = (s.room - s.taken) % 4294967296 := by simp [IntKind.wrap, IntKind.bits, IntKind.signed]
    omega
  clear h ok hv cu hkeys hnd hfu
  go_enter Tryz.func68, Tryz.ntmps68
  go_wp2_with fail
  refine (bnone_any (HB.out _ (Keeps.alloc _ _ _))).mono ?_
  rintro e w1 ⟨rfl, rfl⟩
  go_wp2_with fail
  go_region_held3 (fun w' => w'.cell? ⟨w.heap.size, 0, none⟩ = some (.pointer (some ⟨b, 0, none⟩)))
    (first | with_reducible assumption | exact cell_keeps k3 q0 (by simp) | go_keep)
    (first
      | (go_at_call 36; refine (bnext_any (HB.out _ (Keeps.alloc _ _ _).drew') OK.out).mono ?_; rintro e w' ⟨rfl, rfl⟩)
      | (go_at_call 35; refine (broom_any (HB.out _ (Keeps.alloc _ _ _).drew') OK.out).mono ?_; rintro e w' ⟨rfl, nd, rfl⟩)
      | (go_at_call 90; refine (cut_any _ a A data.length c data s.next (s.room - s.taken) (HV.out.keep0 ((Keeps.alloc _ _ _).drewN' _)) ha s.next_bd (by omega) (by omega) (by omega)).mono ?_; rintro e w3 ⟨v, rfl, hbv, k3⟩))
  obtain ⟨A2, c2, rfl⟩ := hbv.slice
  have K3 : Keeps [] w w3 := ((Keeps.alloc [] w _).drewN' _).trans k3
  have q3 := cell_keeps k3 q0 (by simp)
  have hz31 : w.heap.size + 1 ≤ w3.heap.size := by have := k3.size; simpa using this
  have hb3 := HB.out w3 K3
  have t1 := hb3.c1
  have HB3 := Lib.hid hb3
  have KK3 := Lib.hid K3
  have HBV := Lib.hid hbv
  have hfc : (cutI a data s.next (s.room - s.taken)).1 = (s.cut a data).1 := by rw [FC.out]
  have hfd : (cutI a data s.next (s.room - s.taken)).2 = (s.cut a data).2 := by rw [FC.out]
  rw [hfd] at HBV
  have hln : (cutI a data s.next (s.room - s.taken)).2.length = (s.cut a data).2.length := by rw [hfd]
  simp only [hfc, hln]
  clear q0 k3 hbv hb3 K3 hfc hfd hln
  go_wp2_with fail
  go_region_held3 (fun w' => w'.cell? ⟨w.heap.size, 0, none⟩ = some (.pointer (some ⟨b, 0, none⟩)) ∧ w'.cell? ⟨b, 1, none⟩ = some (.int .i64 s.taken)) (go_keep)
    (first
      | (go_at_call 36; refine (bnext_any (HB.out _ (KK3.out.drew')) OK.out).mono ?_; rintro e w' ⟨rfl, rfl⟩)
      | (go_at_call 91; refine (ahead_any _ s.next (s.cut a data).1 s.next_bd HCU.out).mono ?_; rintro e w' ⟨rfl, rfl⟩))
  have t3 := HB3.out.c3
  go_wp2_with fail
  refine (clone_m (HB3.out.map.of_heap (w' := w3.drew) rfl)).mono ?_
  rintro e w4 ⟨rfl, hm4, k4⟩
  have cp2 := cp
  have ce2 := ce
  rw [FP.out] at cp2 ce2
  have hz3 : w3.drew.heap.size = w3.heap.size := rfl
  rw [hz3] at hm4
  have k4 : Keeps [] w3 w4 := (Keeps.drew [] w3).trans k4
  have hz4 := k4.size
  have HM4 := Lib.hid hm4
  have K4 := Lib.hid k4
  have hPl : (s.cut a data).2.length ≤ 16384 := by omega
  have Q3 := Lib.hid (cell_keeps k4 q3 (by simp))
  have TB3 := Lib.hid (HB3.out.keep k4 (by simp) (by simp))
  clear hm4 k4 q3 t1 t3 HB3
  generalize hP : (s.cut a data).2 = P at *
  generalize hJ : aheadI s.next (s.cut a data).1 = J at *
  go_wp2_with fail
  go_loopw [48] (fun i wr => ∃ k : Nat, i = .int .i64 k ∧ k ≤ P.length ∧ MapAt wr w3.heap.size .i64 u8V (insL s.m (s.taken + J) (P.take k)) ∧ Keeps [w3.heap.size] w4 wr) (fun i _ => P.length - (intOf i).toNat)
  case atStart => exact ⟨0, rfl, by omega, by simpa [insL] using HM4.out, Keeps.refl _ _⟩
  case round =>
    obtain ⟨k, rfl, hk, hm, hkp⟩ := hrel
    by_cases hlt : k < P.length
    · obtain ⟨x, hx⟩ : ∃ x, P[k]? = some x := ⟨P[k], List.getElem?_eq_getElem hlt⟩
      obtain ⟨g, o, rfl, hcell⟩ := HBV.out.get (by omega)
      have hg := lt_of_cell (hcell k x hx)
      simp only at hg
      have hcw : wr.cell? ⟨g, o + k, none⟩ = some (.int .u8 (x.toNat : Int)) := cell_keeps hkp (cell_keeps K4.out (hcell k x hx) (by simp)) (by simp; omega)
      have hsn : insL s.m (s.taken + J) (P.take (k + 1)) = ins1 (insL s.m (s.taken + J) (P.take k)) (s.taken + J + k) x := by
        rw [List.take_add_one, hx]
        simp only [Option.toList]
        rw [insL_snoc]
        congr 2
        simp; omega
      have SN := Lib.hid hsn
      have hlk := hm.look (P := Tryz.prog) Tryz.underlying92 Tryz.underlying3 Tryz.zeroU8 (s.taken + J + k) wr rfl true
      generalize insL s.m (s.taken + J) (P.take k) = mk at *
      have HM := Lib.hid hm
      have KP := Lib.hid hkp
      have hlt' : (k : Int) < P.length := by omega
      clear hsn hm hkp hcell hx
      cases hf : AL.find (s.taken + J + k) mk with
      | some y =>
        rw [hf] at hlk
        simp only [Option.map_some, Option.getD_some, Option.isSome_some, if_true] at hlk
        have FI := Lib.hid (show ins1 mk (s.taken + J + k) x = mk by unfold ins1; rw [hf])
        clear hf
        go_wp2_with fail
        go_roundw
        case rel => exact ⟨k + 1, by simp, by omega, by rw [SN.out, FI.out]; exact HM.out, KP.out⟩
        case measure => simp [intOf]; omega
      | none =>
        rw [hf] at hlk
        simp only [Option.map_none, Option.getD_none, Option.isSome_none, if_true] at hlk
        have FI := Lib.hid (show ins1 mk (s.taken + J + k) x = AL.put (s.taken + J + k) x mk by unfold ins1; rw [hf])
        clear hf
        go_wp2_with (at_mapUpdate; refine wpList_mapUpdate_at (kk := .i64) (enc := u8V) rfl _ _ _ rfl Tryz.underlying92 Tryz.underlying3 rfl (s.taken + J + k) x rfl rfl HM.out ?_)
        intro w5 hm5 ht5
        have KK := Lib.hid (KP.out.trans (Keeps.turned ht5))
        have HM5 := Lib.hid hm5
        clear hm5 ht5
        go_wp2_with fail
        go_roundw
        case rel => exact ⟨k + 1, by simp, by omega, by rw [SN.out, FI.out]; exact HM5.out, KK.out⟩
        case measure => simp [intOf]; omega
    · obtain rfl : k = P.length := by omega
      rw [List.take_length] at hm
      have hma : MapAt wr w3.heap.size .i64 u8V (s.anew a data) := by rw [FA.out, FP.out]; exact hm
      have hbr := TB3.out.keep hkp (by simp; have := KK3.out.size; omega) (by simp; have := KK3.out.size; omega)
      have hq1 := cell_keeps hkp Q3.out (by simp; have := KK3.out.size; omega)
      have HMA := Lib.hid hma
      have HBR := Lib.hid hbr
      have HQ1 := Lib.hid hq1
      have KP := Lib.hid hkp
      have NS := Lib.hid (show w3.heap.size < wr.heap.size from hma.lt)
      have NW := Lib.hid KK3.out.size
      clear hm hma hbr hq1 hkp
      go_wp2_with fail
      refine calls_gn fun W hW => ?_
      have q2 : W.heap[wr.heap.size]? = some (.cells #[.int .i64 0] 3 (0, 0)) := by rw [hW]; exact (MapKept.heap_alloc wr _).1
      have kW : Keeps [] wr W := by rw [hW]; exact Keeps.alloc _ _ _
      clear hW
      have hbW := HBR.out.keep kW (by simp) (by simp)
      have q1W := cell_keeps kW HQ1.out (by simp)
      have hmW := HMA.out.of_heap (kW.block _ NS.out (by simp))
      have nz2 := NS.out
      have nz1 := hz31
      refine (pieces_Put hmW HND.out (fun k hk => by have := HKEYS.out k hk; omega) (put_inv hbW q1W q2 (by omega) (by omega) (by omega))).mono ?_
      rintro e w7 ⟨rfl, W2, kW2, hc7, k7⟩
      rw [← FH.out] at hc7
      have hle := cntR_le s.taken (runsOf (s.anew a data))
      have hc8 := cell_of_block hc7 0
      simp at hc8
      have K7 := Lib.hid (kW.trans kW2)
      have k8 : Keeps [wr.heap.size] wr w7 := ((kW.trans kW2).mono (by simp)).trans k7
      have K8 := Lib.hid k8
      have hb8 := HBR.out.keep k8 (by simp; omega) (by simp; omega)
      have hm8 := HMA.out.of_heap (k8.block _ NS.out (by simp; omega))
      have hq8 := cell_keeps k8 HQ1.out (by simp; omega)
      have hkf : Keeps [] w w7 := ((((KK3.out.trans K4.out).mono (T := [w3.heap.size, wr.heap.size]) (by simp)).trans (KP.out.mono (by simp))).trans (k8.mono (by simp))).fresh (by intro x hx hlt; simp at hx; omega)
      have KF := Lib.hid hkf
      have HB8 := Lib.hid hb8
      have HM8 := Lib.hid hm8
      have h3 := hb8.c3
      clear hc7 k8 hkf hb8 hm8 kW kW2 k7 hbW q1W hmW q2
      by_cases hho : 16 < s.holes a data
      · have hho' : (16 : Int) < s.holes a data := by omega
        go_wp2_with fail
        go_ret2
        left
        exact ⟨hho, rfl, KF.out⟩
      · have hho' : (s.holes a data : Int) ≤ 16 := by omega
        go_wp2_with fail
        have l1 : (Builtin.len_ #[92] 3 #[.map (some w3.heap.size)]).run Tryz.prog w7 = .ok (.int .i64 (s.anew a data).length) w7 := HM8.out.len (P := Tryz.prog) Tryz.underlying92 3
        have l2 : (Builtin.len_ #[92] 3 #[.map (some mb)]).run Tryz.prog w7 = .ok (.int .i64 s.m.length) w7 := HB8.out.map.len (P := Tryz.prog) Tryz.underlying92 3
        have L1 := Lib.hid (show (Builtin.len_ #[92] 3 #[.map (some w3.heap.size)]).run Tryz.prog w7.drew = .ok (.int .i64 (s.anew a data).length) w7.drew from (HM8.out.of_heap (w' := w7.drew) rfl).len (P := Tryz.prog) Tryz.underlying92 3)
        have L2 := Lib.hid (show (Builtin.len_ #[92] 3 #[.map (some mb)]).run Tryz.prog w7.drew = .ok (.int .i64 s.m.length) w7.drew from (HB8.out.map.of_heap (w' := w7.drew) rfl).len (P := Tryz.prog) Tryz.underlying92 3)
        have hal : (s.anew a data).length ≤ 16384 := keys_len HND.out (fun k hk => by have := HKEYS.out k hk; omega)
        have hsw : IntKind.i64.wrap (((s.anew a data).length : Int) - s.m.length) = (s.anew a data).length - s.m.length := IntWalk.i64_in _ (by omega)
        go_region_held3 (fun w' => w'.cell? ⟨w.heap.size, 0, none⟩ = some (.pointer (some ⟨b, 0, none⟩)) ∧ w'.cell? ⟨b, 3, none⟩ = some (.map (some mb)) ∧ (Builtin.len_ #[92] 3 #[.map (some w3.heap.size)]).run Tryz.prog w' = .ok (.int .i64 (s.anew a data).length) w' ∧ (Builtin.len_ #[92] 3 #[.map (some mb)]).run Tryz.prog w' = .ok (.int .i64 s.m.length) w') ((go_split_ands; refine ⟨by go_keep, by go_keep, ?_, ?_⟩ <;> first | exact L1.out | exact L2.out | with_reducible assumption)) (fail)
        have z3 := HB8.out.fz 3
        have SC := Lib.hid (heap_setCell_self HB8.out.head 3 (.map (some w3.heap.size)))
        have MS := Lib.hid (HM8.out.of_heap (Below.heap_setCell w7.drew ⟨b, 3, none⟩ (.map (some w3.heap.size)) w3.heap.size (by show ¬ w3.heap.size = b; omega)))
        clear l1 l2 L1 L2
        go_wp2_with fail
        go_ret2
        right
        exact ⟨by omega, rfl, (((KF.out.drew').mono (T := [b]) (by simp)).setCell' (Or.inr (by simp)) _), w3.heap.size, ⟨SC.out, MS.out⟩, by omega⟩
end Go.Proofs.YtakgohocimlagaaGreat
