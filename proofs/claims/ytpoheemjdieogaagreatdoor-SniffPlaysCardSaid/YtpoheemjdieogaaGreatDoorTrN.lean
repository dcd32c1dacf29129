/-
  The walk of the document's look of TLS: names. Condition: the look lies in memory as RkAt says.
-/
import Derived.Test.YtpoheemjdieogaaGreatDoorTrW
import Derived.Test.YtpoheemjdieogaaGreatDoorFoldR
import Derived.Test.YtpoheemjdieogaaGreatDoorSnQ
namespace Go.Proofs.YtpoheemjdieogaaGreatDoor
open Go.RowKit Go.Lib
set_option linter.unusedVariables false
set_option linter.unusedSimpArgs false

theorem passR_in {bs : List UInt8} {T e : Nat} {s : RS} (h : (passR bs T e s).over = false) : s.over = false ∧ T ≤ e ∧ T ≤ bs.length ∧ passR bs T e s = { s with i := T } := by
  unfold passR at h ⊢
  cases ho : s.over with
  | true => rw [if_pos ho] at h; rw [h] at ho; cases ho
  | false =>
    rw [if_neg (by simp [ho])] at h ⊢
    by_cases h1 : e < T
    · rw [if_pos h1] at h; simp [RS.over, RS.bad] at h
    · rw [if_neg h1] at h ⊢
      by_cases h2 : bs.length < T
      · rw [if_pos h2] at h; simp [RS.over, RS.few] at h
      · rw [if_neg h2]
        exact ⟨rfl, by omega, by omega, rfl⟩
theorem cntR_ge {bs : List UInt8} {size e : Nat} {s : RS} : (cntR bs size e s).2.i ≤ (cntR bs size e s).1 := by
  unfold cntR
  split
  · exact Nat.le_refl _
  · split
    · exact Nat.le_refl _
    · show (numR bs size e s).2.i ≤ (numR bs size e s).2.i + _; omega
def RS.toL (s : RS) (seen : Bool) : LS := ⟨s.i, s.name, s.nd, seen⟩
theorem toL_toR {s : RS} {b : Bool} (h : s.over = false) : (s.toL b).toR = s := by
  obtain ⟨i, sh, wr, nm, nd⟩ := s
  unfold RS.over at h
  cases sh <;> cases wr <;> first | rfl | cases h
theorem nameR_on {bs : List UInt8} {e : Nat} {s : RS} (h : s.over = false) (h2 : (nameR bs e s).over = false) : s.i < (nameR bs e s).i := by
  have hc := name_corr bs e (s.toL false)
  rw [toL_toR h] at hc
  cases hn : numL bs 1 e (s.toL false) with
  | error c =>
    rw [hn] at hc
    have hc : Corr (.error c) (nameR bs e s) := hc
    have := Corr.over hc
    rw [h2] at this; cases this
  | ok y =>
    obtain ⟨sort, s1⟩ := y
    rw [hn] at hc
    have hc : Corr (someL bs 2 e anyQ (fun n _ t => nameL bs sort n t) s1) (nameR bs e s) := hc
    cases hs : someL bs 2 e anyQ (fun n _ t => nameL bs sort n t) s1 with
    | error c =>
      rw [hs] at hc
      have := Corr.over hc
      rw [h2] at this; cases this
    | ok s2 =>
      rw [hs] at hc
      have hc : nameR bs e s = s2.toR := hc
      have h3 := someL_at (fun n e' t t' h => nameL_at h) hs
      have h4 := (numL_at hn).1
      rw [hc]
      show s.i < s2.at_
      have h5 : (s.toL false).at_ = s.i := rfl
      omega
theorem nameR_eq {bs : List UInt8} {e : Nat} {s s1 s2 s3 : RS} {sort tt : Nat} (h1 : numR bs 1 e s = (sort, s1)) (h2 : cntR bs 2 e s1 = (tt, s2)) (h3 : passR bs tt e s2 = s3) :
    nameR bs e s = if s3.over = true then s3 else if sort = 0 ∧ s3.nd = false then (match foldA ((bs.drop s2.i).take (tt - s2.i)) with
      | none => s3.bad
      | some low => { s3 with name := ⟨low.toArray⟩, nd := true }) else s3 := by
  unfold nameR
  rw [h1]
  dsimp only
  rw [h2]
  dsimp only
  rw [h3]
  rfl
theorem BytesV.fromXe {w : World} {A X : Option Addr} {n c k e : Nat} {l : List UInt8} (h : BytesV w (.slice A n c) l) (hk : k ≤ e) (he : e ≤ n) (hX : (if c = k then A else Option.map (fun x : Addr => x.add k) A) = X) : BytesV w (.slice X (e - k) (c - k)) ((l.drop k).take (e - k)) := by
  have hf := h.form
  by_cases h0 : e = k
  · subst h0
    rw [Nat.sub_self]
    exact BytesV.empty _ (by omega)
  · obtain ⟨g, o, rfl, _⟩ := h.get (by omega)
    rw [if_neg (by omega)] at hX
    exact h.sub hk he X (c - k) (fun _ => by rw [← hX]; simp only [Option.map_some]; congr 1; unfold Addr.add; split <;> simp_all) (by omega) (by omega)
theorem namesR_end {bs : List UInt8} {k e : Nat} {s : RS} (h : s.over = true ∨ e ≤ s.i) : namesR bs k e s = s := by
  cases k with
  | zero => rfl
  | succ k => rw [namesR, if_pos h]
section
variable {bs : List UInt8} {p : Nat} {A : Option Addr} {m c : Nat}
set_option maxRecDepth 100000 in
set_option maxHeartbeats 8000000 in
theorem rnames_any (w : World) (s : RS) (h : RkAt bs w p A m c s) (e : Nat) (he : e ≤ 1073841824) :
    Calls Tryz.prog 95 #[.pointer (some ⟨p, 0, none⟩), .int .i64 e] w fun en w' => en = .returned (.tuple #[]) ∧ RkAt bs w' p A m c (namesR bs (e - s.i) e s) ∧ Keeps [p] w w' := by
  obtain ⟨R, hR⟩ : ∃ R, namesR bs (e - s.i) e s = R := ⟨_, rfl⟩
  rw [hR]
  have H := Lib.hid (And.intro h hR)
  obtain ⟨k0, hk0⟩ : ∃ k0, e - s.i = k0 := ⟨_, rfl⟩
  rw [hk0] at H
  have HK0 := Lib.hid (show e - s.i ≤ k0 by omega)
  clear h hR hk0
  go_enter Tryz.func95, Tryz.ntmps95
  go_wp2_with fail
  go_loopg [4, 5, 6, 7, 8] (k0 + 1) (fun g _ _ _ _ _ wx => ∃ (k : Nat) (t : RS), g = k + 1 ∧ Hid (RkAt bs wx p A m c t ∧ namesR bs k e t = R ∧ (t.over = true ∨ e - t.i ≤ k) ∧ Keeps [p] w wx))
  case atStart => exact ⟨k0, s, rfl, Lib.hid ⟨H.out.1, H.out.2, .inr HK0.out, Keeps.refl _ _⟩⟩
  case round =>
    obtain ⟨k, t, hg, HI⟩ := hrel
    subst hg
    have HO := Lib.hid (rover_any wr t HI.out.1)
    cases ho : t.over with
    | true =>
      rw [ho] at HO
      have HF := Lib.hid (show RkAt bs wr p A m c R by rw [← HI.out.2.1, namesR_end (.inl ho)]; exact HI.out.1)
      clear ho
      go_wp2_with fail
      refine HO.out.mono ?_
      rintro en w1 ⟨rfl, h1⟩
      obtain rfl := h1.symm
      clear HO h1
      go_wp2_with fail
      go_end0
      exact ⟨rfl, HF.out, HI.out.2.2.2⟩
    | false =>
      rw [ho] at HO
      obtain ⟨i0, hi0⟩ : ∃ i0, t.i = i0 := ⟨_, rfl⟩
      have ci : wr.cell? ⟨p, 1, none⟩ = some (.int .i64 (i0 : Int)) := by rw [← hi0]; exact cell_of_block HI.out.1.at_ 1
      by_cases hie : e ≤ i0
      · have f1 : ¬ (i0 : Int) < (e : Int) := by omega
        have HF := Lib.hid (show RkAt bs wr p A m c R by rw [← HI.out.2.1, namesR_end (.inr (by omega))]; exact HI.out.1)
        clear ho hie hi0
        go_wp2_with fail
        refine HO.out.mono ?_
        rintro en w1 ⟨rfl, h1⟩
        obtain rfl := h1.symm
        clear HO h1
        go_wp2_with fail
        go_end0
        exact ⟨rfl, HF.out, HI.out.2.2.2⟩
      · have f1 : (i0 : Int) < (e : Int) := by omega
        obtain ⟨k', hk'⟩ : ∃ k', k = k' + 1 := by
          rcases HI.out.2.2.1 with h | h
          · rw [ho] at h; cases h
          · exact ⟨k - 1, by omega⟩
        subst hk'
        have hstep : namesR bs k' e (nameR bs e t) = R := by
          have := HI.out.2.1
          rw [namesR, if_neg (by rintro (h | h); rw [ho] at h; cases h; omega)] at this
          exact this
        have hprog : (nameR bs e t).over = true ∨ e - (nameR bs e t).i ≤ k' := by
          cases hx : (nameR bs e t).over with
          | true => exact .inl rfl
          | false =>
            have h5 := nameR_on ho hx
            rcases HI.out.2.2.1 with h | h
            · rw [ho] at h; cases h
            · exact .inr (by omega)
        have HN := Lib.hid (rnumber_any wr t HI.out.1 1 e (by omega) he)
        have HX := Lib.hid (And.intro hstep hprog)
        obtain ⟨⟨sort, s1⟩, hy1⟩ : ∃ y, numR bs 1 e t = y := ⟨_, rfl⟩
        obtain ⟨⟨T, s2⟩, hy2⟩ : ∃ y, cntR bs 2 e s1 = y := ⟨_, rfl⟩
        obtain ⟨s3, hy3⟩ : ∃ y, passR bs T e s2 = y := ⟨_, rfl⟩
        have hnm := nameR_eq hy1 hy2 hy3
        have hge : s2.i ≤ T := by have := cntR_ge (bs := bs) (size := 2) (e := e) (s := s1); rw [hy2] at this; exact this
        have HC := Lib.hid (fun (w1 : World) (h1 : RkAt bs w1 p A m c s1) => rcount_any w1 s1 h1 2 e (by omega) he)
        have HP := Lib.hid (fun (w1 : World) (h1 : RkAt bs w1 p A m c s2) => rpass_any w1 s2 h1 T e)
        have HE2 := Lib.hid hy2
        have HE3 := Lib.hid hy3
        have HNM := Lib.hid hnm
        have HGE := Lib.hid hge
        rw [hy1] at HN
        dsimp only at HN
        clear ho hie hi0 hstep hprog hy1 hy2 hy3 hnm hge
        go_wp2_with fail
        refine HO.out.mono ?_
        rintro en w1 ⟨rfl, h1⟩
        obtain rfl := h1.symm
        clear HO h1
        go_wp2_with fail
        refine HN.out.mono ?_
        rintro en w1 ⟨rfl, h1, k1⟩
        have HC1 := Lib.hid (HC.out w1 h1)
        rw [HE2.out] at HC1
        dsimp only at HC1
        have K1 := Lib.hid (HI.out.2.2.2.trans k1)
        clear h1 k1 HN HC
        go_wp2_with fail
        refine HC1.out.mono ?_
        rintro en w2 ⟨rfl, h2, k2, hT⟩
        have HP1 := Lib.hid (HP.out w2 h2)
        rw [HE3.out] at HP1
        have K2 := Lib.hid (K1.out.trans k2)
        obtain ⟨a, ha⟩ : ∃ a, s2.i = a := ⟨_, rfl⟩
        have c1 : w2.cell? ⟨p, 1, none⟩ = some (.int .i64 (a : Int)) := by rw [← ha]; exact cell_of_block h2.at_ 1
        have HA := Lib.hid ha
        clear h2 k2 hT HC1 HP ha
        go_wp2_with fail
        refine HP1.out.mono ?_
        rintro en w3 ⟨rfl, h3, k3⟩
        have H3 := Lib.hid h3
        have K3 := Lib.hid (K2.out.trans k3)
        have HO3 := Lib.hid (rover_any w3 s3 h3)
        clear h3 k3 HP1 c1
        cases ho3 : s3.over with
        | true =>
          rw [ho3] at HO3
          have HF := Lib.hid (show RkAt bs w3 p A m c R by
            have := HX.out.1
            rw [HNM.out, if_pos ho3, namesR_end (.inl ho3)] at this
            rw [← this]; exact H3.out)
          clear ho3
          go_wp2_with fail
          refine HO3.out.mono ?_
          rintro en w4 ⟨rfl, h4⟩
          obtain rfl := h4.symm
          clear h4 HO3
          go_wp2_with fail
          ((try simp only [Exit.inBlock, Exit.then]); refine bodyPost_ret (results_none rfl _ _ _) rfl ?_)
          exact ⟨rfl, HF.out, K3.out⟩
        | false =>
          rw [ho3] at HO3
          have hin := passR_in (bs := bs) (T := T) (e := e) (s := s2) (by rw [HE3.out]; exact ho3)
          have HIN := Lib.hid hin
          obtain ⟨nd0, hnd⟩ : ∃ b, s3.nd = b := ⟨_, rfl⟩
          have c5 : w3.cell? ⟨p, 5, none⟩ = some (.bool nd0) := by rw [← hnd]; exact cell_of_block H3.out.at_ 5
          by_cases hc : sort = 0 ∧ nd0 = false
          · obtain ⟨rfl, rfl⟩ := hc
            obtain ⟨S, hS⟩ : ∃ S, (bs.drop s2.i).take (T - s2.i) = S := ⟨_, rfl⟩
            have hTm : T ≤ m := by have := H3.out.bl; have := hin.2.2.1; omega
            have haT : a ≤ T := by have := HGE.out; have := HA.out; omega
            have hmc := H3.out.by_.form
            have c0 : w3.cell? ⟨p, 0, none⟩ = some (.slice A m c) := cell_of_block H3.out.at_ 0
            have g1 : (0 : Int) ≤ (a : Int) := by omega
            have g2 : (a : Int) ≤ (T : Int) := by omega
            have g3 : (T : Int) ≤ (c : Int) := by omega
            obtain ⟨X, hX⟩ : ∃ X, (if c = a then A else Option.map (fun x : Addr => x.add a) A) = X := ⟨_, rfl⟩
            have hbs : BytesV w3 (.slice X (T - a) (c - a)) S := by
              have h9 := H3.out.by_.fromXe haT hTm hX
              rw [← hS, HA.out]
              exact h9
            have hcv := hbs.str0 22 9 5 Tryz.underlying22 Tryz.underlying5 Tryz.underlying9
            have HFO := Lib.hid (rfold_any w3 ⟨S.toArray⟩)
            have HNE := Lib.hid (show nameR bs e t = (match foldA S with | none => s3.bad | some low => { s3 with name := ⟨low.toArray⟩, nd := true }) by
              rw [HNM.out, if_neg (by simp [ho3]), hnd, if_pos ⟨rfl, rfl⟩, hS])
            have HSS := Lib.hid (show ∀ low, foldA S = some low → foldB ⟨S.toArray⟩ = ⟨low.toArray⟩ ∧ foldIs ⟨S.toArray⟩ = true from fun low hl => foldB_some hl)
            have HNO := Lib.hid (show foldA S = none → foldB ⟨S.toArray⟩ = ByteArray.empty ∧ foldIs ⟨S.toArray⟩ = false from fun hl => foldB_not (s := ⟨S.toArray⟩) hl)
            obtain ⟨XS, hXS⟩ : ∃ XS : ByteArray, (⟨S.toArray⟩ : ByteArray) = XS := ⟨_, rfl⟩
            rw [hXS] at hcv HFO HSS HNO
            clear ho3 hin hnd hS hTm haT hmc hbs hXS
            go_wp2_with fail
            refine HO3.out.mono ?_
            rintro en w4 ⟨rfl, h4⟩
            obtain rfl := h4.symm
            clear h4 HO3
            cases hfo : foldA S with
            | none =>
              have h9 := HNO.out hfo
              rw [h9.1, h9.2] at HFO
              rw [hfo] at HNE
              have HNE := Lib.hid (show nameR bs e t = s3.bad from HNE.out)
              clear hfo h9 HSS HNO
              go_wp2_with fail
              refine HFO.out.mono ?_
              rintro en w5 ⟨rfl, k5⟩
              have H5 := Lib.hid (H3.out.keep0 k5)
              have K5 := Lib.hid (K3.out.trans (k5.mono (by simp)))
              have x3 : w5.cell? ⟨p, 3, none⟩ = some (.bool s3.wr) := cell_of_block H5.out.at_ 3
              have z3 : w5.frozen? ⟨p, 3, none⟩ = false := free_of_block H5.out.at_ 3
              obtain ⟨b0, hb0⟩ : ∃ b, s3.wr = b := ⟨_, rfl⟩
              rw [hb0] at x3
              have HF := Lib.hid (show RkAt bs (w5.setCell ⟨p, 3, none⟩ (.bool true)) p A m c R by
                have := HX.out.1
                rw [HNE.out, namesR_end (.inl (by simp [RS.over, RS.bad]))] at this
                rw [← this]; exact H5.out.bad)
              clear k5 HFO hb0
              go_wp2_with fail
              ((try simp only [Exit.inBlock, Exit.then]); refine bodyPost_ret (results_none rfl _ _ _) rfl ?_)
              exact ⟨rfl, HF.out, K5.out.trans (Keeps.setCell _ ⟨p, 3, none⟩ _)⟩
            | some low =>
              have h9 := HSS.out low hfo
              rw [h9.1, h9.2] at HFO
              rw [hfo] at HNE
              obtain ⟨LW', hLW⟩ : ∃ L : ByteArray, (⟨low.toArray⟩ : ByteArray) = L := ⟨_, rfl⟩
              have HNE := Lib.hid (show nameR bs e t = { s3 with name := LW', nd := true } by rw [← hLW]; exact HNE.out)
              rw [hLW] at HFO
              clear hfo h9 HSS HNO hLW
              go_wp2_with fail
              refine HFO.out.mono ?_
              rintro en w5 ⟨rfl, k5⟩
              have H5 := Lib.hid (H3.out.keep0 k5)
              have K5 := Lib.hid (K3.out.trans (k5.mono (by simp)))
              have x4 : w5.cell? ⟨p, 4, none⟩ = some (.string s3.name) := cell_of_block H5.out.at_ 4
              have z4 : w5.frozen? ⟨p, 4, none⟩ = false := free_of_block H5.out.at_ 4
              have x5 : (w5.setCell ⟨p, 4, none⟩ (.string LW')).cell? ⟨p, 5, none⟩ = some (.bool s3.nd) := cell_of_block (H5.out.setN LW').at_ 5
              have z5 : (w5.setCell ⟨p, 4, none⟩ (.string LW')).frozen? ⟨p, 5, none⟩ = false := free_of_block (H5.out.setN LW').at_ 5
              obtain ⟨b0, hb0⟩ : ∃ b, s3.nd = b := ⟨_, rfl⟩
              obtain ⟨nn, hnn⟩ : ∃ b, s3.name = b := ⟨_, rfl⟩
              rw [hb0] at x5
              rw [hnn] at x4
              have HF := Lib.hid (show RkAt bs ((w5.setCell ⟨p, 4, none⟩ (.string LW')).setCell ⟨p, 5, none⟩ (.bool true)) p A m c { s3 with name := LW', nd := true } ∧ namesR bs k' e { s3 with name := LW', nd := true } = R ∧ (({ s3 with name := LW', nd := true } : RS).over = true ∨ e - ({ s3 with name := LW', nd := true } : RS).i ≤ k') by
                have h1 := HX.out.1
                have h2 := HX.out.2
                rw [HNE.out] at h1 h2
                exact ⟨(H5.out.setN LW').setD, h1, h2⟩)
              clear k5 HFO hb0 hnn
              go_wp2_with fail
              go_roundg (k' + 1)
              case measure => omega
              case rel => exact ⟨k', _, rfl, Lib.hid ⟨HF.out.1, HF.out.2.1, HF.out.2.2, (K5.out.trans (Keeps.setCell w5 ⟨p, 4, none⟩ (.string LW'))).trans (Keeps.setCell _ ⟨p, 5, none⟩ (.bool true))⟩⟩
          · have HF := Lib.hid (show namesR bs k' e s3 = R ∧ (s3.over = true ∨ e - s3.i ≤ k') by
              have h1 := HX.out.1
              have h2 := HX.out.2
              have e9 : nameR bs e t = s3 := by rw [HNM.out, if_neg (by simp [ho3]), hnd, if_neg hc]
              rw [e9] at h1 h2
              exact ⟨h1, h2⟩)
            by_cases hs0 : sort = 0
            · have hs1 : nd0 = true := by cases nd0; exact absurd ⟨hs0, rfl⟩ hc; rfl
              subst hs0 hs1
              clear ho3 hin hnd hc
              go_wp2_with fail
              refine HO3.out.mono ?_
              rintro en w4 ⟨rfl, h4⟩
              obtain rfl := h4.symm
              clear h4 HO3
              go_wp2_with fail
              go_roundg (k' + 1)
              case measure => omega
              case rel => exact ⟨k', s3, rfl, Lib.hid ⟨H3.out, HF.out.1, HF.out.2, K3.out⟩⟩
            · have hs1 : ((sort : Int) == 0) = false := by rw [beq_eq_false_iff_ne]; omega
              clear ho3 hin hnd hc
              go_wp2_with fail
              refine HO3.out.mono ?_
              rintro en w4 ⟨rfl, h4⟩
              obtain rfl := h4.symm
              clear h4 HO3
              go_wp2_with fail
              go_roundg (k' + 1)
              case measure => omega
              case rel => exact ⟨k', s3, rfl, Lib.hid ⟨H3.out, HF.out.1, HF.out.2, K3.out⟩⟩
end
end Go.Proofs.YtpoheemjdieogaaGreatDoor
