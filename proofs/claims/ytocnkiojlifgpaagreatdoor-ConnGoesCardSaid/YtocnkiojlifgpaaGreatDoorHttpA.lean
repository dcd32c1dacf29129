/-
  The walk of http.reader.authority. Condition: the reader lies in memory; the library's variables lie as listed.
-/
import Derived.Test.YtocnkiojlifgpaaGreatDoorHttpR
import Derived.Test.YtocnkiojlifgpaaGreatDoorFoldW
namespace Go.Proofs.YtocnkiojlifgpaaGreatDoor
open Go.RowKit Go.Lib
set_option linter.unusedVariables false
set_option linter.unusedSimpArgs false

theorem isF_static {S : List Nat} {w : World} {F : Nat} {p : UInt8 → Bool} (hF : ∀ args w, (callFunc F args).run Tryz.prog w = .ok (.enter F args) w) (h : ∀ w (x : UInt8), Calls Tryz.prog F #[.int .u8 x.toNat] w fun e w' => e = .returned (.bool (p x)) ∧ w' = w) : IsF S w (.func (.func F) #[] #[]) p :=
  ⟨F, #[], #[], rfl, hF, fun w' _ c => h w' c⟩
theorem isF_capital (S : List Nat) (w : World) : IsF S w (.func (.func 63) #[] #[]) capB := isF_static (enters_of Tryz.func63 (by kernel_rfl) rfl) capital_any
theorem isF_digit (S : List Nat) (w : World) : IsF S w (.func (.func 65) #[] #[]) digB := isF_static (enters_of Tryz.func65 (by kernel_rfl) rfl) digit_any
theorem isF_seen (S : List Nat) (w : World) : IsF S w (.func (.func 68) #[] #[]) seenB := isF_static (enters_of Tryz.func68 (by kernel_rfl) rfl) seen_any
theorem isF_blank (S : List Nat) (w : World) : IsF S w (.func (.func 67) #[] #[]) blankB := isF_static (enters_of Tryz.func67 (by kernel_rfl) rfl) blank_any
theorem isF_shown (S : List Nat) (w : World) : IsF S w (.func (.func 23) #[] #[]) shownB := isF_static (enters_of Tryz.func23 (by kernel_rfl) rfl) shown_any
theorem isF_worded (S : List Nat) (w : World) : IsF S w (.func (.func 22) #[] #[]) wordB := isF_static (enters_of Tryz.func22 (by kernel_rfl) rfl) worded_any
theorem isF_star (S : List Nat) (w : World) : IsF S w (.func (.func 273) #[] #[]) starB := isF_static (enters_of Tryz.func273 (by kernel_rfl) rfl) star_any
theorem isF_zeroone (S : List Nat) (w : World) : IsF S w (.func (.func 274) #[] #[]) zerooneB := isF_static (enters_of Tryz.func274 (by kernel_rfl) rfl) zeroone_any

/-- behind the name -/
def authF (name r : List UInt8) : RH (List UInt8) :=
  bindH (peekH r) fun c r => if c = 58 then bindH (nextH (· == 58) r) fun _ r => bindH (nextH digB r) fun d r => bindH (portH (d.toNat - 48) 1 r) fun _ r => .ok (foldN name, r) else .ok (foldN name, r)
theorem authH_eq (l : List UInt8) : authH l = bindH (nameH [] l) authF := rfl
theorem foldB_bs (l : List UInt8) : foldB (bs l) = bs (foldN l) := by
  unfold foldB foldN bs
  simp only
  rw [show foldL l = foldA l from foldL_eq l]
  cases foldA l <;> rfl
theorem u8_eq (c : UInt8) (n : Nat) (h : n < 256) : (c = UInt8.ofNat n) ↔ (c.toNat : Int) = (n : Int) := by
  rw [← UInt8.toNat_inj]
  have : (UInt8.ofNat n).toNat = n := by simp; omega
  omega
set_option maxRecDepth 100000 in
theorem host_ascii : ∀ i : Fin 256, hostB (UInt8.ofNat i.val) = true → i.val < 128 := by decide
theorem ascii_rune {c : UInt8} (h : c.toNat < 128) : Utf8.encode (wrap32 (c.toNat : Int)) = bs [c] := by
  have h1 : wrap32 (c.toNat : Int) = (c.toNat : Int) := by unfold wrap32; omega
  rw [h1]
  unfold Utf8.encode
  have h2 : Utf8.valid (c.toNat : Int) = true := by unfold Utf8.valid; simp; omega
  simp only [h2, if_true, Int.toNat_natCast, h]
  simp [bs]
theorem host_rune {c : UInt8} (h : hostB c = true) : Utf8.encode (wrap32 (c.toNat : Int)) = bs [c] := by
  have := host_ascii ⟨c.toNat, c.toNat_lt⟩
  simp only [UInt8.ofNat_toNat] at this
  exact ascii_rune (this h)
theorem next_ok {p : UInt8 → Bool} {l l2 : List UInt8} {d : UInt8} (h : nextH p l = .ok (d, l2)) : p d = true ∧ l = d :: l2 := by
  cases l with
  | nil => simp [nextH] at h
  | cons c l =>
    by_cases hc : p c = true
    · simp only [nextH, hc, if_true, Except.ok.injEq, Prod.mk.injEq] at h
      obtain ⟨rfl, rfl⟩ := h
      exact ⟨hc, rfl⟩
    · simp [nextH, hc] at h
theorem dig_val {d : UInt8} (h : digB d = true) : d.toNat - 48 ≤ 9 := by
  simp [digB] at h; omega
theorem dig_wrap {d : UInt8} (h : digB d = true) : IntKind.u8.wrap ((d.toNat : Int) - 48) = ((d.toNat - 48 : Nat) : Int) := by
  have h1 : 48 ≤ d.toNat ∧ d.toNat ≤ 57 := by simpa [digB] using h
  rw [IntKind.wrap_u8]; omega
def badN (c : UInt8) (dot : Bool) (nm : List UInt8) : Bool := decide (c = 46 ∧ (dot = true ∨ nm.length = 252) ∨ 253 ≤ nm.length)
set_option maxRecDepth 100000 in
set_option maxHeartbeats 4000000 in
theorem auth_any (w : World) (r : Nat) (hw : ∀ w', Keeps [r] w w' → LW w') (l : List UInt8) (h : RdS w r l) (hl : l.length ≤ 1000000) : Calls Tryz.prog 258 #[.pointer (some ⟨r, 0, none⟩)] w fun e w' => OutH w r (authH l) (fun x => .string (bs x)) e w' := by
  obtain ⟨res, hres⟩ : ∃ res, authH l = res := ⟨_, rfl⟩
  rw [hres]
  rw [authH_eq] at hres
  have HRES := Lib.hid hres
  have HW := Lib.hid hw
  have HR := Lib.hid h
  clear hres hw h
  go_enter Tryz.func258, Tryz.ntmps258
  go_wp2_with fail
  go_loopg [3] l.length (fun g v wx => ∃ nm l' : List UInt8, v = .string (bs nm) ∧ g = l'.length ∧ bindH (nameH nm l') authF = res ∧ nm.length ≤ 253 ∧ l'.length ≤ 1000000 ∧ RdS wx r l' ∧ Keeps [r] w wx)
  case atStart => exact ⟨[], l, rfl, rfl, HRES.out, by simp, hl, HR.out, Keeps.refl _ _⟩
  case round =>
    obtain ⟨nm, l', rfl, hg, hre, hnl, hll, hr, hk⟩ := hrel
    subst hg
    cases l' with
    | nil =>
      have HP := Lib.hid (peek_none wr r hr)
      have HK := Lib.hid hk
      have hn : res = .error 0 := hre.symm
      subst hn
      clear hr hk hre
      go_wp2_with fail
      refine HP.out.mono ?_
      rintro e w1 ⟨rfl, rfl⟩
      go_wp2_with fail
      exact ⟨rfl, HK.out, rfl⟩
    | cons c l' =>
      have HP := Lib.hid (peek_some wr r c l' hr)
      have HK := Lib.hid hk
      have HRD := Lib.hid hr
      have HRE := Lib.hid hre
      have HSU := Lib.hid (Any.strings_HasSuffix Tryz.sufL (bs nm) ⟨#[46]⟩ wr (by rw [bs_size]; omega))
      have HHO := Lib.hid (hosted_any wr c)
      have c0 : wr.cell? ⟨r, 0, none⟩ = some (.string (bs (c :: l'))) := cell_of_block hr 0
      have z0 : wr.frozen? ⟨r, 0, none⟩ = false := free_of_block hr 0
      have C0 := Lib.hid (And.intro c0 z0)
      clear hr hk hre c0 z0
      go_wp2_with fail
      refine HP.out.mono ?_
      rintro e w1 ⟨rfl, hw⟩
      obtain rfl := hw.symm
      clear hw
      go_upto_region 3 with fail
      go_cut [5] (fun dv wx => dv = .bool (dotE nm) ∧ wx = wr)
      case first =>
        cases nm with
        | nil =>
          have hE : (bs []).toList.isEmpty = true := by rw [Lib.toList_data]; rfl
          have hE2 : (bs []).toList = [] := by rw [Lib.toList_data]; rfl
          go_wp2_with fail
          go_meet
          exact ⟨rfl, rfl⟩
        | cons d nm =>
          have hE := bs_empty d nm
          have hE2 : ¬ (bs (d :: nm)).toList = [] := by rw [Lib.toList_data]; simp [bs]
          have hd : dotE (d :: nm) = hasSuffix (bs (d :: nm)).data.toList [46] := by simp [dotE, bs]
          rw [← hd] at HSU
          clear hd
          go_wp2_with fail
          refine HSU.out.mono ?_
          rintro e w1 ⟨rfl, hw⟩
          obtain rfl := hw.symm
          clear hw
          go_wp2_with fail
          go_meet
          exact ⟨rfl, rfl⟩
      case rest =>
        obtain ⟨rfl, hwx⟩ := hcut
        obtain rfl := hwx.symm
        clear hwx HP HSU
        obtain ⟨dot, hdot⟩ : ∃ dot, dotE nm = dot := ⟨_, rfl⟩
        rw [hdot]
        have HDOT := Lib.hid hdot
        clear hdot
        obtain ⟨hb, hhb⟩ : ∃ hb, hostB c = hb := ⟨_, rfl⟩
        rw [hhb] at HHO
        have HHB := Lib.hid hhb
        clear hhb
        cases hb with
        | false =>
          go_wp2_with fail
          refine HHO.out.mono ?_
          rintro e w1 ⟨rfl, hw⟩
          obtain rfl := hw.symm
          clear hw HHO
          cases dot with
          | true =>
            have hn : res = .error 3 := by rw [← HRE.out]; simp [nameH, HHB.out, HDOT.out, bindH]
            subst hn
            go_wp2_with fail
            exact ⟨rfl, HK.out, rfl⟩
          | false =>
            have hn : authF nm (c :: l') = res := by rw [← HRE.out]; simp [nameH, HHB.out, HDOT.out, bindH_ok]
            have HN := Lib.hid hn
            clear hn HRE
            have hsz : (bs (c :: l')).size = l'.length + 1 := rfl
            have htl := bs_tail c l' (l'.length + 1) rfl
            by_cases h58 : (c.toNat : Int) = 58
            · have hc : c = 58 := (u8_eq c 58 (by omega)).2 h58
              have HN2 := Lib.hid (show bindH (nextH digB l') (fun d r => bindH (portH (d.toNat - 48) 1 r) fun _ r => .ok (foldN nm, r)) = res by
                rw [← HN.out]; simp [authF, peekH, bindH_ok, hc, nextH])
              have h58b : ((c.toNat : Int) == 58) = true := beq_iff_eq.2 h58
              have c0 := C0.out.1
              have z0 := C0.out.2
              have HR5 := Lib.hid (rd_set (l' := l') HRD.out)
              obtain ⟨w5, hw5⟩ : ∃ w5, wr.setCell ⟨r, 0, none⟩ (.string (bs l')) = w5 := ⟨_, rfl⟩
              rw [hw5] at HR5
              have HNX := Lib.hid (next_any w5 r l' _ digB HR5.out.1 (isF_digit [] w5))
              clear h58 hc HN
              have HPP := Lib.hid (peek_some wr r c l' HRD.out)
              go_wp2_with fail
              refine HPP.out.mono ?_
              rintro e w1 ⟨rfl, hw⟩
              obtain rfl := hw.symm
              clear hw HPP
              go_wp2_with fail
              refine HNX.out.mono ?_
              rintro e w6 ⟨k6, ho⟩
              have HK6 := Lib.hid ((HK.out.trans HR5.out.2).trans k6)
              clear k6 HNX c0 z0 hw5 hsz htl
              cases hnx : nextH digB l' with
              | error k =>
                rw [hnx] at ho
                dsimp only at ho
                subst ho
                have hn : res = .error k := by rw [← HN2.out, hnx]; rfl
                subst hn
                clear hnx
                go_wp2_with fail
                exact ⟨rfl, HK6.out, rfl⟩
              | ok y =>
                obtain ⟨d, l2⟩ := y
                rw [hnx] at ho
                dsimp only at ho
                obtain ⟨rfl, hr6⟩ := ho
                obtain ⟨hd, hl2⟩ := next_ok hnx
                have HR6 := Lib.hid hr6
                have HN3 := Lib.hid (show bindH (portH (d.toNat - 48) 1 l2) (fun _ r => .ok (foldN nm, r)) = res by rw [← HN2.out, hnx]; rfl)
                have hl2' : l2.length ≤ 1000000 := by rw [hl2] at hll; simp at hll; omega
                have hdg := dig_val hd
                have hdw := dig_wrap hd
                clear hnx hr6 hd hl2
                obtain ⟨n0, hn0⟩ : ∃ n0, d.toNat - 48 = n0 := ⟨_, rfl⟩
                rw [hn0] at HN3
                rw [hn0] at hdw hdg
                go_wp2_with fail
                go_loopg [6, 7] l2.length (fun g nv mv wx => ∃ (n m : Nat) (l3 : List UInt8), nv = .int .i64 n ∧ mv = .int .i64 m ∧ n ≤ 65535 ∧ m ≤ 5 ∧ g = l3.length ∧ bindH (portH n m l3) (fun _ r => .ok (foldN nm, r)) = res ∧ l3.length ≤ 1000000 ∧ RdS wx r l3 ∧ Keeps [r] w wx)
                case atStart => exact ⟨n0, 1, l2, rfl, rfl, by omega, by omega, rfl, HN3.out, hl2', HR6.out, HK6.out⟩
                case round =>
                  obtain ⟨n, m, l3, rfl, rfl, hn6, hm5, hg, hre, hl3, hr, hk⟩ := hrel
                  subst hg
                  have HKQ := Lib.hid hk
                  have HREQ := Lib.hid hre
                  clear hk hre hdw hdg hn0 HRD C0 HK HN2 HR5 HDOT HHB h58b HK6 HR6 HN3
                  cases l3 with
                  | nil =>
                    have HP := Lib.hid (peek_none wr r hr)
                    have hn : res = .error 0 := HREQ.out.symm
                    subst hn
                    clear hr
                    go_wp2_with fail
                    refine HP.out.mono ?_
                    rintro e w1 ⟨rfl, rfl⟩
                    go_wp2_with fail
                    exact ⟨rfl, HKQ.out, rfl⟩
                  | cons q l4 =>
                    have HP := Lib.hid (peek_some wr r q l4 hr)
                    have HRQ := Lib.hid hr
                    have HD := Lib.hid (digit_any wr q)
                    have hz : l4.length ≤ 1000000 := by simp at hl3; omega
                    clear hr hl3
                    by_cases hq : digB q = true
                    · rw [hq] at HD
                      have HNX := Lib.hid (next_any wr r (q :: l4) _ digB HRQ.out (isF_digit [] wr))
                      rw [show nextH digB (q :: l4) = .ok (q, l4) by simp [nextH, hq]] at HNX
                      have hdw := dig_wrap hq
                      have hdg := dig_val hq
                      have hpo : portH n m (q :: l4) = if 5 ≤ m ∨ 65535 < 10 * n + (q.toNat - 48) then .error 3 else portH (10 * n + (q.toNat - 48)) (m + 1) l4 := by simp only [portH, hq, if_true]
                      obtain ⟨dg, hdge⟩ : ∃ dg, q.toNat - 48 = dg := ⟨_, rfl⟩
                      rw [hdge] at hpo hdw hdg
                      have HPO := Lib.hid hpo
                      clear hpo hdge hq
                      go_wp2_with fail
                      refine HP.out.mono ?_
                      rintro e w1 ⟨rfl, hw⟩
                      obtain rfl := hw.symm
                      clear hw HP
                      go_wp2_with fail
                      refine HD.out.mono ?_
                      rintro e w1 ⟨rfl, hw⟩
                      obtain rfl := hw.symm
                      clear hw HD
                      go_wp2_with fail
                      refine HNX.out.mono ?_
                      rintro e w7 ⟨k7, rfl, hr7⟩
                      have HK7 := Lib.hid (HKQ.out.trans k7)
                      have HR7 := Lib.hid hr7
                      clear k7 hr7 HNX HRQ HKQ
                      go_upto_region 18 with fail
                      clear hdw
                      by_cases hm : 5 ≤ m
                      · have hmI : (5 : Int) ≤ (m : Int) := by omega
                        have hn : res = .error 3 := by rw [← HREQ.out, HPO.out, if_pos (.inl hm)]; rfl
                        subst hn
                        clear hm
                        go_wp2_with fail
                        exact ⟨rfl, HK7.out, rfl⟩
                      · have hmI : ¬ (5 : Int) ≤ (m : Int) := by omega
                        by_cases hn6' : 65535 < 10 * n + dg
                        · have hnI : (65535 : Int) < 10 * (n : Int) + (dg : Int) := by omega
                          have hn : res = .error 3 := by rw [← HREQ.out, HPO.out, if_pos (.inr hn6')]; rfl
                          subst hn
                          clear hm hn6'
                          go_wp2_with fail
                          exact ⟨rfl, HK7.out, rfl⟩
                        · have hnI : ¬ (65535 : Int) < 10 * (n : Int) + (dg : Int) := by omega
                          have HN7 := Lib.hid (show bindH (portH (10 * n + dg) (m + 1) l4) (fun _ r => .ok (foldN nm, r)) = res by rw [← HREQ.out, HPO.out, if_neg (by omega)])
                          go_wp2_with fail
                          go_roundg l4.length
                          case measure => simp
                          case rel => exact ⟨10 * n + dg, m + 1, l4, by go_num, by go_num, by omega, by omega, rfl, HN7.out, hz, HR7.out, HK7.out⟩
                    · have hq' : digB q = false := by simpa using hq
                      rw [hq'] at HD
                      have hn : res = .ok (foldN nm, q :: l4) := by rw [← HREQ.out]; simp [portH, hq', bindH_ok]
                      subst hn
                      clear hq hq'
                      go_wp2_with fail
                      refine HP.out.mono ?_
                      rintro e w1 ⟨rfl, hw⟩
                      obtain rfl := hw.symm
                      clear hw HP
                      go_wp2_with fail
                      refine HD.out.mono ?_
                      rintro e w1 ⟨rfl, hw⟩
                      obtain rfl := hw.symm
                      clear hw HD
                      have HF := Lib.hid (fold_any wr (HW.out _ (HKQ.out)) (bs nm))
                      rw [foldB_bs] at HF
                      go_wp2_with fail
                      refine HF.out.mono ?_
                      rintro e w9 ⟨rfl, k9⟩
                      have HK9 := Lib.hid k9
                      clear k9 HF
                      go_wp2_with fail
                      go_ret
                      exact ⟨(HKQ.out).trans (HK9.out.mono (by simp)), rfl, (HRQ.out).keep HK9.out (by simp)⟩
            · have hc : ¬ c = 58 := fun e => h58 ((u8_eq c 58 (by omega)).1 e)
              have hn : res = .ok (foldN nm, c :: l') := by rw [← HN.out]; simp [authF, peekH, bindH_ok, hc]
              have h58b : ((c.toNat : Int) == 58) = false := beq_eq_false_iff_ne.2 h58
              subst hn
              clear h58 hc
              have HPP := Lib.hid (peek_some wr r c l' HRD.out)
              go_wp2_with fail
              refine HPP.out.mono ?_
              rintro e w1 ⟨rfl, hw⟩
              obtain rfl := hw.symm
              clear hw HPP
              have HF := Lib.hid (fold_any wr (HW.out _ HK.out) (bs nm))
              rw [foldB_bs] at HF
              go_wp2_with fail
              refine HF.out.mono ?_
              rintro e w9 ⟨rfl, k9⟩
              have HK9 := Lib.hid k9
              clear k9 HF
              go_wp2_with fail
              go_ret
              exact ⟨(HK.out).trans (HK9.out.mono (by simp)), rfl, (HRD.out).keep HK9.out (by simp)⟩
        | true =>
          go_wp2_with fail
          refine HHO.out.mono ?_
          rintro e w1 ⟨rfl, hw⟩
          obtain rfl := hw.symm
          clear hw HHO
          go_upto_region 7 with fail
          go_cut [37] (fun bv wx => bv = .bool (badN c dot nm) ∧ wx = wr)
          case first =>
            have hsz : (bs nm).size = nm.length := rfl
            by_cases h253 : 253 ≤ nm.length
            · have hge : (253 : Int) ≤ (nm.length : Int) := by omega
              have HB := Lib.hid (show badN c dot nm = true by unfold badN; exact decide_eq_true (.inr h253))
              have h252 : ((nm.length : Int) == 252) = false := beq_eq_false_iff_ne.2 (by omega)
              by_cases h46 : (c.toNat : Int) = 46
              · have h46b : ((c.toNat : Int) == 46) = true := beq_iff_eq.2 h46
                clear h46
                cases dot <;> (go_wp2_with fail; go_meet; exact ⟨by rw [HB.out], rfl⟩)
              · have h46b : ((c.toNat : Int) == 46) = false := beq_eq_false_iff_ne.2 h46
                clear h46
                go_wp2_with fail; go_meet; exact ⟨by rw [HB.out], rfl⟩
            · have hge : ¬ (253 : Int) ≤ (nm.length : Int) := by omega
              by_cases h46 : (c.toNat : Int) = 46
              · have hc : c = 46 := (u8_eq c 46 (by omega)).2 h46
                have h46b : ((c.toNat : Int) == 46) = true := beq_iff_eq.2 h46
                clear h46
                by_cases h252 : nm.length = 252
                · have h252' : ((nm.length : Int) == 252) = true := beq_iff_eq.2 (by omega)
                  have HB := Lib.hid (show badN c dot nm = true by unfold badN; exact decide_eq_true (.inl ⟨hc, .inr h252⟩))
                  clear hc h252
                  cases dot <;> (go_wp2_with fail; go_meet; exact ⟨by rw [HB.out], rfl⟩)
                · have h252' : ((nm.length : Int) == 252) = false := beq_eq_false_iff_ne.2 (by omega)
                  have HB := Lib.hid (show badN c dot nm = dot by unfold badN; cases dot <;> simp [hc, h252, h253] <;> omega)
                  clear hc h252
                  cases dot <;> (go_wp2_with fail; go_meet; exact ⟨by first | rw [HB.out] | (rw [HB.out]; simp <;> omega), rfl⟩)
              · have HB := Lib.hid (show badN c dot nm = false by unfold badN; have hc : ¬ c = 46 := fun e => h46 ((u8_eq c 46 (by omega)).1 e); simp [hc] <;> omega)
                have h46b : ((c.toNat : Int) == 46) = false := beq_eq_false_iff_ne.2 h46
                clear h46
                go_wp2_with fail; go_meet; exact ⟨by first | rw [HB.out] | (rw [HB.out]; simp <;> omega), rfl⟩
          case rest =>
            obtain ⟨rfl, hwx⟩ := hcut
            obtain rfl := hwx.symm
            clear hwx
            have hnm : nameH nm (c :: l') = if badN c dot nm = true then .error 3 else nameH (nm ++ [c]) l' := by
              simp only [nameH, HHB.out, if_true, HDOT.out, badN, decide_eq_true_eq]
            have hbd : badN c dot nm = false → nm.length < 253 := by unfold badN; intro h; have := of_decide_eq_false h; omega
            obtain ⟨bad, hbad⟩ : ∃ bad, badN c dot nm = bad := ⟨_, rfl⟩
            rw [hbad] at hnm hbd ⊢
            clear hbad
            cases bad with
            | true =>
              have hn : res = .error 3 := by rw [← HRE.out, hnm]; rfl
              subst hn
              clear hnm
              go_wp2_with fail
              exact ⟨rfl, HK.out, rfl⟩
            | false =>
              have HN := Lib.hid (show bindH (nameH (nm ++ [c]) l') authF = res by rw [← HRE.out, hnm]; simp)
              have hlt := hbd rfl
              have hER := host_rune HHB.out
              have hsum : ¬ 9223372036854775807 < (bs nm).size + (bs [c]).size := by rw [bs_size, bs_size]; simp; omega
              have happ : bs nm ++ bs [c] = bs (nm ++ [c]) := by apply ByteArray.ext; simp [bs]
              have hsz : (bs (c :: l')).size = l'.length + 1 := rfl
              have htl := bs_tail c l' (l'.length + 1) rfl
              have c0 := C0.out.1
              have z0 := C0.out.2
              clear hnm hbd HRE
              go_wp2_with fail
              go_roundg l'.length
              case measure => simp
              case rel => exact ⟨nm ++ [c], l', rfl, rfl, HN.out, by simp; omega, by simp at hll; omega, (rd_set HRD.out).1, HK.out.trans (rd_set HRD.out).2⟩
end Go.Proofs.YtocnkiojlifgpaaGreatDoor
