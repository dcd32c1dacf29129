/-
  The law HttpMade: the walk, over its arguments as they come in. Condition: the library's variables lie as listed. Printed by program.
-/
import Derived.Test.YtjppfdilfcokeaaDoorHttpD
import Derived.Test.YtjppfdilfcokeaaDoorHttpE
import Derived.Test.YtjppfdilfcokeaaDoorHttpX
import Derived.Test.YtjppfdilfcokeaaDoorHttpComes
import Derived.Shelf.Strings.CaseAny
namespace Go.Proofs.YtjppfdilfcokeaaDoor
open Go.RowKit Go.Lib
set_option linter.unusedVariables false
set_option linter.unusedSimpArgs false

theorem upper_any (w : World) (hw : LW w) (s : List UInt8) (hs : s.length < 35184372088832) : Calls Tryd.prog 14 #[.string (bs s)] w fun e w' => e = .returned (.string (bs (toUpperD s))) ∧ Keeps [] w w' :=
  (Any.strings_ToUpper_any Tryd.upperL Tryd.upperX (bs s) w hs hw.case hw.utf8).mono fun e w' ⟨he, hb⟩ => ⟨he, Below.keeps hb⟩
theorem FieldsV.cut {w : World} {A : Option Addr} {n c m : Nat} {l : List FL} (h : FieldsV w A n c l) (hm : m ≤ n) : FieldsV w A m c (l.take m) := by
  obtain ⟨h1, h2, h3⟩ := h
  refine ⟨by rw [List.length_take]; omega, by omega, fun hp => ?_⟩
  obtain ⟨g, o, e, hc⟩ := h3 (by omega)
  refine ⟨g, o, e, fun i f hf => hc i f ?_⟩
  rw [List.getElem?_take] at hf
  split at hf
  · exact hf
  · cases hf
theorem req_suffix (host : List UInt8) (fs : List FL) : hasSuffix (reqB host fs) [13, 10, 13, 10] = true := by
  unfold hasSuffix
  rw [List.isSuffixOf_iff_suffix]
  by_cases hh : host = []
  · subst hh
    rcases fs.eq_nil_or_concat with rfl | ⟨f', f, rfl⟩
    · exact ⟨reqHead.take 14, rfl⟩
    · exact ⟨reqHead ++ (f'.map lineB).flatten ++ (f.1 ++ [58, 32] ++ f.2), by simp [reqB, hostLine, lineB]⟩
  · exact ⟨reqHead ++ (fs.map lineB).flatten ++ ([72, 111, 115, 116, 58, 32] ++ host), by simp [reqB, hostLine, hh]⟩
theorem req_short {fs : List FL} (hn : fs.length ≤ 8) (hf : ∀ f ∈ fs, f.1.length + f.2.length ≤ 60) : reqLong fs = false := by
  unfold reqLong
  rw [Bool.or_eq_false_iff]
  refine ⟨decide_eq_false (by omega), List.any_eq_false.2 fun f h => ?_⟩
  have := hf f h
  simp [fieldLong]
  omega
theorem req_len {host : List UInt8} {fs : List FL} (hh : host.length ≤ 253) (hn : fs.length ≤ 8) (hf : ∀ f ∈ fs, f.1.length + f.2.length ≤ 60) : 4 ≤ (reqB host fs).length ∧ (reqB host fs).length ≤ 2000 := by
  have h1 : ∀ l : List FL, (∀ f ∈ l, f.1.length + f.2.length ≤ 60) → (l.map lineB).flatten.length ≤ l.length * 64 := by
    intro l
    induction l with
    | nil => intro _; simp
    | cons f l ih =>
      intro h
      have h2 := h f (by simp)
      have h3 := ih (fun x hx => h x (by simp [hx]))
      simp only [List.map_cons, List.flatten_cons, List.length_append, List.length_cons, lineB, List.length_nil]
      omega
  have h2 := h1 fs hf
  have h3 : (hostLine host).length ≤ 300 := by unfold hostLine; split <;> simp; omega
  unfold reqB
  rw [List.length_append, List.length_append, List.length_append, show reqHead.length = 16 from rfl]
  simp only [List.length_cons, List.length_nil]
  omega
set_option maxRecDepth 100000 in
set_option maxHeartbeats 16000000 in
theorem made_walk (w : World) (hw : LW w) (host : List UInt8) (A1 A2 : Option Addr) (n1 n2 c1 c2 : Nat) (l1 : List FL) (l2 : List UInt8) (hb1 : FieldsV w A1 n1 c1 l1) (hz : ∀ f ∈ l1, f.1.length ≤ maxLen ∧ f.2.length ≤ maxLen) (hb2 : BytesV w (.slice A2 n2 c2) l2) :
    Calls Tryd.prog 5 #[.string (bs host), .slice A1 n1 c1, .slice A2 n2 c2] w fun e w' => e = .returned (.bool true) ∧ Keeps [] w w' := by
  obtain ⟨m1, hm1⟩ : ∃ m, min n1 8 = m := ⟨_, rfl⟩
  obtain ⟨m2, hm2⟩ : ∃ m, min n2 100 = m := ⟨_, rfl⟩
  obtain ⟨p1, p2⟩ := And.intro hb1.2.1 hb2.form.2.1
  have q1 : min (n1 : Int) 8 = (m1 : Int) := by omega
  have q2 : min (n2 : Int) 100 = (m2 : Int) := by omega
  have r1 : (m1 : Int) ≤ (c1 : Int) := by omega
  have r2 : (m2 : Int) ≤ (c2 : Int) := by omega
  have t1 : (0 : Int) ≤ (m1 : Int) := by omega
  have t2 : (0 : Int) ≤ (m2 : Int) := by omega
  obtain ⟨fs, hfs⟩ : ∃ x, l1.take m1 = x := ⟨_, rfl⟩
  obtain ⟨x2, hx2⟩ : ∃ x, l2.take m2 = x := ⟨_, rfl⟩
  have B1 := Lib.hid (show FieldsV w A1 m1 c1 fs by rw [← hfs]; exact hb1.cut (by omega))
  have B2 := Lib.hid (show BytesV w (.slice A2 m2 c2) x2 by rw [← hx2]; exact hb2.cut (by omega))
  have HZ := Lib.hid (show ∀ f ∈ fs, f.1.length ≤ 9223372036854775807 ∧ f.2.length ≤ 9223372036854775807 from fun f hf => by
    have := hz f (by rw [← hfs] at hf; exact List.mem_of_mem_take hf)
    simp only [maxLen] at this
    omega)
  have hl1 : m1 = fs.length := B1.out.1
  have hl2 : x2.length = m2 := by have := B2.out.form.1; omega
  have HL := Lib.hid (And.intro hl1 hl2)
  have hk1 : m1 ≤ 8 := by omega
  have hk2 : m2 ≤ 100 := by omega
  have HW := Lib.hid hw
  clear hb1 hb2 hm1 hm2 p1 p2 hfs hx2 hw hl1 hl2 hz
  go_enter Tryd.func5, Tryd.ntmps5
  go_upto_region 1 with fail
  go_cut [1, 2] (fun bv mv wx => bv = .slice A1 m1 c1 ∧ mv = .slice A2 m2 c2 ∧ wx = w.drew)
  case first =>
    go_region_held3 (fun _ => True) (trivial) (fail)
    all_goals
      go_wp2_with fail
      go_meet
      exact ⟨rfl, rfl, rfl⟩
  case rest =>
    obtain ⟨rfl, rfl, hwx⟩ := hcut
    have HK0 := Lib.hid (show Keeps [] w wc by rw [hwx]; exact (Keeps.refl [] w).drew')
    clear hwx q1 q2 r1 r2 t1 t2
    go_wp2_with fail
    go_loopg [7, 8] fs.length (fun g mv iv wx => ∃ pre post : List FL, fs = pre ++ post ∧ g = post.length ∧ OwnF wx w.heap.size mv pre ∧ iv = .int .i64 pre.length ∧ (∀ f ∈ pre, f.1.length + f.2.length ≤ 60 ∨ fieldLong f = true) ∧ Keeps [] w wx)
    case atStart => exact ⟨[], fs, rfl, rfl, OwnF.nil _ _, rfl, by simp, HK0.out⟩
    case round =>
      obtain ⟨pre, post, hsp, hg, ho, rfl, hsm, hk⟩ := hrel
      subst hg
      have hll : fs.length = pre.length + post.length := by rw [hsp]; simp
      have HK := Lib.hid hk
      have HO := Lib.hid ho
      have HSM := Lib.hid hsm
      cases post with
      | nil =>
        have hlt : ¬ (pre.length : Int) < (m1 : Int) := by have := HL.out.1; simp at hll; omega
        have hpre : pre = fs := by rw [hsp]; simp
        subst hpre
        clear hk ho hsm hsp hll
        obtain ⟨AF, cF, rfl, hFV⟩ := HO.out.fields
        have HFV := Lib.hid hFV
        have hpl : pre.length ≤ 8 := by have := HL.out.1; omega
        have HRQ := Lib.hid (request_any wr (HW.out.keep0 HK.out) host AF pre.length cF pre hFV (by omega) HZ.out (fun f hf => eqHost_any (HZ.out f hf).1))
        clear hFV
        obtain ⟨R, hR⟩ : ∃ R, reqR host pre = R := ⟨_, rfl⟩
        rw [hR] at HRQ
        go_wp2_with fail
        refine HRQ.out.mono ?_
        rintro e w3 ⟨v9, rfl, ⟨A9, c9, rfl, hbv⟩, k3⟩
        have HB9 := Lib.hid (show BytesV w3 (.slice A9 R.1.length c9) R.1 from ⟨A9, c9, rfl, hbv⟩)
        have HK3 := Lib.hid (HK.out.trans k3)
        have HFV3 := Lib.hid (HFV.out.keep0 k3)
        have HF := Lib.hid (fold_any w3 (HW.out.keep0 (HK.out.trans k3)) (bs host))
        rw [foldIs_bs, foldB_bs] at HF
        clear hbv k3 HRQ
        go_wp2_with fail
        refine HF.out.mono ?_
        rintro e w4 ⟨rfl, k4⟩
        have HK4 := Lib.hid (HK3.out.trans k4)
        have HB4 := Lib.hid (HB9.out.keep0 k4)
        have HFV4 := Lib.hid (HFV3.out.keep0 k4)
        clear k4 HF HB9 HFV HFV3
        have hcase : R = ([], 1) ∨ R = ([], 3) ∨ R = (reqB host pre, 0) ∧ reqOk host pre = true ∧ reqLong pre = false := by
          rw [← hR]
          unfold reqR
          cases h1 : reqOk host pre with
          | false => exact .inl rfl
          | true =>
            cases h2 : reqLong pre with
            | true => exact .inr (.inl rfl)
            | false => exact .inr (.inr ⟨rfl, rfl, rfl⟩)
        clear hR
        rcases hcase with rfl | rfl | ⟨rfl, hok, hlong⟩
        · have HWK := Lib.hid (wakes_any w4 (HW.out.keep0 HK4.out))
          go_wp2_with fail
          refine HWK.out.mono ?_
          rintro e w23 ⟨rfl, k23⟩
          have HK23 := Lib.hid (HK4.out.trans k23)
          clear k23 HWK
          go_wp2_with fail
          go_ret
          exact ⟨rfl, HK23.out⟩
        · have HWK := Lib.hid (wakes_any w4 (HW.out.keep0 HK4.out))
          go_wp2_with fail
          refine HWK.out.mono ?_
          rintro e w23 ⟨rfl, k23⟩
          have HK23 := Lib.hid (HK4.out.trans k23)
          clear k23 HWK
          go_wp2_with fail
          go_ret
          exact ⟨rfl, HK23.out⟩
        · have HSM2 := Lib.hid (show ∀ f ∈ pre, f.1.length + f.2.length ≤ 60 from fun f hf => by
            rcases HSM.out f hf with h | h
            · exact h
            · unfold reqLong at hlong
              rw [Bool.or_eq_false_iff] at hlong
              have := List.any_eq_false.1 hlong.2 f hf
              exact absurd h this)
          have HOKH := Lib.hid hok
          clear hok hlong
          dsimp only at HB4
          cases host with
          | nil =>
            have hE0 := bs_nil_empty
            have hhl : ([] : List UInt8).length ≤ 253 := by
              simp
            have hlen := req_len hhl hpl HSM2.out
            have HHD := Lib.hid (request_head HOKH.out (by omega : pre.length ≤ 100))
            have HSX := Lib.hid (req_suffix [] pre)
            obtain ⟨RB, hRB⟩ : ∃ x, reqB [] pre = x := ⟨_, rfl⟩
            rw [hRB] at hlen HB4 HHD HSX ⊢
            dsimp only
            have HRB := Lib.hid hRB
            clear hRB
            rw [show foldN ([] : List UInt8) = [] by kernel_rfl, show (foldA ([] : List UInt8)).isSome = false by kernel_rfl]
            have HH1 := Lib.hid (fun x => (HHD.out x).1 rfl)
            obtain ⟨WH, hWH⟩ : ∃ n, RB.length = n := ⟨_, rfl⟩
            rw [hWH] at HB4 hlen ⊢
            have HWH := Lib.hid hWH
            have h9c : WH ≤ c9 := HB4.out.form.2.1
            have HHL := Lib.hid hhl
            clear hWH HHD hhl
            have hstr := (HB4.out).str0 22 9 5 Tryd.underlying22 Tryd.underlying5 Tryd.underlying9
            have hstr' : (convert 22 9 (.slice A9 (WH) c9)).run Tryd.prog w4 = .ok (.string (bs RB)) w4 := hstr
            have HSF := Lib.hid (Any.strings_HasSuffix Tryd.sufL (bs RB) ⟨#[13, 10, 13, 10]⟩ w4 (by rw [bs_size, HWH.out]; omega))
            rw [show Lib.hasSuffix (bs RB).data.toList (⟨#[13, 10, 13, 10]⟩ : ByteArray).data.toList = true from HSX.out] at HSF
            clear hstr
            have hpos : (0 : Int) < (WH : Int) := by omega
            go_wp2_with fail
            refine HSF.out.mono ?_
            rintro e w5 ⟨rfl, hw⟩
            obtain rfl := hw.symm
            clear hw HSF hstr'
            go_wp2_with fail
            go_loopg [15] (WH + 1) (fun g v wx => ∃ i : Nat, v = .int .i64 i ∧ i ≤ WH + 1 ∧ g = WH + 1 - i ∧ Hid (Keeps [] w4 wx))
            case atStart => exact ⟨0, rfl, by omega, by omega, Lib.hid (Keeps.refl _ _)⟩
            case round =>
              obtain ⟨i, rfl, hi, hg, HKR⟩ := hrel
              subst hg
              rcases Nat.lt_or_ge (WH) i with hgt | hle
              · have hie : i = WH + 1 := by omega
                subst hie
                clear hgt hi
                have HB4R := Lib.hid (HB4.out.keep0 HKR.out)
                have HRL := Lib.hid (show RB.length + x2.length ≤ 3000 by rw [HWH.out]; have := HL.out.2; omega)
                go_wp2_with (at_builtin; first | (refine app_W rfl _ _ wr (Keeps.refl [] wr) rfl _ ([]) rfl (own_nil wr _) _ RB rfl (HB4R.out) (by have := HRL.out; simp; omega) ?_; intro v2 w6 ho2 hk2') | (refine app_W rfl _ _ wr hk2' rfl _ ([] ++ RB) rfl ho2 _ x2 rfl (B2.out.keep0 ((HK4.out.trans HKR.out).trans hk2')) (by have := HRL.out; simp; omega) ?_; intro v3 w7 ho3 hk3))
                have HK7 := Lib.hid (show Keeps [] w4 w7 from HKR.out.trans hk3)
                have HK47 := Lib.hid (show OwnB w7 wr.heap.size v3 (RB ++ x2) from ho3)
                have HL3 := Lib.hid (look_B w7 (HW.out.keep0 (HK4.out.trans HK7.out)) v3 (RB ++ x2) HK47.out.bytes (by have := HRL.out; simp; omega))
                rw [show lookH (RB ++ x2) = (2, []) from lookH_ok (HH1.out x2)] at HL3
                dsimp only at HL3
                clear ho2 hk2' ho3 hk3
                refine HL3.out.mono ?_
                rintro e w8 ⟨rfl, k8⟩
                have HK8 := Lib.hid (HK7.out.trans k8)
                have HUP := Lib.hid (upper_any w8 (HW.out.keep0 (HK4.out.trans (HK7.out.trans k8))) [] (by simp <;> omega))
                clear k8 HL3
                rw [show toUpperD ([] : List UInt8) = [] by kernel_rfl] at HUP
                have HRU := Lib.hid (show reqR [] pre = (reqB [] pre, 0) by
                  unfold reqR
                  rw [HOKH.out, req_short hpl HSM2.out]
                  simp)
                have HUL := Lib.hid (show lookH (reqB [] pre) = (2, []) by
                  have h3 := (request_head HOKH.out (by omega : pre.length ≤ 100) []).1 rfl
                  rw [List.append_nil] at h3
                  exact lookH_ok h3)
                have HUN := Lib.hid (req_len (host := []) (by simp) hpl HSM2.out)
                go_wp2_with fail
                refine HUP.out.mono ?_
                rintro e w9 ⟨rfl, k9⟩
                have HK9 := Lib.hid (HK8.out.trans k9)
                have HRQ := Lib.hid (request_any w9 (HW.out.keep0 (HK4.out.trans (HK8.out.trans k9))) [] AF pre.length cF pre (HFV4.out.keep0 (HK8.out.trans k9)) (by omega) HZ.out (fun f hf => eqHost_any (HZ.out f hf).1))
                rw [HRU.out] at HRQ
                dsimp only at HRQ
                clear k9 HUP
                go_wp2_with fail
                refine HRQ.out.mono ?_
                rintro e w10 ⟨v20, rfl, hb20, k10⟩
                have HK10 := Lib.hid (HK9.out.trans k10)
                have HL20 := Lib.hid (look_B w10 (HW.out.keep0 (HK4.out.trans (HK9.out.trans k10))) v20 (reqB [] pre) hb20 (by have := HUN.out.2; omega))
                rw [HUL.out] at HL20
                dsimp only at HL20
                clear k10 HRQ hb20
                go_wp2_with fail
                refine HL20.out.mono ?_
                rintro e w11 ⟨rfl, k11⟩
                have HK11 := Lib.hid (HK10.out.trans k11)
                have HUP := Lib.hid (upper_any w11 (HW.out.keep0 (HK4.out.trans (HK10.out.trans k11))) [] (by simp <;> omega))
                rw [show toUpperD ([] : List UInt8) = [] by kernel_rfl] at HUP
                clear k11 HL20
                go_wp2_with fail
                refine HUP.out.mono ?_
                rintro e w12 ⟨rfl, k12⟩
                have HK12 := Lib.hid (HK11.out.trans k12)
                have HWK := Lib.hid (wakes_any w12 (HW.out.keep0 (HK4.out.trans (HK11.out.trans k12))))
                clear k12 HUP
                go_wp2_with fail
                refine HWK.out.mono ?_
                rintro e w13 ⟨rfl, k13⟩
                have HK13 := Lib.hid (HK12.out.trans k13)
                clear k13 HWK
                go_wp2_with fail
                go_ret
                exact ⟨rfl, HK4.out.trans HK13.out⟩
              · have hleI : (i : Int) ≤ (WH : Int) := by omega
                have hic : (i : Int) ≤ (c9 : Int) := by omega
                have hi0 : (0 : Int) ≤ (i : Int) := by omega
                have HLK := Lib.hid (look_any wr (HW.out.keep0 (HK4.out.trans HKR.out)) A9 i c9 (RB.take i) ((HB4.out.keep0 HKR.out).cut hle) (by omega))
                have hpx := head_prefix (b := RB) (by simpa using HH1.out []) i
                rcases Nat.lt_or_ge i WH with hlt | hge
                · have hltI : (i : Int) < (WH : Int) := by omega
                  have hgeI : ¬ (WH : Int) ≤ (i : Int) := by omega
                  rw [hpx.1 (by rw [HWH.out]; simp; omega)] at HLK
                  dsimp only at HLK
                  skip
                  clear hpx hlt
                  go_wp2_with fail
                  refine HLK.out.mono ?_
                  rintro e w20 ⟨rfl, k20⟩
                  have HK20 := Lib.hid (HKR.out.trans k20)
                  clear k20 HLK HKR
                  go_wp2_with fail
                  go_roundg (WH + 1 - (i + 1))
                  case measure => omega
                  case rel => exact ⟨i + 1, by go_num, by omega, rfl, HK20⟩
                · have hltI : ¬ (i : Int) < (WH : Int) := by omega
                  have hgeI : (WH : Int) ≤ (i : Int) := by omega
                  rw [hpx.2 (by rw [HWH.out]; simp; omega)] at HLK
                  dsimp only at HLK
                  clear hpx hge
                  go_wp2_with fail
                  refine HLK.out.mono ?_
                  rintro e w20 ⟨rfl, k20⟩
                  have HK20 := Lib.hid (HKR.out.trans k20)
                  clear k20 HLK HKR
                  go_wp2_with fail
                  go_roundg (WH + 1 - (i + 1))
                  case measure => omega
                  case rel => exact ⟨i + 1, by go_num, by omega, rfl, HK20⟩
          | cons h0 ht =>
            have HIS := Lib.hid (show (foldA (h0 :: ht)).isSome = true by
              have h1 := HOKH.out
              unfold reqOk at h1
              rw [Bool.and_eq_true] at h1
              simpa using h1.1)
            have hE := bs_empty h0 ht
            have hhl : (h0 :: ht).length ≤ 253 := by
              obtain ⟨l, hl⟩ := Option.isSome_iff_exists.1 HIS.out; exact (foldA_some hl).2.1
            have hlen := req_len hhl hpl HSM2.out
            have HHD := Lib.hid (request_head HOKH.out (by omega : pre.length ≤ 100))
            have HSX := Lib.hid (req_suffix (h0 :: ht) pre)
            obtain ⟨RB, hRB⟩ : ∃ x, reqB (h0 :: ht) pre = x := ⟨_, rfl⟩
            rw [hRB] at hlen HB4 HHD HSX ⊢
            dsimp only
            have HRB := Lib.hid hRB
            clear hRB
            obtain ⟨nm, hnm⟩ : ∃ nm, foldN (h0 :: ht) = nm := ⟨_, rfl⟩
            rw [hnm] at HHD ⊢
            rw [HIS.out]
            have HH1 := Lib.hid (fun x => (HHD.out x).2 (by simp))
            obtain ⟨low, hlow⟩ := Option.isSome_iff_exists.1 HIS.out
            have hnl : nm = low := by rw [← hnm]; unfold foldN; rw [hlow]; rfl
            have hE2 := bs_ne (show nm ≠ [] by rw [hnl]; exact (foldA_some (foldA_again hlow)).1)
            have HLOW := Lib.hid (And.intro hlow hnm)
            clear hlow hnl hnm
            obtain ⟨WH, hWH⟩ : ∃ n, RB.length = n + 2 := ⟨RB.length - 2, by omega⟩
            rw [hWH] at HB4 hlen ⊢
            have HWH := Lib.hid hWH
            have h9c : WH + 2 ≤ c9 := HB4.out.form.2.1
            have HHL := Lib.hid hhl
            clear hWH HHD hhl
            have hstr := (HB4.out).str0 22 9 5 Tryd.underlying22 Tryd.underlying5 Tryd.underlying9
            have hstr' : (convert 22 9 (.slice A9 (WH + 2) c9)).run Tryd.prog w4 = .ok (.string (bs RB)) w4 := hstr
            have HSF := Lib.hid (Any.strings_HasSuffix Tryd.sufL (bs RB) ⟨#[13, 10, 13, 10]⟩ w4 (by rw [bs_size, HWH.out]; omega))
            rw [show Lib.hasSuffix (bs RB).data.toList (⟨#[13, 10, 13, 10]⟩ : ByteArray).data.toList = true from HSX.out] at HSF
            clear hstr
            have hpos : (0 : Int) < (WH : Int) + 2 := by omega
            go_wp2_with fail
            refine HSF.out.mono ?_
            rintro e w5 ⟨rfl, hw⟩
            obtain rfl := hw.symm
            clear hw HSF hstr'
            go_wp2_with fail
            go_loopg [15] (WH + 2 + 1) (fun g v wx => ∃ i : Nat, v = .int .i64 i ∧ i ≤ WH + 2 + 1 ∧ g = WH + 2 + 1 - i ∧ Hid (Keeps [] w4 wx))
            case atStart => exact ⟨0, rfl, by omega, by omega, Lib.hid (Keeps.refl _ _)⟩
            case round =>
              obtain ⟨i, rfl, hi, hg, HKR⟩ := hrel
              subst hg
              rcases Nat.lt_or_ge (WH + 2) i with hgt | hle
              · have hie : i = WH + 2 + 1 := by omega
                subst hie
                clear hgt hi
                have HB4R := Lib.hid (HB4.out.keep0 HKR.out)
                have HRL := Lib.hid (show RB.length + x2.length ≤ 3000 by rw [HWH.out]; have := HL.out.2; omega)
                go_wp2_with (at_builtin; first | (refine app_W rfl _ _ wr (Keeps.refl [] wr) rfl _ ([]) rfl (own_nil wr _) _ RB rfl (HB4R.out) (by have := HRL.out; simp; omega) ?_; intro v2 w6 ho2 hk2') | (refine app_W rfl _ _ wr hk2' rfl _ ([] ++ RB) rfl ho2 _ x2 rfl (B2.out.keep0 ((HK4.out.trans HKR.out).trans hk2')) (by have := HRL.out; simp; omega) ?_; intro v3 w7 ho3 hk3))
                have HK7 := Lib.hid (show Keeps [] w4 w7 from HKR.out.trans hk3)
                have HK47 := Lib.hid (show OwnB w7 wr.heap.size v3 (RB ++ x2) from ho3)
                have HL3 := Lib.hid (look_B w7 (HW.out.keep0 (HK4.out.trans HK7.out)) v3 (RB ++ x2) HK47.out.bytes (by have := HRL.out; simp; omega))
                rw [show lookH (RB ++ x2) = (1, nm) from lookH_ok (HH1.out x2)] at HL3
                dsimp only at HL3
                clear ho2 hk2' ho3 hk3
                refine HL3.out.mono ?_
                rintro e w8 ⟨rfl, k8⟩
                have HK8 := Lib.hid (HK7.out.trans k8)
                have HUP := Lib.hid (upper_any w8 (HW.out.keep0 (HK4.out.trans (HK7.out.trans k8))) (h0 :: ht) (by have := HHL.out; omega))
                clear k8 HL3
                have HFU := Lib.hid (foldN_upper HLOW.out.1)
                obtain ⟨UP, hUP⟩ : ∃ u, toUpperD (h0 :: ht) = u := ⟨_, rfl⟩
                rw [hUP] at HUP HFU
                have HUPE := Lib.hid hUP
                clear hUP
                have HRU := Lib.hid (show reqR UP pre = (reqB UP pre, 0) by
                  have h1 : reqOk UP pre = true := by
                    have h2 := HOKH.out
                    unfold reqOk at h2 ⊢
                    rw [Bool.and_eq_true] at h2 ⊢
                    refine ⟨?_, h2.2⟩
                    rw [HFU.out.1]; simp
                  unfold reqR
                  rw [h1, req_short hpl HSM2.out]
                  simp)
                have HUL := Lib.hid (show lookH (reqB UP pre) = (1, nm) by
                  have h1 : reqOk UP pre = true := by
                    have h2 := HOKH.out
                    unfold reqOk at h2 ⊢
                    rw [Bool.and_eq_true] at h2 ⊢
                    refine ⟨?_, h2.2⟩
                    rw [HFU.out.1]; simp
                  have h3 := (request_head h1 (by omega : pre.length ≤ 100) []).2 (foldA_some HFU.out.1).1
                  rw [List.append_nil] at h3
                  rw [lookH_ok h3, HFU.out.2, HLOW.out.2])
                have HUN := Lib.hid (req_len (foldA_some HFU.out.1).2.1 hpl HSM2.out)
                have hE3 := bs_ne (foldA_some HFU.out.1).1
                go_wp2_with fail
                refine HUP.out.mono ?_
                rintro e w9 ⟨rfl, k9⟩
                have HK9 := Lib.hid (HK8.out.trans k9)
                have HRQ := Lib.hid (request_any w9 (HW.out.keep0 (HK4.out.trans (HK8.out.trans k9))) UP AF pre.length cF pre (HFV4.out.keep0 (HK8.out.trans k9)) (by omega) HZ.out (fun f hf => eqHost_any (HZ.out f hf).1))
                rw [HRU.out] at HRQ
                dsimp only at HRQ
                clear k9 HUP
                go_wp2_with fail
                refine HRQ.out.mono ?_
                rintro e w10 ⟨v20, rfl, hb20, k10⟩
                have HK10 := Lib.hid (HK9.out.trans k10)
                have HL20 := Lib.hid (look_B w10 (HW.out.keep0 (HK4.out.trans (HK9.out.trans k10))) v20 (reqB UP pre) hb20 (by have := HUN.out.2; omega))
                rw [HUL.out] at HL20
                dsimp only at HL20
                clear k10 HRQ hb20
                go_wp2_with fail
                refine HL20.out.mono ?_
                rintro e w11 ⟨rfl, k11⟩
                have HK11 := Lib.hid (HK10.out.trans k11)
                have HUP := Lib.hid (upper_any w11 (HW.out.keep0 (HK4.out.trans (HK10.out.trans k11))) (h0 :: ht) (by have := HHL.out; omega))
                rw [HUPE.out] at HUP
                clear k11 HL20
                go_wp2_with fail
                refine HUP.out.mono ?_
                rintro e w12 ⟨rfl, k12⟩
                have HK12 := Lib.hid (HK11.out.trans k12)
                have HWK := Lib.hid (wakes_any w12 (HW.out.keep0 (HK4.out.trans (HK11.out.trans k12))))
                clear k12 HUP
                go_wp2_with fail
                refine HWK.out.mono ?_
                rintro e w13 ⟨rfl, k13⟩
                have HK13 := Lib.hid (HK12.out.trans k13)
                clear k13 HWK
                go_wp2_with fail
                go_ret
                exact ⟨rfl, HK4.out.trans HK13.out⟩
              · have hleI : (i : Int) ≤ (WH : Int) + 2 := by omega
                have hic : (i : Int) ≤ (c9 : Int) := by omega
                have hi0 : (0 : Int) ≤ (i : Int) := by omega
                have HLK := Lib.hid (look_any wr (HW.out.keep0 (HK4.out.trans HKR.out)) A9 i c9 (RB.take i) ((HB4.out.keep0 HKR.out).cut hle) (by omega))
                have hpx := head_prefix (b := RB) (by simpa using HH1.out []) i
                rcases Nat.lt_or_ge i WH with hlt | hge
                · have hltI : (i : Int) < (WH : Int) := by omega
                  have hgeI : ¬ (WH : Int) ≤ (i : Int) := by omega
                  rw [hpx.1 (by rw [HWH.out]; simp; omega)] at HLK
                  dsimp only at HLK
                  have hE0 := bs_nil_empty
                  clear hpx hlt
                  go_wp2_with fail
                  refine HLK.out.mono ?_
                  rintro e w20 ⟨rfl, k20⟩
                  have HK20 := Lib.hid (HKR.out.trans k20)
                  clear k20 HLK HKR
                  go_wp2_with fail
                  go_roundg (WH + 2 + 1 - (i + 1))
                  case measure => omega
                  case rel => exact ⟨i + 1, by go_num, by omega, rfl, HK20⟩
                · have hltI : ¬ (i : Int) < (WH : Int) := by omega
                  have hgeI : (WH : Int) ≤ (i : Int) := by omega
                  rw [hpx.2 (by rw [HWH.out]; simp; omega)] at HLK
                  dsimp only at HLK
                  clear hpx hge
                  go_wp2_with fail
                  refine HLK.out.mono ?_
                  rintro e w20 ⟨rfl, k20⟩
                  have HK20 := Lib.hid (HKR.out.trans k20)
                  clear k20 HLK HKR
                  go_wp2_with fail
                  go_roundg (WH + 2 + 1 - (i + 1))
                  case measure => omega
                  case rel => exact ⟨i + 1, by go_num, by omega, rfl, HK20⟩
      | cons f post =>
        have hlt : (pre.length : Int) < (m1 : Int) := by have := HL.out.1; simp at hll; omega
        have hlt0 : pre.length < m1 := by omega
        have hp8 : pre.length < 8 := by omega
        have HSP := Lib.hid hsp
        obtain ⟨g, o, hA, hc⟩ := B1.out.2.2 (by omega)
        subst hA
        obtain ⟨hc1, hc2⟩ := hc pre.length f (by rw [hsp]; simp)
        have HF1 := Lib.hid (And.intro (cell_keeps hk hc1 (by simp)) (cell_keeps hk hc2 (by simp)))
        obtain ⟨hz1, hz2⟩ := HZ.out f (by rw [hsp]; simp)
        clear hc hc1 hc2 hsp hll hk ho hsm
        obtain ⟨fa, fb⟩ := f
        dsimp only at HF1 hz1 hz2
        have s1 : (bs fa).size = fa.length := rfl
        have s2 : (bs fb).size = fb.length := rfl
        obtain ⟨sm, hsmw⟩ : ∃ sm : Int, IntKind.i64.wrap ((fa.length : Int) + (fb.length : Int)) = sm := ⟨_, rfl⟩
        have HSW := Lib.hid (show wrap64 ((fa.length : Int) + (fb.length : Int)) = sm by rw [← hsmw, IntKind.wrap_i64, wrap64])
        go_upto_region 6 with fail
        go_cut [53] (fun bv wx => bv = .bool (decide ((60 : Int) < sm)) ∧ wx = wr.drew)
        case first =>
          go_region_held3 (fun W => W.cell? ⟨g, o + pre.length * 2, none⟩ = some (.string (bs fa)) ∧ W.cell? ⟨g, o + pre.length * 2 + 1, none⟩ = some (.string (bs fb))) (exact HF1.out) (fail)
          all_goals
            go_wp2_with fail
            go_meet
            exact ⟨by first | rfl | simp [hsmw] | (rw [← hsmw]), rfl⟩
        case rest =>
          clear hsmw
          obtain ⟨rfl, hwx⟩ := hcut
          have HKD := Lib.hid (show Keeps [] w wc by rw [hwx]; exact HK.out.drew')
          have HKE := Lib.hid (show Keeps [] wr wc by rw [hwx]; exact (Keeps.refl [] wr).drew')
          clear hwx s1 s2
          by_cases h60 : 60 < sm
          · have h60b : decide ((60 : Int) < sm) = true := decide_eq_true h60
            rw [h60b]
            have HWK := Lib.hid (wakes_any wc (HW.out.keep0 HKD.out))
            clear h60 h60b
            go_wp2_with fail
            refine HWK.out.mono ?_
            rintro e w23 ⟨rfl, k23⟩
            have HK23 := Lib.hid (HKD.out.trans k23)
            clear k23 HWK
            go_wp2_with fail
            go_ret
            exact ⟨rfl, HK23.out⟩
          · have h60b : decide ((60 : Int) < sm) = false := decide_eq_false h60
            have HQ := Lib.hid (show fa.length + fb.length ≤ 60 ∨ fieldLong (fa, fb) = true by
              have h1 := HSW.out
              unfold wrap64 at h1
              by_cases hs : fa.length + fb.length ≤ 60
              · exact .inl hs
              · refine .inr ?_
                unfold fieldLong
                simp only [Bool.or_eq_true, decide_eq_true_eq]
                omega)
            rw [h60b]
            have f1 := cell_keeps HKE.out HF1.out.1 (by simp)
            have f2 := cell_keeps HKE.out HF1.out.2 (by simp)
            clear h60b h60
            obtain ⟨ib, hib⟩ : ∃ ib, wc.heap.size = ib := ⟨_, rfl⟩
            obtain ⟨w2, hw2⟩ : ∃ w2, wc.alloc (.cells #[.string (bs fa), .string (bs fb)] 32) = w2 := ⟨_, rfl⟩
            have k2 : Keeps [] wc w2 := by rw [← hw2]; exact Keeps.alloc [] wc _
            have hb2 : w2.heap[ib]? = some (.cells #[.string (bs fa), .string (bs fb)] 32 (0, 0)) := by rw [← hw2, ← hib]; exact (MapKept.heap_alloc wc _).1
            have HD := Lib.hid (show w2.cell? ⟨ib, 0, none⟩ = some (.string (bs fa)) ∧ w2.cell? ⟨ib, 1, none⟩ = some (.string (bs fb)) from ⟨cell_of_block hb2 0, cell_of_block hb2 1⟩)
            have HO2 := Lib.hid ((HO.out.keep0 HKE.out).keep0 k2)
            have HK2 := Lib.hid (HKD.out.trans k2)
            clear k2 hb2
            go_wp2_with (at_builtin; refine wpList_append_F rfl _ _ 30 rfl Tryd.underlying30 _ pre rfl HO2.out ⟨ib, 0, none⟩ 1 (fa, fb) rfl HD.out.1 (by simpa [Addr.add] using HD.out.2) (by omega) HK2.out ?_; intro v2 w3 ho3 hk3)
            go_roundg post.length
            case measure => simp
            case rel => exact ⟨pre ++ [(fa, fb)], post, by rw [HSP.out]; simp, rfl, ho3, by simp, fun f hf => by
              rcases List.mem_append.1 hf with h | h
              · exact HSM.out f h
              · rw [List.mem_singleton.1 h]; exact HQ.out, hk3⟩
end Go.Proofs.YtjppfdilfcokeaaDoor
