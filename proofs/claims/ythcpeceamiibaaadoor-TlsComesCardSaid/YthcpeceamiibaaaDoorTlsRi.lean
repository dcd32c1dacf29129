/-
  The walk of the document's own Hello. Condition: none on the bytes; at most 1,000 parts.
-/
import Derived.Test.YthcpeceamiibaaaDoorTlsRh
import Derived.Test.YthcpeceamiibaaaDoorTlsRf
import Derived.Deep.Cut
namespace Go.Proofs.YthcpeceamiibaaaDoor
open Go.RowKit Go.Lib
set_option linter.unusedVariables false
set_option linter.unusedSimpArgs false

/-- what Hello tells, where the name may be -/
def helloR (name before behind : List UInt8) (parts : List Int) : Int × List UInt8 :=
  if parts.any lowQ = true then (1, []) else if 1000 < before.length ∨ 1000 < behind.length then (3, []) else (0, helloB name before behind parts)
theorem any_take {parts : List Int} {i : Nat} {z : Int} (hz : parts[i]? = some z) (h : (parts.take i).any lowQ = false) (hq : lowQ z = false) : (parts.take (i + 1)).any lowQ = false := by
  rw [List.take_add_one, hz, List.any_append, h]
  simp [hq]
theorem next_k {pn i : Nat} (hp : 0 < pn) : min (i + 1) (pn - 1) = if min i (pn - 1) + 1 < pn then min i (pn - 1) + 1 else min i (pn - 1) := by
  split <;> omega
theorem rec_cells2 {n : Nat} (hn : n < 65536) : (#[Value.int .u8 22, .int .u8 3, .int .u8 1, .int .u8 ((n : Int) / 256), .int .u8 ((n : Int) % 256)] : Array Value).toList = ([22, 3, 1] ++ u16L n).map u8V := by
  rw [List.map_append, ← u16_cells hn]
  rfl
theorem allB_len {name before behind : List UInt8} {n1 n2 : Nat} (h1 : before.length = n1) (h2 : behind.length = n2) (h3 : n1 ≤ 1000) (h4 : n2 ≤ 1000) (hn : name.length ≤ 253) : (allB name before behind).length ≤ 3100 := by
  unfold allB bodyB extB
  split
  · simp only [List.length_append, withL_len, List.length_cons, List.length_nil, u16L, List.length_replicate]
    omega
  · simp only [List.length_append, withL_len, List.length_cons, List.length_nil, u16L, List.length_replicate]
    omega
set_option maxRecDepth 100000 in
set_option maxHeartbeats 16000000 in
theorem rhello_none (w : World) (name : ByteArray) (hnm : name = ByteArray.empty) (A1 A2 : Option Addr) (n1 n2 c1 c2 : Nat) (before behind : List UInt8) (hb1 : BytesV w (.slice A1 n1 c1) before) (hb2 : BytesV w (.slice A2 n2 c2) behind)
    (pA : Option Addr) (pn pc : Nat) (parts : List Int) (hp : IntsV w pA pn pc parts) (hpn : pn ≤ 1000) :
    Calls Tryd.prog 14 #[.string name, .slice A1 n1 c1, .slice A2 n2 c2, .slice pA pn pc] w fun en w' => ∃ v, en = .returned (.tuple #[v, .int .i64 (helloR name.data.toList before behind parts).1]) ∧ OwnB w' w.heap.size v (helloR name.data.toList before behind parts).2 ∧ Keeps [] w w' := by
  obtain ⟨RES, hRES⟩ : ∃ r, helloR name.data.toList before behind parts = r := ⟨_, rfl⟩
  rw [hRES]
  unfold helloR at hRES
  have hl1 : before.length = n1 := hb1.form.1.symm
  have hl2 : behind.length = n2 := hb2.form.1.symm
  have HF := Lib.hid (rfold_any w name)
  have HB1 := Lib.hid hb1
  have HB2 := Lib.hid hb2
  have HP := Lib.hid hp
  have HL := Lib.hid (And.intro hl1 hl2)
  have HPL := Lib.hid hp.1
  have HRES := Lib.hid hRES
  subst hnm
  rw [show foldIs ByteArray.empty = false from rfl, show foldB ByteArray.empty = ByteArray.empty from rfl] at HF
  clear hb1 hb2 hp hl1 hl2 hRES
  go_enter Tryd.func14, Tryd.ntmps14
  go_wp2_with fail
  refine HF.out.mono ?_
  rintro en w1 ⟨rfl, k1⟩
  have HK1 := Lib.hid k1
  have HP1 := Lib.hid (HP.out.keep0 k1)
  clear k1 HF
  go_wp2_with fail
  go_loopw [12] (fun iv wr => ∃ i : Nat, iv = .int .i64 i ∧ i ≤ pn ∧ wr = w1 ∧ Hid ((parts.take i).any lowQ = false)) (fun iv _ => pn - (intOf iv).toNat)
  case atStart => exact ⟨0, rfl, by omega, rfl, Lib.hid (by simp)⟩
  case round =>
    obtain ⟨i, rfl, hi, hww, hany⟩ := hrel
    obtain rfl := hww.symm
    by_cases hlt : i < pn
    · have hlt' : (i : Int) < (pn : Int) := by omega
      have hi0 : (0 : Int) ≤ (i : Int) := by omega
      obtain ⟨pg, po, rfl, hpc⟩ := HP1.out.2.2.2 (by omega)
      obtain ⟨z, hz⟩ : ∃ z, parts[i]? = some z := ⟨_, List.getElem?_eq_getElem (by rw [HPL.out]; exact hlt)⟩
      have hcz : w1.cell? ⟨pg, po + i, none⟩ = some (.int .i64 z) := hpc i z hz
      by_cases hz1 : z < 1
      · have hall : parts.any lowQ = true := List.any_eq_true.2 ⟨z, List.mem_of_getElem? hz, by unfold lowQ; simpa using hz1⟩
        have hr := HRES.out
        rw [if_pos hall] at hr
        have HRR := Lib.hid hr
        clear hr hall hz hpc
        go_wp2_with fail
        refine bodyPost_ret (v := .tuple #[.slice none 0 0, .int .i64 1]) (by simp [results, Tryd.results14, go_sem]) rfl ?_
        rw [← HRR.out]
        exact ⟨_, rfl, World.ownsRow_nil _ _ _ _, HK1.out⟩
      · have HN := Lib.hid (any_take hz hany.out (by unfold lowQ; simpa using hz1))
        clear hz hpc
        go_wp2_with fail
        refine ⟨⟨i + 1, by simp, hlt, trivial, HN⟩, ?_⟩
        have e1 : (intOf (Value.int .i64 ((i : Int) + 1))).toNat = i + 1 := by show ((i : Int) + 1).toNat = i + 1; omega
        have e2 : (intOf (Value.int .i64 (i : Int))).toNat = i := by show ((i : Int)).toNat = i; omega
        rw [e1, e2]
        omega
    · obtain rfl : pn = i := by omega
      have hlt' : ¬ (pn : Int) < (pn : Int) := by omega
      have hall : parts.any lowQ = false := by
        have := hany.out
        rwa [List.take_of_length_le (by rw [HPL.out]; exact Nat.le_refl _)] at this
      have hr := HRES.out
      rw [if_neg (by rw [hall]; simp), HL.out.1, HL.out.2] at hr
      have HALL := Lib.hid hall
      clear hall
      by_cases hlong : 1000 < n1 ∨ 1000 < n2
      · rw [if_pos hlong] at hr
        have HRR := Lib.hid hr
        clear hr
        rcases Nat.lt_or_ge 1000 n1 with hq | hq
        case' inl => have hq1 : (1000 : Int) < (n1 : Int) := by omega
        case' inr =>
          have hq1 : ¬ (1000 : Int) < (n1 : Int) := by omega
          have hq2 : (1000 : Int) < (n2 : Int) := by omega
        all_goals
          clear hq hlong
          go_wp2_with fail
          refine bodyPost_ret (v := .tuple #[.slice none 0 0, .int .i64 3]) (by simp [results, Tryd.results14, go_sem]) rfl ?_
          rw [← HRR.out]
          exact ⟨_, rfl, World.ownsRow_nil _ _ _ _, HK1.out⟩
      · rw [if_neg hlong] at hr
        have hq1 : ¬ (1000 : Int) < (n1 : Int) := by omega
        have hq2 : ¬ (1000 : Int) < (n2 : Int) := by omega
        have HBO := Lib.hid (rbody_none w1 ByteArray.empty rfl A1 A2 n1 n2 c1 c2 before behind (HB1.out.keep0 HK1.out) (HB2.out.keep0 HK1.out) (by omega) (by omega))
        have HRR := Lib.hid hr
        clear hr hlong
        go_wp2_with fail
        refine HBO.out.mono ?_
        rintro en w2 ⟨v2, rfl, ho2, k2⟩
        obtain ⟨AL, hAL⟩ : ∃ AL, allB ByteArray.empty.data.toList before behind = AL := ⟨_, rfl⟩
        rw [hAL] at ho2
        obtain ⟨M, hM⟩ : ∃ M, AL.length = M := ⟨_, rfl⟩
        obtain ⟨A2', c2', e2⟩ := ho2.form
        rw [hM] at e2
        subst e2
        have hMb : M ≤ 3100 := by rw [← hM, ← hAL]; exact allB_len HL.out.1 HL.out.2 (by omega) (by omega) (by show 0 ≤ 253; omega)
        have HR0 := Lib.hid (show (0, recG M parts 0 [] AL) = RES by
          rw [← HRR.out, ← hM, ← hAL]
          rfl)
        have HBY := Lib.hid (show BytesV w2 (.slice A2' M c2') AL from ho2.bytes)
        have HK2 := Lib.hid (HK1.out.trans k2)
        have HP2 := Lib.hid (HP1.out.keep0 k2)
        clear ho2 k2 HBO hAL hM
        go_wp2_with fail
        go_loopw [13, 14, 15] (fun av ov kv wr => ∃ A' n' c' rest outl i, av = .slice A' n' c' ∧ kv = .int .i64 ((min i (pn - 1) : Nat) : Int) ∧ Hid (BytesV w2 (.slice A' n' c') rest) ∧ Hid (OwnB wr w2.heap.size ov outl) ∧ Hid (Keeps [] w2 wr) ∧ Hid ((0, recG n' parts i outl rest) = RES) ∧ i + n' ≤ 3100 ∧ outl.length + 6 * n' ≤ 20000) (fun av _ _ _ => match av with | .slice _ n _ => n | _ => 0)
        case atStart => exact ⟨A2', M, c2', AL, [], 0, rfl, by simp, HBY, Lib.hid (World.ownsRow_nil _ _ _ _), Lib.hid (Keeps.refl _ _), HR0, by omega, by simp; omega⟩
        case round =>
          obtain ⟨A', n', c', rest, outl, i, rfl, rfl, HBI, HO, HK, HG, hin, hout⟩ := hrel
          have hlen := HBI.out.form
          by_cases h0 : n' = 0
          · subst h0
            have hr0 : rest = [] := List.eq_nil_of_length_eq_zero hlen.1.symm
            subst hr0
            have HG2 := Lib.hid (show (0, outl) = RES from HG.out)
            clear hlen HG HR0 hin hout
            go_wp2_with fail
            refine bodyPost_ret (v := .tuple #[u14, .int .i64 0]) (by simp [results, Tryd.results14, go_sem]) rfl ?_
            rw [← HG2.out]
            exact ⟨u14, rfl, HO.out.weak HK2.out.size, HK2.out.trans HK.out⟩
          · have hn0 : (0 : Int) < (n' : Int) := by omega
            obtain ⟨g, o, rfl, _⟩ := HBI.out.get (by omega)
            obtain ⟨sv, hsv⟩ : ∃ sv, sizeAt parts i = sv := ⟨_, rfl⟩
            have hsp := sizeAt_pos HALL.out i
            rw [hsv] at hsp
            obtain ⟨nn, hnn⟩ : ∃ nn, min sv n' = nn := ⟨_, rfl⟩
            have hnn1 : 1 ≤ nn := by omega
            have hnn2 : nn ≤ n' := by omega
            have hnn3 : nn < 65536 := by omega
            have hcc := hlen.2.1
            have hcI : (nn : Int) ≤ (c' : Int) := by omega
            have hnI : (nn : Int) ≤ (n' : Int) := by omega
            have hncI : (n' : Int) ≤ (c' : Int) := by omega
            have h0I : (0 : Int) ≤ (nn : Int) := by omega
            have hne : rest ≠ [] := fun h => by rw [h] at hlen; simp at hlen; omega
            have hstep : recG n' parts i outl rest = recG (n' - nn) parts (i + 1) (outl ++ ([22, 3, 1] ++ u16L nn) ++ rest.take nn) (rest.drop nn) := by
              obtain ⟨k, hk⟩ : ∃ k, n' = k + 1 := ⟨n' - 1, by omega⟩
              have e : min (sizeAt parts i) rest.length = nn := by rw [← hlen.1, hsv]; exact hnn
              rw [hk, recG, if_neg hne, e, ← List.append_assoc outl]
              exact recG_fuel HALL.out _ _ _ _ _ (by rw [List.length_drop]; omega) (by rw [List.length_drop]; omega)
            obtain ⟨X, hX⟩ : ∃ X, (if c' = nn then some (⟨g, o, none⟩ : Addr) else some ⟨g, o + nn, none⟩) = X := ⟨_, rfl⟩
            have hpart : BytesV w2 (.slice (some ⟨g, o, none⟩) nn c') (rest.take nn) := by
              have h := HBI.out.sub (lo := 0) (hi := nn) (by omega) (by omega) (some ⟨g, o, none⟩) c' (fun _ => rfl) (by omega) hlen.2.2
              simpa using h
            have hrest : BytesV w2 (.slice X (n' - nn) (c' - nn)) (rest.drop nn) := by
              have h := HBI.out.sub (lo := nn) (hi := n') (by omega) (by omega) X (c' - nn) (fun h1 => by rw [← hX, if_neg (by omega)]) (by omega) (Nat.le_trans (Nat.sub_le _ _) hlen.2.2)
              rw [List.take_of_length_le (by rw [List.length_drop]; omega)] at h
              exact h
            have HPA := Lib.hid hpart
            have HRE := Lib.hid hrest
            have hg2 := HG.out
            rw [hstep] at hg2
            have HG2 := Lib.hid hg2
            have hsz : outl.length + 5 + 6 * (n' - nn) + nn ≤ 20000 := by omega
            have hin2 : i + 1 + (n' - nn) ≤ 3100 := by omega
            have HSZ := Lib.hid (And.intro hsz (And.intro hin2 (And.intro hnn1 (And.intro hnn2 (And.intro hout hlen.1)))))
            have HNN := Lib.hid (And.intro hnn (And.intro hsv hsp))
            have HRC := Lib.hid (rec_cells2 hnn3)
            obtain ⟨jj, hjj⟩ : ∃ jj, min i (pn - 1) = jj := ⟨_, rfl⟩
            obtain ⟨j2, hj2⟩ : ∃ jj, min (i + 1) (pn - 1) = jj := ⟨_, rfl⟩
            have HJ := Lib.hid (And.intro hjj hj2)
            rw [hjj]
            clear hpart hrest hstep hsz hin2 hout hin hcc hne HG HR0 hg2 hlen
            by_cases hp0 : pn = 0
            · subst hp0
              have hpe : parts = [] := List.eq_nil_of_length_eq_zero HPL.out
              have hs4 : sv = 16384 := by rw [← hsv]; unfold sizeAt; rw [if_pos hpe]
              have hjz : jj = 0 := by omega
              have hjz2 : j2 = 0 := by omega
              subst hjz hjz2 hs4
              obtain rfl : nn = n' := by have := HSZ.out; omega
              have hbig : (nn : Int) < 16384 := by have := HSZ.out.2.1; have := HSZ.out.2.2.2.2.1; omega
              clear hnn hpe hsv hjj hj2 hsp
              go_wp2_with (at_builtin; first | (refine app_W rfl _ _ w2 (HK.out.alloc' _) rfl _ outl rfl (HO.out.keep0 (Keeps.alloc [] wr _)) _ ([22, 3, 1] ++ u16L nn) rfl (BytesV.of_own (own_new wr _ _ HRC.out (by simp [u16L, maxLen]))) (by have := HSZ.out; simp only [List.length_append, List.length_cons, List.length_nil, u16L, List.length_take]; omega) ?_; intro v20 w20 ho20 hk20) | (refine app_W rfl _ _ w2 hk20 rfl _ (outl ++ ([22, 3, 1] ++ u16L nn)) rfl ho20 _ (rest.take nn) rfl (HPA.out.keep0 hk20) (by have := HSZ.out; simp only [List.length_append, List.length_cons, List.length_nil, u16L, List.length_take]; omega) ?_; intro v21 w21 ho21 hk21))
              obtain ⟨q1, q2, q3, q4, q5, q6⟩ := HSZ.out
              have hre := HRE.out
              have hgg := HG2.out
              rw [Nat.sub_self] at hre hgg
              have hlt : (rest.take nn).length = nn := by rw [List.length_take]; omega
              exact ⟨_, _, _, ⟨X, 0, c' - nn, rfl, rfl, rest.drop nn, Lib.hid hre, outl ++ ([22, 3, 1] ++ u16L nn) ++ rest.take nn, Lib.hid ho21, Lib.hid trivial, i + 1, Lib.hid hgg, by omega, by simp only [List.length_append, hlt, List.length_cons, List.length_nil, u16L]; omega⟩, rfl, rfl, rfl⟩
            · obtain ⟨pg, po, rfl, hpc⟩ := HP2.out.2.2.2 (by omega)
              have hpe : parts ≠ [] := fun h => hp0 (by rw [← HPL.out, h]; rfl)
              obtain ⟨z, hz, hze⟩ := sizeAt_some hpe i
              rw [HPL.out, hjj] at hz
              have hz1 := part_pos HALL.out hz
              rw [hsv] at hze
              have hcz : wr.cell? ⟨pg, po + jj, none⟩ = some (.int .i64 z) := cell_keeps HK.out (hpc jj z hz) (by simp)
              have hj1 : (0 : Int) ≤ (jj : Int) := by omega
              have hj3 : (jj : Int) < (pn : Int) := by omega
              have hjb : jj ≤ 1000 := by omega
              have hp1 : (0 : Int) < (pn : Int) := by omega
              have HZE := Lib.hid hze
              have HJ2 := Lib.hid (show j2 = if jj + 1 < pn then jj + 1 else jj by rw [← hj2, ← hjj]; exact next_k (by omega))
              clear hnn hpe hz hpc hsv hjj hj2 hsp hze
              go_upto_if 64 with fail
              go_cut [16] (fun nv wx => nv = .int .i64 (sv : Int) ∧ wx = wr)
              case first =>
                by_cases hzz : z < 16384
                · have hs : (sv : Int) = z := by have := HZE.out; omega
                  go_wp2_with fail
                  go_meet
                  exact ⟨by rw [hs], rfl⟩
                · have hs : (sv : Int) = 16384 := by have := HZE.out; omega
                  go_wp2_with fail
                  go_meet
                  exact ⟨by rw [hs], rfl⟩
              case rest =>
                obtain ⟨rfl, hwx⟩ := hcut
                obtain rfl := hwx.symm
                go_upto_if 73 with fail
                go_cut [15] (fun kv wx => kv = .int .i64 (j2 : Int) ∧ wx = wr)
                case first =>
                  by_cases hk : jj + 1 < pn
                  · have hs : j2 = jj + 1 := by rw [HJ2.out, if_pos hk]
                    have hk' : (jj : Int) + 1 < (pn : Int) := by omega
                    go_wp2_with fail
                    go_meet
                    exact ⟨by rw [hs]; simp, rfl⟩
                  · have hs : j2 = jj := by rw [HJ2.out, if_neg hk]
                    have hk' : ¬ (jj : Int) + 1 < (pn : Int) := by omega
                    go_wp2_with fail
                    go_meet
                    exact ⟨by rw [hs], rfl⟩
                case rest =>
                  obtain ⟨rfl, hwx⟩ := hcut
                  obtain rfl := hwx.symm
                  go_upto_if 79 with fail
                  go_cut [16] (fun nv wx => nv = .int .i64 (nn : Int) ∧ wx = wr)
                  case first =>
                    by_cases hq : n' < sv
                    · have hs : nn = n' := by have := HNN.out.1; omega
                      have hq' : (n' : Int) < (sv : Int) := by omega
                      go_wp2_with fail
                      go_meet
                      exact ⟨by rw [hs], rfl⟩
                    · have hs : nn = sv := by have := HNN.out.1; omega
                      have hq' : ¬ (n' : Int) < (sv : Int) := by omega
                      go_wp2_with fail
                      go_meet
                      exact ⟨by rw [hs], rfl⟩
                  case rest =>
                    obtain ⟨rfl, hwx⟩ := hcut
                    obtain rfl := hwx.symm
                    go_wp2_with (at_builtin; first | (refine app_W rfl _ _ w2 (HK.out.alloc' _) rfl _ outl rfl (HO.out.keep0 (Keeps.alloc [] wr _)) _ ([22, 3, 1] ++ u16L nn) rfl (BytesV.of_own (own_new wr _ _ HRC.out (by simp [u16L, maxLen]))) (by have := HSZ.out; simp only [List.length_append, List.length_cons, List.length_nil, u16L, List.length_take]; omega) ?_; intro v20 w20 ho20 hk20) | (refine app_W rfl _ _ w2 hk20 rfl _ (outl ++ ([22, 3, 1] ++ u16L nn)) rfl ho20 _ (rest.take nn) rfl (HPA.out.keep0 hk20) (by have := HSZ.out; simp only [List.length_append, List.length_cons, List.length_nil, u16L, List.length_take]; omega) ?_; intro v21 w21 ho21 hk21))
                    obtain ⟨q1, q2, q3, q4, q5, q6⟩ := HSZ.out
                    have hlt : (rest.take nn).length = nn := by rw [List.length_take]; omega
                    refine ⟨⟨X, n' - nn, c' - nn, rest.drop nn, outl ++ ([22, 3, 1] ++ u16L nn) ++ rest.take nn, i + 1, rfl, by rw [HJ.out.2], HRE, Lib.hid ho21, Lib.hid hk21, HG2, by omega, ?_⟩, ?_⟩
                    · simp only [List.length_append, hlt, List.length_cons, List.length_nil, u16L]
                      omega
                    · show n' - nn < n'
                      omega
set_option maxRecDepth 100000 in
set_option maxHeartbeats 16000000 in
theorem rhello_named (w : World) (name : ByteArray) (hnm : name.data.toList ≠ [] ∧ name.size ≤ 253 ∧ foldIs name = true) (A1 A2 : Option Addr) (n1 n2 c1 c2 : Nat) (before behind : List UInt8) (hb1 : BytesV w (.slice A1 n1 c1) before) (hb2 : BytesV w (.slice A2 n2 c2) behind)
    (pA : Option Addr) (pn pc : Nat) (parts : List Int) (hp : IntsV w pA pn pc parts) (hpn : pn ≤ 1000) :
    Calls Tryd.prog 14 #[.string name, .slice A1 n1 c1, .slice A2 n2 c2, .slice pA pn pc] w fun en w' => ∃ v, en = .returned (.tuple #[v, .int .i64 (helloR name.data.toList before behind parts).1]) ∧ OwnB w' w.heap.size v (helloR name.data.toList before behind parts).2 ∧ Keeps [] w w' := by
  obtain ⟨RES, hRES⟩ : ∃ r, helloR name.data.toList before behind parts = r := ⟨_, rfl⟩
  rw [hRES]
  unfold helloR at hRES
  have hl1 : before.length = n1 := hb1.form.1.symm
  have hl2 : behind.length = n2 := hb2.form.1.symm
  have HF := Lib.hid (rfold_any w name)
  have HB1 := Lib.hid hb1
  have HB2 := Lib.hid hb2
  have HP := Lib.hid hp
  have HL := Lib.hid (And.intro hl1 hl2)
  have HPL := Lib.hid hp.1
  have HRES := Lib.hid hRES
  obtain ⟨hne, hns, hfi⟩ := hnm
  have hE : name.toList.isEmpty = false := by rw [Lib.toList_data]; cases h : name.data.toList with
    | nil => exact absurd h hne
    | cons a l => rfl
  obtain ⟨low, hlow2⟩ : ∃ low, foldB name = low := ⟨_, rfl⟩
  rw [hfi, hlow2] at HF
  have HNE := Lib.hid (And.intro hne hns)
  clear hne hns hfi hlow2
  clear hb1 hb2 hp hl1 hl2 hRES
  go_enter Tryd.func14, Tryd.ntmps14
  go_wp2_with fail
  refine HF.out.mono ?_
  rintro en w1 ⟨rfl, k1⟩
  have HK1 := Lib.hid k1
  have HP1 := Lib.hid (HP.out.keep0 k1)
  clear k1 HF
  go_wp2_with fail
  go_loopw [12] (fun iv wr => ∃ i : Nat, iv = .int .i64 i ∧ i ≤ pn ∧ wr = w1 ∧ Hid ((parts.take i).any lowQ = false)) (fun iv _ => pn - (intOf iv).toNat)
  case atStart => exact ⟨0, rfl, by omega, rfl, Lib.hid (by simp)⟩
  case round =>
    obtain ⟨i, rfl, hi, hww, hany⟩ := hrel
    obtain rfl := hww.symm
    by_cases hlt : i < pn
    · have hlt' : (i : Int) < (pn : Int) := by omega
      have hi0 : (0 : Int) ≤ (i : Int) := by omega
      obtain ⟨pg, po, rfl, hpc⟩ := HP1.out.2.2.2 (by omega)
      obtain ⟨z, hz⟩ : ∃ z, parts[i]? = some z := ⟨_, List.getElem?_eq_getElem (by rw [HPL.out]; exact hlt)⟩
      have hcz : w1.cell? ⟨pg, po + i, none⟩ = some (.int .i64 z) := hpc i z hz
      by_cases hz1 : z < 1
      · have hall : parts.any lowQ = true := List.any_eq_true.2 ⟨z, List.mem_of_getElem? hz, by unfold lowQ; simpa using hz1⟩
        have hr := HRES.out
        rw [if_pos hall] at hr
        have HRR := Lib.hid hr
        clear hr hall hz hpc
        go_wp2_with fail
        refine bodyPost_ret (v := .tuple #[.slice none 0 0, .int .i64 1]) (by simp [results, Tryd.results14, go_sem]) rfl ?_
        rw [← HRR.out]
        exact ⟨_, rfl, World.ownsRow_nil _ _ _ _, HK1.out⟩
      · have HN := Lib.hid (any_take hz hany.out (by unfold lowQ; simpa using hz1))
        clear hz hpc
        go_wp2_with fail
        refine ⟨⟨i + 1, by simp, hlt, trivial, HN⟩, ?_⟩
        have e1 : (intOf (Value.int .i64 ((i : Int) + 1))).toNat = i + 1 := by show ((i : Int) + 1).toNat = i + 1; omega
        have e2 : (intOf (Value.int .i64 (i : Int))).toNat = i := by show ((i : Int)).toNat = i; omega
        rw [e1, e2]
        omega
    · obtain rfl : pn = i := by omega
      have hlt' : ¬ (pn : Int) < (pn : Int) := by omega
      have hall : parts.any lowQ = false := by
        have := hany.out
        rwa [List.take_of_length_le (by rw [HPL.out]; exact Nat.le_refl _)] at this
      have hr := HRES.out
      rw [if_neg (by rw [hall]; simp), HL.out.1, HL.out.2] at hr
      have HALL := Lib.hid hall
      clear hall
      by_cases hlong : 1000 < n1 ∨ 1000 < n2
      · rw [if_pos hlong] at hr
        have HRR := Lib.hid hr
        clear hr
        rcases Nat.lt_or_ge 1000 n1 with hq | hq
        case' inl => have hq1 : (1000 : Int) < (n1 : Int) := by omega
        case' inr =>
          have hq1 : ¬ (1000 : Int) < (n1 : Int) := by omega
          have hq2 : (1000 : Int) < (n2 : Int) := by omega
        all_goals
          clear hq hlong
          go_wp2_with fail
          refine bodyPost_ret (v := .tuple #[.slice none 0 0, .int .i64 3]) (by simp [results, Tryd.results14, go_sem]) rfl ?_
          rw [← HRR.out]
          exact ⟨_, rfl, World.ownsRow_nil _ _ _ _, HK1.out⟩
      · rw [if_neg hlong] at hr
        have hq1 : ¬ (1000 : Int) < (n1 : Int) := by omega
        have hq2 : ¬ (1000 : Int) < (n2 : Int) := by omega
        have HBO := Lib.hid (rbody_named w1 name HNE.out A1 A2 n1 n2 c1 c2 before behind (HB1.out.keep0 HK1.out) (HB2.out.keep0 HK1.out) (by omega) (by omega))
        have HRR := Lib.hid hr
        clear hr hlong
        go_wp2_with fail
        refine HBO.out.mono ?_
        rintro en w2 ⟨v2, rfl, ho2, k2⟩
        obtain ⟨AL, hAL⟩ : ∃ AL, allB name.data.toList before behind = AL := ⟨_, rfl⟩
        rw [hAL] at ho2
        obtain ⟨M, hM⟩ : ∃ M, AL.length = M := ⟨_, rfl⟩
        obtain ⟨A2', c2', e2⟩ := ho2.form
        rw [hM] at e2
        subst e2
        have hMb : M ≤ 3100 := by rw [← hM, ← hAL]; exact allB_len HL.out.1 HL.out.2 (by omega) (by omega) (by rw [← size_eq]; exact HNE.out.2)
        have HR0 := Lib.hid (show (0, recG M parts 0 [] AL) = RES by
          rw [← HRR.out, ← hM, ← hAL]
          rfl)
        have HBY := Lib.hid (show BytesV w2 (.slice A2' M c2') AL from ho2.bytes)
        have HK2 := Lib.hid (HK1.out.trans k2)
        have HP2 := Lib.hid (HP1.out.keep0 k2)
        clear ho2 k2 HBO hAL hM
        go_wp2_with fail
        go_loopw [13, 14, 15] (fun av ov kv wr => ∃ A' n' c' rest outl i, av = .slice A' n' c' ∧ kv = .int .i64 ((min i (pn - 1) : Nat) : Int) ∧ Hid (BytesV w2 (.slice A' n' c') rest) ∧ Hid (OwnB wr w2.heap.size ov outl) ∧ Hid (Keeps [] w2 wr) ∧ Hid ((0, recG n' parts i outl rest) = RES) ∧ i + n' ≤ 3100 ∧ outl.length + 6 * n' ≤ 20000) (fun av _ _ _ => match av with | .slice _ n _ => n | _ => 0)
        case atStart => exact ⟨A2', M, c2', AL, [], 0, rfl, by simp, HBY, Lib.hid (World.ownsRow_nil _ _ _ _), Lib.hid (Keeps.refl _ _), HR0, by omega, by simp; omega⟩
        case round =>
          obtain ⟨A', n', c', rest, outl, i, rfl, rfl, HBI, HO, HK, HG, hin, hout⟩ := hrel
          have hlen := HBI.out.form
          by_cases h0 : n' = 0
          · subst h0
            have hr0 : rest = [] := List.eq_nil_of_length_eq_zero hlen.1.symm
            subst hr0
            have HG2 := Lib.hid (show (0, outl) = RES from HG.out)
            clear hlen HG HR0 hin hout
            go_wp2_with fail
            refine bodyPost_ret (v := .tuple #[u14, .int .i64 0]) (by simp [results, Tryd.results14, go_sem]) rfl ?_
            rw [← HG2.out]
            exact ⟨u14, rfl, HO.out.weak HK2.out.size, HK2.out.trans HK.out⟩
          · have hn0 : (0 : Int) < (n' : Int) := by omega
            obtain ⟨g, o, rfl, _⟩ := HBI.out.get (by omega)
            obtain ⟨sv, hsv⟩ : ∃ sv, sizeAt parts i = sv := ⟨_, rfl⟩
            have hsp := sizeAt_pos HALL.out i
            rw [hsv] at hsp
            obtain ⟨nn, hnn⟩ : ∃ nn, min sv n' = nn := ⟨_, rfl⟩
            have hnn1 : 1 ≤ nn := by omega
            have hnn2 : nn ≤ n' := by omega
            have hnn3 : nn < 65536 := by omega
            have hcc := hlen.2.1
            have hcI : (nn : Int) ≤ (c' : Int) := by omega
            have hnI : (nn : Int) ≤ (n' : Int) := by omega
            have hncI : (n' : Int) ≤ (c' : Int) := by omega
            have h0I : (0 : Int) ≤ (nn : Int) := by omega
            have hne : rest ≠ [] := fun h => by rw [h] at hlen; simp at hlen; omega
            have hstep : recG n' parts i outl rest = recG (n' - nn) parts (i + 1) (outl ++ ([22, 3, 1] ++ u16L nn) ++ rest.take nn) (rest.drop nn) := by
              obtain ⟨k, hk⟩ : ∃ k, n' = k + 1 := ⟨n' - 1, by omega⟩
              have e : min (sizeAt parts i) rest.length = nn := by rw [← hlen.1, hsv]; exact hnn
              rw [hk, recG, if_neg hne, e, ← List.append_assoc outl]
              exact recG_fuel HALL.out _ _ _ _ _ (by rw [List.length_drop]; omega) (by rw [List.length_drop]; omega)
            obtain ⟨X, hX⟩ : ∃ X, (if c' = nn then some (⟨g, o, none⟩ : Addr) else some ⟨g, o + nn, none⟩) = X := ⟨_, rfl⟩
            have hpart : BytesV w2 (.slice (some ⟨g, o, none⟩) nn c') (rest.take nn) := by
              have h := HBI.out.sub (lo := 0) (hi := nn) (by omega) (by omega) (some ⟨g, o, none⟩) c' (fun _ => rfl) (by omega) hlen.2.2
              simpa using h
            have hrest : BytesV w2 (.slice X (n' - nn) (c' - nn)) (rest.drop nn) := by
              have h := HBI.out.sub (lo := nn) (hi := n') (by omega) (by omega) X (c' - nn) (fun h1 => by rw [← hX, if_neg (by omega)]) (by omega) (Nat.le_trans (Nat.sub_le _ _) hlen.2.2)
              rw [List.take_of_length_le (by rw [List.length_drop]; omega)] at h
              exact h
            have HPA := Lib.hid hpart
            have HRE := Lib.hid hrest
            have hg2 := HG.out
            rw [hstep] at hg2
            have HG2 := Lib.hid hg2
            have hsz : outl.length + 5 + 6 * (n' - nn) + nn ≤ 20000 := by omega
            have hin2 : i + 1 + (n' - nn) ≤ 3100 := by omega
            have HSZ := Lib.hid (And.intro hsz (And.intro hin2 (And.intro hnn1 (And.intro hnn2 (And.intro hout hlen.1)))))
            have HNN := Lib.hid (And.intro hnn (And.intro hsv hsp))
            have HRC := Lib.hid (rec_cells2 hnn3)
            obtain ⟨jj, hjj⟩ : ∃ jj, min i (pn - 1) = jj := ⟨_, rfl⟩
            obtain ⟨j2, hj2⟩ : ∃ jj, min (i + 1) (pn - 1) = jj := ⟨_, rfl⟩
            have HJ := Lib.hid (And.intro hjj hj2)
            rw [hjj]
            clear hpart hrest hstep hsz hin2 hout hin hcc hne HG HR0 hg2 hlen
            by_cases hp0 : pn = 0
            · subst hp0
              have hpe : parts = [] := List.eq_nil_of_length_eq_zero HPL.out
              have hs4 : sv = 16384 := by rw [← hsv]; unfold sizeAt; rw [if_pos hpe]
              have hjz : jj = 0 := by omega
              have hjz2 : j2 = 0 := by omega
              subst hjz hjz2 hs4
              obtain rfl : nn = n' := by have := HSZ.out; omega
              have hbig : (nn : Int) < 16384 := by have := HSZ.out.2.1; have := HSZ.out.2.2.2.2.1; omega
              clear hnn hpe hsv hjj hj2 hsp
              go_wp2_with (at_builtin; first | (refine app_W rfl _ _ w2 (HK.out.alloc' _) rfl _ outl rfl (HO.out.keep0 (Keeps.alloc [] wr _)) _ ([22, 3, 1] ++ u16L nn) rfl (BytesV.of_own (own_new wr _ _ HRC.out (by simp [u16L, maxLen]))) (by have := HSZ.out; simp only [List.length_append, List.length_cons, List.length_nil, u16L, List.length_take]; omega) ?_; intro v20 w20 ho20 hk20) | (refine app_W rfl _ _ w2 hk20 rfl _ (outl ++ ([22, 3, 1] ++ u16L nn)) rfl ho20 _ (rest.take nn) rfl (HPA.out.keep0 hk20) (by have := HSZ.out; simp only [List.length_append, List.length_cons, List.length_nil, u16L, List.length_take]; omega) ?_; intro v21 w21 ho21 hk21))
              obtain ⟨q1, q2, q3, q4, q5, q6⟩ := HSZ.out
              have hre := HRE.out
              have hgg := HG2.out
              rw [Nat.sub_self] at hre hgg
              have hlt : (rest.take nn).length = nn := by rw [List.length_take]; omega
              exact ⟨_, _, _, ⟨X, 0, c' - nn, rfl, rfl, rest.drop nn, Lib.hid hre, outl ++ ([22, 3, 1] ++ u16L nn) ++ rest.take nn, Lib.hid ho21, Lib.hid trivial, i + 1, Lib.hid hgg, by omega, by simp only [List.length_append, hlt, List.length_cons, List.length_nil, u16L]; omega⟩, rfl, rfl, rfl⟩
            · obtain ⟨pg, po, rfl, hpc⟩ := HP2.out.2.2.2 (by omega)
              have hpe : parts ≠ [] := fun h => hp0 (by rw [← HPL.out, h]; rfl)
              obtain ⟨z, hz, hze⟩ := sizeAt_some hpe i
              rw [HPL.out, hjj] at hz
              have hz1 := part_pos HALL.out hz
              rw [hsv] at hze
              have hcz : wr.cell? ⟨pg, po + jj, none⟩ = some (.int .i64 z) := cell_keeps HK.out (hpc jj z hz) (by simp)
              have hj1 : (0 : Int) ≤ (jj : Int) := by omega
              have hj3 : (jj : Int) < (pn : Int) := by omega
              have hjb : jj ≤ 1000 := by omega
              have hp1 : (0 : Int) < (pn : Int) := by omega
              have HZE := Lib.hid hze
              have HJ2 := Lib.hid (show j2 = if jj + 1 < pn then jj + 1 else jj by rw [← hj2, ← hjj]; exact next_k (by omega))
              clear hnn hpe hz hpc hsv hjj hj2 hsp hze
              go_upto_if 64 with fail
              go_cut [16] (fun nv wx => nv = .int .i64 (sv : Int) ∧ wx = wr)
              case first =>
                by_cases hzz : z < 16384
                · have hs : (sv : Int) = z := by have := HZE.out; omega
                  go_wp2_with fail
                  go_meet
                  exact ⟨by rw [hs], rfl⟩
                · have hs : (sv : Int) = 16384 := by have := HZE.out; omega
                  go_wp2_with fail
                  go_meet
                  exact ⟨by rw [hs], rfl⟩
              case rest =>
                obtain ⟨rfl, hwx⟩ := hcut
                obtain rfl := hwx.symm
                go_upto_if 73 with fail
                go_cut [15] (fun kv wx => kv = .int .i64 (j2 : Int) ∧ wx = wr)
                case first =>
                  by_cases hk : jj + 1 < pn
                  · have hs : j2 = jj + 1 := by rw [HJ2.out, if_pos hk]
                    have hk' : (jj : Int) + 1 < (pn : Int) := by omega
                    go_wp2_with fail
                    go_meet
                    exact ⟨by rw [hs]; simp, rfl⟩
                  · have hs : j2 = jj := by rw [HJ2.out, if_neg hk]
                    have hk' : ¬ (jj : Int) + 1 < (pn : Int) := by omega
                    go_wp2_with fail
                    go_meet
                    exact ⟨by rw [hs], rfl⟩
                case rest =>
                  obtain ⟨rfl, hwx⟩ := hcut
                  obtain rfl := hwx.symm
                  go_upto_if 79 with fail
                  go_cut [16] (fun nv wx => nv = .int .i64 (nn : Int) ∧ wx = wr)
                  case first =>
                    by_cases hq : n' < sv
                    · have hs : nn = n' := by have := HNN.out.1; omega
                      have hq' : (n' : Int) < (sv : Int) := by omega
                      go_wp2_with fail
                      go_meet
                      exact ⟨by rw [hs], rfl⟩
                    · have hs : nn = sv := by have := HNN.out.1; omega
                      have hq' : ¬ (n' : Int) < (sv : Int) := by omega
                      go_wp2_with fail
                      go_meet
                      exact ⟨by rw [hs], rfl⟩
                  case rest =>
                    obtain ⟨rfl, hwx⟩ := hcut
                    obtain rfl := hwx.symm
                    go_wp2_with (at_builtin; first | (refine app_W rfl _ _ w2 (HK.out.alloc' _) rfl _ outl rfl (HO.out.keep0 (Keeps.alloc [] wr _)) _ ([22, 3, 1] ++ u16L nn) rfl (BytesV.of_own (own_new wr _ _ HRC.out (by simp [u16L, maxLen]))) (by have := HSZ.out; simp only [List.length_append, List.length_cons, List.length_nil, u16L, List.length_take]; omega) ?_; intro v20 w20 ho20 hk20) | (refine app_W rfl _ _ w2 hk20 rfl _ (outl ++ ([22, 3, 1] ++ u16L nn)) rfl ho20 _ (rest.take nn) rfl (HPA.out.keep0 hk20) (by have := HSZ.out; simp only [List.length_append, List.length_cons, List.length_nil, u16L, List.length_take]; omega) ?_; intro v21 w21 ho21 hk21))
                    obtain ⟨q1, q2, q3, q4, q5, q6⟩ := HSZ.out
                    have hlt : (rest.take nn).length = nn := by rw [List.length_take]; omega
                    refine ⟨⟨X, n' - nn, c' - nn, rest.drop nn, outl ++ ([22, 3, 1] ++ u16L nn) ++ rest.take nn, i + 1, rfl, by rw [HJ.out.2], HRE, Lib.hid ho21, Lib.hid hk21, HG2, by omega, ?_⟩, ?_⟩
                    · simp only [List.length_append, hlt, List.length_cons, List.length_nil, u16L]
                      omega
                    · show n' - nn < n'
                      omega
end Go.Proofs.YthcpeceamiibaaaDoor
