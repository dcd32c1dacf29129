/-
  SniffNames, walked: a client that says a name is found by it. Condition: the library's variables lie as listed; the arguments lie in memory.
-/
import Derived.Test.YtpoheemjdieogaaGreatDoorSnQ
import Derived.Test.YtpoheemjdieogaaGreatDoorSnA
import Derived.Deep.LoopGhost
import Derived.Deep.CutRange
import Derived.Shelf.Strings.CaseAny
namespace Go.Proofs.YtpoheemjdieogaaGreatDoor
open Go.RowKit Go.Lib
set_option linter.unusedVariables false
set_option linter.unusedSimpArgs false

theorem upper_any (w : World) (hw : LW w) (s : List UInt8) (hs : s.length < 35184372088832) : Calls Tryz.prog 17 #[.string (bs s)] w fun e w' => e = .returned (.string (bs (toUpperD s))) ∧ Keeps [] w w' :=
  (Any.strings_ToUpper_any Tryz.upperL Tryz.upperX (bs s) w hs hw.case hw.utf8).mono fun e w' ⟨he, hb⟩ => ⟨he, Below.keeps hb⟩
/-- bytes that say a name -/
structure Says (x : List UInt8) (low : ByteArray) : Prop where
  look : look0 x = (1, low)
  len : x.length ≤ 30000
theorem Says.pre {x : List UInt8} {low : ByteArray} (h : Says x low) (k : Nat) : (look0 (x.take k)).1 = 0 ∨ look0 (x.take k) = (1, low) := by
  by_cases h0 : (look0 (x.take k)).1 = 0
  · exact .inl h0
  · right
    have := look0_stays (x.take k) (x.drop k) h0
    rw [List.take_append_drop, h.look] at this
    exact this.symm
theorem Says.behind {x : List UInt8} {low : ByteArray} (h : Says x low) (y : List UInt8) : lookS (x ++ y) 16384 false = (1, low) := by
  have h1 : look0 (x ++ y) = (1, low) := by rw [look0_stays x y (by rw [h.look]; simp)]; exact h.look
  unfold lookS
  rw [h1, if_pos (by simp)]
theorem Says.half {x : List UInt8} {low : ByteArray} (h : Says x low) {k : Nat} (hk : k ≤ 16000) : lookS (x.take k) 16384 false = (0, ByteArray.empty) ∨ lookS (x.take k) 16384 false = (1, low) := by
  unfold lookS
  rcases h.pre k with h0 | h0
  · left
    rw [if_neg (by simp [h0]), if_neg (by rw [List.length_take]; omega)]
    rfl
  · right
    rw [h0, if_pos (by simp)]
theorem Says.full {x : List UInt8} {low : ByteArray} (h : Says x low) {k : Nat} (hk : k ≤ x.length) : lookS (x.take k) (k : Int) false = (3, ByteArray.empty) ∨ lookS (x.take k) (k : Int) false = (1, low) := by
  unfold lookS
  rcases h.pre k with h0 | h0
  · left
    rw [if_neg (by simp [h0]), if_pos (by rw [List.length_take]; omega)]
  · right
    rw [h0, if_pos (by simp)]
theorem look0_tls {b : List UInt8} (h : (lookP b).1 = 1) : look0 b = lookP b := by
  cases b with
  | nil => exact absurd h (by decide)
  | cons c t =>
    by_cases hc : c = 22
    · exact if_pos hc
    · exfalso
      have e : partsL (c :: t) = ([], true) := by
        show partsG (t.length + 1) [] (c :: t) = _
        rw [partsG]
        simp [hc]
      have e2 : lookM [] = .error eShort := by rfl
      unfold lookP at h
      rw [e, e2] at h
      exact absurd h (by decide)
theorem says_hello {sd low bd : List UInt8} {P : Nat} (hf : foldA sd = some low) (hb : bd.length ≤ 300) (hP : 1 ≤ P) : Says (helloB sd bd [] [(P : Int)]) ⟨low.toArray⟩ := by
  have hne := (foldA_some hf).1
  have h1 := lookP_hello (name := sd) (before := bd) (behind := []) (parts := [(P : Int)]) (by omega) (by simp) (fun _ => ⟨low, hf⟩) (by simp [lowQ]; omega)
  rw [if_neg hne, hf] at h1
  refine ⟨?_, ?_⟩
  · rw [look0_tls (by rw [h1])]
    exact h1
  · have := helloB_len (name := sd) (before := bd) (behind := []) (parts := [(P : Int)]) (by omega) (by simp) (foldA_some hf).2.1
    omega
theorem says_req {sd low : List UInt8} (hf : foldA sd = some low) : Says (reqB sd []) ⟨low.toArray⟩ := by
  have hne := (foldA_some hf).1
  have hok : reqOk sd [] = true := by unfold reqOk; rw [hf]; simp
  have h1 := (request_head hok (by simp) []).2 hne
  rw [List.append_nil] at h1
  have h2 := lookH_ok h1
  refine ⟨?_, ?_⟩
  · have e : reqB sd [] = 71 :: (reqB sd []).tail := rfl
    rw [e]
    show (if (71 : UInt8) = 22 then lookP (71 :: (reqB sd []).tail) else ((lookH (71 :: (reqB sd []).tail)).1, (⟨(lookH (71 :: (reqB sd []).tail)).2.toArray⟩ : ByteArray))) = _
    rw [if_neg (by decide)]
    rw [← e, h2]
    unfold foldN
    rw [hf]
    rfl
  · have := (foldA_some hf).2.1
    unfold reqB hostLine
    rw [if_neg hne]
    simp [reqHead]
    omega
set_option maxRecDepth 100000 in
set_option maxHeartbeats 8000000 in
theorem names_walk (w : World) (hw : LW w) (s : ByteArray) (up : Bool) (A1 : Option Addr) (n1 c1 : Nat) (l1 : List UInt8) (hb1 : BytesV w (.slice A1 n1 c1) l1) (A2 : Option Addr) (n2 c2 : Nat) (l2 : List UInt8) (hb2 : BytesV w (.slice A2 n2 c2) l2) (pt : Nat) (hpt : pt < 256) :
    Calls Tryz.prog 5 #[.string s, .agg #[.bool up, .slice A1 n1 c1, .slice A2 n2 c2, .int .u8 (pt : Int)]] w fun e w' => e = .returned (.bool true) ∧ Keeps [] w w' := by
  obtain ⟨X, hX⟩ : ∃ X, w.heap.size = X := ⟨_, rfl⟩
  obtain ⟨w0, hw0⟩ : ∃ w0, w.alloc (.cells #[.bool up, .slice A1 n1 c1, .slice A2 n2 c2, .int .u8 (pt : Int)] 40) = w0 := ⟨_, rfl⟩
  have k0 : Keeps [] w w0 := by rw [← hw0]; exact Keeps.alloc [] w _
  have hbx : w0.heap[X]? = some (.cells #[.bool up, .slice A1 n1 c1, .slice A2 n2 c2, .int .u8 (pt : Int)] 40 (0, 0)) := by rw [← hw0, ← hX]; exact (MapKept.heap_alloc w _).1
  obtain ⟨hf1, hc1, hm1⟩ := hb1.form
  obtain ⟨hf2, hc2, hm2⟩ := hb2.form
  obtain ⟨m1, hn1⟩ : ∃ m, min n1 300 = m := ⟨_, rfl⟩
  obtain ⟨m2, hn2⟩ : ∃ m, min n2 100 = m := ⟨_, rfl⟩
  have r1 : min (n1 : Int) 300 = (m1 : Int) := by omega
  have r2 : min (n2 : Int) 100 = (m2 : Int) := by omega
  have t1 : (m1 : Int) ≤ (c1 : Int) := by omega
  have t2 : (m2 : Int) ≤ (c2 : Int) := by omega
  have s1 : (0 : Int) ≤ (m1 : Int) := by omega
  have s2 : (0 : Int) ≤ (m2 : Int) := by omega
  obtain ⟨x1, hx1⟩ : ∃ x, l1.take m1 = x := ⟨_, rfl⟩
  obtain ⟨x2, hx2⟩ : ∃ x, l2.take m2 = x := ⟨_, rfl⟩
  have B1 := Lib.hid (show BytesV w0 (.slice A1 m1 c1) x1 by rw [← hx1]; exact (hb1.keep0 k0).cut (by omega))
  have B2 := Lib.hid (show BytesV w0 (.slice A2 m2 c2) x2 by rw [← hx2]; exact (hb2.keep0 k0).cut (by omega))
  have hl1 : x1.length = m1 := by have := B1.out.form.1; omega
  have hl2 : x2.length = m2 := by have := B2.out.form.1; omega
  have HL := Lib.hid (show x1.length = m1 ∧ m1 ≤ 300 ∧ x2.length = m2 ∧ m2 ≤ 100 from ⟨hl1, by omega, hl2, by omega⟩)
  have BX := Lib.hid hbx
  have K0 := Lib.hid k0
  have HW := Lib.hid (hw.keep0 k0)
  obtain ⟨P, hP⟩ : ∃ P, 1 + pt = P := ⟨_, rfl⟩
  have u1 : IntKind.i64.wrap (pt : Int) = (pt : Int) := by rw [wrap_in] <;> omega
  have u2 : IntKind.i64.wrap (1 + (pt : Int)) = (P : Int) := by rw [wrap_in] <;> omega
  have hP1 : 1 ≤ P := by omega
  have HF := Lib.hid (fold_any w0 (hw.keep0 k0) s)
  clear hb1 hb2 hx1 hx2 hl1 hl2 hn1 hn2 hw k0 hbx hf1 hf2 hm1 hm2 hP hpt
  cases hfo : foldA s.data.toList with
  | none =>
    rw [(foldB_not hfo).1, (foldB_not hfo).2] at HF
    clear hfo
    go_enter Tryz.func5, Tryz.ntmps5
    go_wp2_with fail
    refine HF.out.mono ?_
    rintro e w1 ⟨rfl, k1⟩
    have K1 := Lib.hid (K0.out.trans k1)
    have HA := Lib.hid (sawake_any w1 (HW.out.keep0 k1))
    clear k1 HF
    go_wp2_with fail
    refine HA.out.mono ?_
    rintro e w2 ⟨rfl, k2⟩
    have K2 := Lib.hid (K1.out.trans k2)
    clear k2 HA
    go_wp2_with fail
    go_ret
    exact ⟨rfl, K2.out⟩
  | some low =>
    rw [(foldB_at hfo).1, (foldB_at hfo).2] at HF
    have HFO := Lib.hid hfo
    obtain ⟨LOW, hLOW⟩ : ∃ LOW : ByteArray, (⟨low.toArray⟩ : ByteArray) = LOW := ⟨_, rfl⟩
    rw [hLOW] at HF
    have HLOW := Lib.hid hLOW
    clear hfo hLOW
    go_enter Tryz.func5, Tryz.ntmps5
    go_wp2_with fail
    refine HF.out.mono ?_
    rintro e w1 ⟨rfl, k1⟩
    have K1 := Lib.hid k1
    have BX1 := Lib.hid ((k1.block X (lt_of_block BX.out) (by simp)).trans BX.out)
    have cb : w1.cell? ⟨X, 0, none⟩ = some (.bool up) := cell_of_block BX1.out 0
    clear k1 HF
    go_upto_if 31 with fail
    go_cut [7] from 32 to 33 (fun sv wx => ∃ sd, sv = .string (bs sd) ∧ Hid (foldA sd = some low ∧ Keeps [] w0 wx))
    case first =>
      cases up with
      | false =>
        go_wp2_with fail
        go_meet
        exact ⟨s.data.toList, by cases s; simp [bs], Lib.hid ⟨HFO.out, K1.out⟩⟩
      | true =>
        have HU := Lib.hid (upper_any w1 (HW.out.keep0 K1.out) s.data.toList (by have := (foldA_some HFO.out).2.1; omega))
        rw [show bs s.data.toList = s by cases s; simp [bs]] at HU
        go_wp2_with fail
        refine HU.out.mono ?_
        rintro e w2 ⟨rfl, k2⟩
        have HJ := Lib.hid (And.intro (foldA_upper HFO.out) (K1.out.trans k2))
        clear k2 HU
        go_wp2_with fail
        go_meet
        exact ⟨_, rfl, HJ⟩
    case rest =>
      obtain ⟨sd, rfl, HJ⟩ := hcut
      clear cb K1 BX1
      have BXC := Lib.hid ((HJ.out.2.block X (lt_of_block BX.out) (by simp)).trans BX.out)
      have HC := Lib.hid (show wc.drew.cell? ⟨X, 1, none⟩ = some (.slice A1 n1 c1) ∧ wc.drew.cell? ⟨X, 3, none⟩ = some (.int .u8 (pt : Int)) from ⟨cell_of_block BXC.out 1, cell_of_block BXC.out 3⟩)
      have hwk : Keeps [] w0 (wc.drew.alloc (.cells #[.int .i64 (P : Int)] 3)) := (HJ.out.2.drew').alloc' _
      have HH := Lib.hid (hello_named (wc.drew.alloc (.cells #[.int .i64 (P : Int)] 3)) (HW.out.keep0 hwk) (bs sd) ⟨by have := (foldA_some HJ.out.1).1; simpa [bs] using this, by have := (foldA_some HJ.out.1).2.1; simpa [bs, ByteArray.size] using this, (foldB_some HJ.out.1).2⟩ A1 none m1 0 c1 0 x1 [] (B1.out.keep0 hwk) (BytesV.nil _) (by have := HL.out; omega) (by omega) (some ⟨wc.drew.heap.size, 0, none⟩) 1 1 [(P : Int)]
        ⟨rfl, Nat.le_refl _, by simp [maxLen], fun _ => ⟨_, _, rfl, fun i z hz => by
          have hi : i = 0 := by have := (List.getElem?_eq_some_iff.1 hz).1; simp at this; exact this
          subst hi
          have hz : (P : Int) = z := by simpa using hz
          subst hz
          exact cell_of_block (MapKept.heap_alloc wc.drew _).1 0⟩⟩ (by omega) (by simp [lowQ]; omega))
      rw [show (bs sd).data.toList = sd from rfl] at HH
      have HKA := Lib.hid hwk
      clear hwk
      go_wp2_with fail
      go_region_held3 (fun W => W.cell? ⟨X, 1, none⟩ = some (.slice A1 n1 c1) ∧ W.cell? ⟨X, 3, none⟩ = some (.int .u8 (pt : Int)))
        (first | exact HC.out | exact ⟨cell_keeps (Keeps.alloc [] _ _) HC.out.1 (by simp), cell_keeps (Keeps.alloc [] _ _) HC.out.2 (by simp)⟩ | exact ⟨cell_keeps ((Keeps.alloc [] _ _).trans kh) HC.out.1 (by simp), cell_keeps ((Keeps.alloc [] _ _).trans kh) HC.out.2 (by simp)⟩)
        (first | (go_at_call 18; refine HH.out.mono ?_; rintro e w3 ⟨v3, rfl, ho3, kh⟩; obtain ⟨A3, c3, rfl⟩ := ho3.form))
      all_goals
        have HSA := Lib.hid (says_hello HJ.out.1 (show x1.length ≤ 300 by have := HL.out; omega) hP1)
        have K3 := Lib.hid (HKA.out.trans kh)
        have O3 := Lib.hid ho3.bytes
        obtain ⟨xa, hxa⟩ : ∃ xa, helloB sd x1 [] [(P : Int)] = xa := ⟨_, rfl⟩
        rw [hxa, HLOW.out] at HSA
        rw [hxa] at O3 ⊢
        clear hxa ho3 kh HH HKA u1 u2 r1 t1 s1
        have HRQ := Lib.hid (request_any w3 (HW.out.keep0 K3.out) sd none 0 0 [] (fields_nil w3) (by omega) (fun f hf => by cases hf) (fun f hf => by cases hf))
        have hreq : reqR sd [] = (reqB sd [], 0) := by
          unfold reqR
          rw [if_neg (by unfold reqOk; rw [HJ.out.1]; simp), if_neg (by simp [reqLong])]
        rw [hreq] at HRQ
        have HSB := Lib.hid (says_req HJ.out.1)
        obtain ⟨xb, hxb⟩ : ∃ xb, reqB sd [] = xb := ⟨_, rfl⟩
        rw [hxb] at HRQ HSB
        rw [HLOW.out] at HSB
        clear hreq hxb
        go_wp2_with fail
        refine HRQ.out.mono ?_
        rintro e w4 ⟨v4, rfl, ho4, k4⟩
        obtain ⟨A4, c4, rfl⟩ := ho4.slice
        have K4 := Lib.hid (K3.out.trans k4)
        have O4 := Lib.hid ho4
        have O34 := Lib.hid (O3.out.keep0 k4)
        have BX4 := Lib.hid ((K4.out.block X (lt_of_block BX.out) (by simp)).trans BX.out)
        have cb4 : w4.cell? ⟨X, 2, none⟩ = some (.slice A2 n2 c2) := cell_of_block BX4.out 2
        clear ho4 k4 HRQ O3 K3 HC BXC
        obtain ⟨RB, hRB⟩ : ∃ RB, w4.heap.size = RB := ⟨_, rfl⟩
        obtain ⟨W5, hW5⟩ : ∃ W5, w4.alloc (.cells #[.slice A3 xa.length c3, .slice A4 xb.length c4] 22) = W5 := ⟨_, rfl⟩
        have k5 : Keeps [] w4 W5 := by rw [← hW5]; exact Keeps.alloc _ _ _
        have hb5 : W5.heap[RB]? = some (.cells #[.slice A3 xa.length c3, .slice A4 xb.length c4] 22 (0, 0)) := by rw [← hW5, ← hRB]; exact (MapKept.heap_alloc w4 _).1
        have R5 := Lib.hid hb5
        have K5 := Lib.hid (K4.out.trans k5)
        have O35 := Lib.hid (O34.out.keep0 k5)
        have O45 := Lib.hid (O4.out.keep0 k5)
        clear k5 hb5 O34 O4 BX4
        go_wp2_with fail
        clear K4 hRB cb4 hW5
        go_loopg [73] 3 (fun g iv wx => ∃ i : Nat, iv = .int .i64 i ∧ i ≤ 2 ∧ g = 3 - i ∧ Hid (Keeps [] W5 wx))
        case atStart => exact ⟨0, rfl, by omega, by omega, Lib.hid (Keeps.refl _ _)⟩
        case round =>
          obtain ⟨i, rfl, hi, hg, HKR⟩ := hrel
          subst hg
          have K0R := Lib.hid (K5.out.trans HKR.out)
          rcases Nat.lt_or_ge i 2 with hlt | hge
          · have hltI : (i : Int) < 2 := by omega
            have hi0 : (0 : Int) ≤ (i : Int) := by omega
            have hex : ∃ A' n' c' x', wr.cell? ⟨RB, i, none⟩ = some (.slice A' n' c') ∧ BytesV wr (.slice A' n' c') x' ∧ Says x' LOW := by
              have hr := (HKR.out.block RB (lt_of_block R5.out) (by simp)).trans R5.out
              have hh : i = 0 ∨ i = 1 := by omega
              rcases hh with rfl | rfl
              · exact ⟨_, _, _, xa, cell_of_block hr 0, O35.out.keep0 HKR.out, HSA.out⟩
              · exact ⟨_, _, _, xb, cell_of_block hr 1, O45.out.keep0 HKR.out, HSB.out⟩
            obtain ⟨A', n', c', x', hcell, hbx', hsay⟩ := hex
            obtain ⟨hn', hnc', hcm'⟩ := hbx'.form
            have hlen := hsay.len
            obtain ⟨h2, hh2⟩ : ∃ h2, n' / 2 = h2 := ⟨_, rfl⟩
            obtain ⟨h4, hh4⟩ : ∃ h4, n' / 4 = h4 := ⟨_, rfl⟩
            have HN := Lib.hid (show ([] : List UInt8).length + x'.length ≤ 1000000 ∧ ([] ++ x').length + x2.length ≤ 1000000 ∧ (x' ++ x2).length ≤ 90000 ∧ h2 ≤ 90000 ∧ h4 ≤ 90000 ∧ 3 - (i + 1) < 3 - i by
              have := HL.out
              simp only [List.length_nil, List.nil_append, List.length_append]
              omega)
            have E2 := Lib.hid (show (n' : Int).tdiv 2 = (h2 : Int) ∧ wrap64 (h2 : Int) = (h2 : Int) by
              refine ⟨by rw [Int.tdiv_eq_ediv_of_nonneg (by omega)]; omega, by unfold wrap64; omega⟩)
            have E4 := Lib.hid (show (n' : Int).tdiv 4 = (h4 : Int) ∧ wrap64 (h4 : Int) = (h4 : Int) by
              refine ⟨by rw [Int.tdiv_eq_ediv_of_nonneg (by omega)]; omega, by unfold wrap64; omega⟩)
            have e5 : (0 : Int) ≤ (h2 : Int) := by omega
            have e6 : (h2 : Int) ≤ (c' : Int) := by omega
            have e7 : (0 : Int) ≤ (h4 : Int) := by omega
            have e8 : (h4 : Int) ≤ (c' : Int) := by omega
            have HSY := Lib.hid hsay
            have HBX := Lib.hid hbx'
            have HLN := Lib.hid (show n' = x'.length ∧ x'.length ≤ 30000 ∧ h2 ≤ n' ∧ h4 ≤ n' ∧ h2 ≤ 15000 from ⟨hn', hlen, by omega, by omega, by omega⟩)
            have L1 := Lib.hid (hsay.behind x2)
            have L2 := Lib.hid (hsay.half (k := h2) (by omega))
            have L3 := Lib.hid (hsay.full (k := h4) (by omega))
            clear hsay hbx' hn' hlen hh2 hh4
            go_wp2_with (at_builtin; first
              | (refine app_B rfl _ _ wr wr.heap.size (Keeps.alloc [] wr _) (Nat.le_refl _) (Keeps.alloc [] wr _).size rfl _ [] rfl (OwnB.new wr #[] [] rfl (by simp)) _ x' rfl (HBX.out.keep0 (Keeps.alloc [] wr _)) HN.out.1 ?_; intro v5 w5 ho5 hk5)
              | (refine app_B rfl _ _ wr wr.heap.size hk5 (Nat.le_refl _) hk5.size rfl _ ([] ++ x') rfl ho5 _ x2 rfl (B2.out.keep0 (K0R.out.trans hk5)) HN.out.2.1 ?_; intro v6 w6 ho6 hk6))
            have O6 := Lib.hid (show OwnB w6 wr.heap.size v6 (x' ++ x2) from ho6)
            have K6 := Lib.hid hk6
            clear ho5 hk5 ho6 hk6
            have HK1 := Lib.hid (Slook_B w6 (HW.out.keep0 (K0R.out.trans K6.out)) v6 (x' ++ x2) O6.out.bytes HN.out.2.2.1 16384 false)
            rw [L1.out] at HK1
            refine HK1.out.mono ?_
            rintro e w7 ⟨rfl, k7⟩
            have K7 := Lib.hid (K6.out.trans k7)
            have HK2 := Lib.hid (Slook_any w7 (HW.out.keep0 (K0R.out.trans (K6.out.trans k7))) A' h2 c' (x'.take h2) ((HBX.out.keep0 (K6.out.trans k7)).cut HLN.out.2.2.1) HN.out.2.2.2.1 16384 false)
            clear HK1 k7 K6 O6 hcell
            rcases L2.out with l2 | l2
            · rw [l2] at HK2
              clear l2
              have e2 := E2.out.1
              have w2' := E2.out.2
              go_wp2_with fail
              clear e2 w2'
              refine HK2.out.mono ?_
              rintro e w8 ⟨rfl, k8⟩
              have K8 := Lib.hid (K7.out.trans k8)
              have HK3 := Lib.hid (Slook_any w8 (HW.out.keep0 (K0R.out.trans (K7.out.trans k8))) A' h4 c' (x'.take h4) ((HBX.out.keep0 (K7.out.trans k8)).cut HLN.out.2.2.2.1) HN.out.2.2.2.2.1 h4 false)
              clear HK2 k8 K7
              rcases L3.out with l3 | l3
              · rw [l3] at HK3
                clear l3
                have e4 := E4.out.1
                have w4' := E4.out.2
                go_wp2_with fail
                clear e4 w4'
                refine HK3.out.mono ?_
                rintro e w9 ⟨rfl, k9⟩
                have K9 := Lib.hid (HKR.out.trans (K8.out.trans k9))
                clear k9 HK3 K8
                go_wp2_with fail
                go_roundg (3 - (i + 1))
                case measure => exact HN.out.2.2.2.2.2
                case rel => exact ⟨i + 1, by go_num, by omega, rfl, K9⟩
              · rw [l3] at HK3
                clear l3
                have e4 := E4.out.1
                have w4' := E4.out.2
                go_wp2_with fail
                clear e4 w4'
                refine HK3.out.mono ?_
                rintro e w9 ⟨rfl, k9⟩
                have K9 := Lib.hid (HKR.out.trans (K8.out.trans k9))
                clear k9 HK3 K8
                go_wp2_with fail
                go_roundg (3 - (i + 1))
                case measure => exact HN.out.2.2.2.2.2
                case rel => exact ⟨i + 1, by go_num, by omega, rfl, K9⟩
            · rw [l2] at HK2
              clear l2
              have e2 := E2.out.1
              have w2' := E2.out.2
              go_wp2_with fail
              clear e2 w2'
              refine HK2.out.mono ?_
              rintro e w8 ⟨rfl, k8⟩
              have K8 := Lib.hid (K7.out.trans k8)
              have HK3 := Lib.hid (Slook_any w8 (HW.out.keep0 (K0R.out.trans (K7.out.trans k8))) A' h4 c' (x'.take h4) ((HBX.out.keep0 (K7.out.trans k8)).cut HLN.out.2.2.2.1) HN.out.2.2.2.2.1 h4 false)
              clear HK2 k8 K7
              rcases L3.out with l3 | l3
              · rw [l3] at HK3
                clear l3
                have e4 := E4.out.1
                have w4' := E4.out.2
                go_wp2_with fail
                clear e4 w4'
                refine HK3.out.mono ?_
                rintro e w9 ⟨rfl, k9⟩
                have K9 := Lib.hid (HKR.out.trans (K8.out.trans k9))
                clear k9 HK3 K8
                go_wp2_with fail
                go_roundg (3 - (i + 1))
                case measure => exact HN.out.2.2.2.2.2
                case rel => exact ⟨i + 1, by go_num, by omega, rfl, K9⟩
              · rw [l3] at HK3
                clear l3
                have e4 := E4.out.1
                have w4' := E4.out.2
                go_wp2_with fail
                clear e4 w4'
                refine HK3.out.mono ?_
                rintro e w9 ⟨rfl, k9⟩
                have K9 := Lib.hid (HKR.out.trans (K8.out.trans k9))
                clear k9 HK3 K8
                go_wp2_with fail
                go_roundg (3 - (i + 1))
                case measure => exact HN.out.2.2.2.2.2
                case rel => exact ⟨i + 1, by go_num, by omega, rfl, K9⟩
          · have hltI : ¬ (i : Int) < 2 := by omega
            have HA := Lib.hid (sawake_any wr (HW.out.keep0 K0R.out))
            go_wp2_with fail
            refine HA.out.mono ?_
            rintro e w6 ⟨rfl, k6⟩
            have K6 := Lib.hid (K0.out.trans (K0R.out.trans k6))
            clear k6 HA
            go_wp2_with fail
            go_ret
            exact ⟨rfl, K6.out⟩
end Go.Proofs.YtpoheemjdieogaaGreatDoor
