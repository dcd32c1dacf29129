/-
  The walk of the document's own Fold: what it tells is what tls.Fold's plain law tells. No condition. (Off tls's TlsRf.)
-/
import Derived.Test.YtpoheemjdieogaaGreatDoorFoldQ
import Derived.Deep.RegionHeld3
namespace Go.Proofs.YtpoheemjdieogaaGreatDoor
open Go.RowKit Go.Lib
set_option linter.unusedVariables false
set_option linter.unusedSimpArgs false

theorem foldB_eq (s : ByteArray) : foldB s = match foldA s.data.toList with
  | some l => ⟨l.toArray⟩
  | none => ByteArray.empty := by
  unfold foldB
  rw [foldL_eq]
  cases foldA s.data.toList <;> rfl
theorem foldIs_eq (s : ByteArray) : foldIs s = (foldA s.data.toList).isSome := by unfold foldIs; rw [foldL_eq]
def okB (d : UInt8) : Bool := (decide (97 ≤ d.toNat) && decide (d.toNat ≤ 122)) || (decide (48 ≤ d.toNat) && decide (d.toNat ≤ 57)) || d.toNat == 45 || d.toNat == 95
def scanF : Bool → List UInt8 → Bool
  | dot, [] => !dot
  | dot, c :: t => if lowerB c = 46 then !dot && scanF true t else okB (lowerB c) && scanF false t
set_option maxRecDepth 100000 in
theorem byte_facts : ∀ i : Fin 256, (lowerB (UInt8.ofNat i.val) = 46 ↔ UInt8.ofNat i.val = 46) ∧ (lowerB (UInt8.ofNat i.val) ≠ 46 → okB (lowerB (UInt8.ofNat i.val)) = goodU (UInt8.ofNat i.val)) ∧ goodU 46 = true ∧ (lowerB (UInt8.ofNat i.val)).toNat = if 65 ≤ i.val ∧ i.val ≤ 90 then i.val + 32 else i.val := by decide
theorem byte_fact (c : UInt8) : (lowerB c = 46 ↔ c = 46) ∧ (lowerB c ≠ 46 → okB (lowerB c) = goodU c) ∧ goodU 46 = true ∧ (lowerB c).toNat = if 65 ≤ c.toNat ∧ c.toNat ≤ 90 then c.toNat + 32 else c.toNat := by
  have := byte_facts ⟨c.toNat, c.toNat_lt⟩
  simpa using this
theorem scan_iff : ∀ (l : List UInt8) (dot : Bool), scanF dot l = true ↔ emptyP dot l = false ∧ ∀ b ∈ l, goodU b = true
  | [], dot => by simp [scanF, emptyP]
  | c :: t, dot => by
    obtain ⟨f1, f2, f3, _⟩ := byte_fact c
    rw [scanF, emptyP]
    by_cases h : c = 46
    · rw [if_pos (f1.2 h), if_pos h, Bool.and_eq_true, scan_iff t true, Bool.or_eq_false_iff]
      subst h
      constructor
      · rintro ⟨h1, h2, h3⟩
        exact ⟨⟨by simpa using h1, h2⟩, fun b hb => (List.mem_cons.1 hb).elim (fun e => by rw [e]; exact f3) (h3 b)⟩
      · rintro ⟨⟨h1, h2⟩, h3⟩
        exact ⟨by simpa using h1, h2, fun b hb => h3 b (List.mem_cons_of_mem _ hb)⟩
    · rw [if_neg (fun e => h (f1.1 e)), if_neg h, Bool.and_eq_true, scan_iff t false, f2 (fun e => h (f1.1 e))]
      constructor
      · rintro ⟨h1, h2, h3⟩
        exact ⟨h2, fun b hb => (List.mem_cons.1 hb).elim (fun e => by rw [e]; exact h1) (h3 b)⟩
      · rintro ⟨h2, h3⟩
        exact ⟨h3 c (by simp), h2, fun b hb => h3 b (List.mem_cons_of_mem _ hb)⟩
theorem foldA_scan {s : List UInt8} (h1 : s ≠ []) (h2 : s.length ≤ 253) : foldA s = if scanF true s = true then some (s.map lowerB) else none := by
  by_cases h : scanF true s = true
  · rw [if_pos h]
    have := (scan_iff s true).1 h
    exact foldA_of h1 h2 this.1 this.2
  · rw [if_neg h]
    cases hf : foldA s with
    | none => rfl
    | some l =>
      obtain ⟨_, _, g3, g4, _⟩ := foldA_some hf
      exact absurd ((scan_iff s true).2 ⟨g3, g4⟩) h
theorem byte_one (w : World) (x : UInt8) (t : TypeId) : BytesV (w.alloc (.cells #[.int .u8 x.toNat] t)) (.slice (some ⟨w.heap.size, 0, none⟩) 1 1) [x] := by
  refine ⟨_, 1, rfl, Nat.le_refl _, by simp [maxLen], fun _ => ⟨w.heap.size, 0, rfl, fun i y hy => ?_⟩⟩
  have hi : i = 0 := by have := (List.getElem?_eq_some_iff.1 hy).1; simp at this; exact this
  subst hi
  simp at hy
  subst hy
  exact cell_of_block (MapKept.heap_alloc w (.cells #[.int .u8 x.toNat] t)).1 0
theorem scan_step {s : List UInt8} {i : Nat} {x : UInt8} (hx : s[i]? = some x) (dot : Bool) : scanF dot (s.drop i) = if lowerB x = 46 then !dot && scanF true (s.drop (i + 1)) else okB (lowerB x) && scanF false (s.drop (i + 1)) := by
  have hlt := (List.getElem?_eq_some_iff.1 hx).1
  rw [List.drop_eq_getElem_cons hlt, (List.getElem?_eq_some_iff.1 hx).2, scanF]

set_option maxRecDepth 100000 in
set_option maxHeartbeats 2000000 in
theorem rfold_short (w : World) (s : ByteArray) (hs : s.size = 0 ∨ 253 < s.size) : Calls Tryz.prog 134 #[.string s] w fun e w' => e = .returned (.tuple #[.string (foldB s), .bool (foldIs s)]) ∧ Keeps [] w w' := by
  have hn : foldA s.data.toList = none := by
    unfold foldA
    rw [if_pos]
    rw [size_eq] at hs
    rcases hs with h | h
    · exact .inl (List.eq_nil_of_length_eq_zero h)
    · exact .inr (.inl h)
  have e1 : foldB s = ⟨#[]⟩ := by rw [foldB_eq, hn]; rfl
  have e2 : foldIs s = false := by rw [foldIs_eq, hn]; rfl
  rw [e1, e2]
  clear e1 e2 hn
  rcases hs with h | h
  · have h' : ((s.size : Int) == 0) = true := beq_iff_eq.2 (by omega)
    clear h
    go_enter Tryz.func134, Tryz.ntmps134
    go_wp2_with fail
    go_ret2
    exact ⟨rfl, Keeps.refl _ _⟩
  · have h' : (253 : Int) < s.size := by omega
    have h2 : ((s.size : Int) == 0) = false := beq_eq_false_iff_ne.2 (by omega)
    clear h
    go_enter Tryz.func134, Tryz.ntmps134
    go_wp2_with fail
    go_ret2
    exact ⟨rfl, Keeps.refl _ _⟩
set_option maxRecDepth 100000 in
set_option maxHeartbeats 16000000 in
theorem rfold_any (w : World) (s : ByteArray) : Calls Tryz.prog 134 #[.string s] w fun e w' => e = .returned (.tuple #[.string (foldB s), .bool (foldIs s)]) ∧ Keeps [] w w' := by
  by_cases hsh : s.size = 0 ∨ 253 < s.size
  · exact rfold_short w s hsh
  have h0 : ((s.size : Int) == 0) = false := beq_eq_false_iff_ne.2 (by omega)
  have h1 : ¬ (253 : Int) < s.size := by omega
  have hne : s.data.toList ≠ [] := by intro e; apply hsh; left; rw [size_eq, e]; rfl
  have hle : s.data.toList.length ≤ 253 := by rw [← size_eq]; omega
  have HSZ := Lib.hid (show s.size ≤ 253 by omega)
  obtain ⟨R, hR⟩ : ∃ R, scanF true s.data.toList = R := ⟨_, rfl⟩
  have hres : (R = false → foldB s = ⟨#[]⟩ ∧ foldIs s = false) ∧ (R = true → foldB s = ⟨(s.data.toList.map lowerB).toArray⟩ ∧ foldIs s = true) := by
    refine ⟨fun h => ?_, fun h => ?_⟩
    · rw [foldB_eq, foldIs_eq, foldA_scan hne hle, hR, h]; exact ⟨rfl, rfl⟩
    · rw [foldB_eq, foldIs_eq, foldA_scan hne hle, hR, h]; exact ⟨rfl, rfl⟩
  obtain ⟨fb, hfb⟩ : ∃ fb, foldB s = fb := ⟨_, rfl⟩
  obtain ⟨fi, hfi⟩ : ∃ fi, foldIs s = fi := ⟨_, rfl⟩
  rw [hfb, hfi] at hres ⊢
  have HRES := Lib.hid hres
  have HR := Lib.hid hR
  clear hres hR hne hle hfb hfi hsh
  go_enter Tryz.func134, Tryz.ntmps134
  go_wp2_with fail
  go_loopw [4, 5, 6] (fun ov dv iv wr => ∃ (i : Nat) (dot : Bool), iv = .int .i64 i ∧ dv = .bool dot ∧ i ≤ s.size ∧ Hid (wr.ownsRow w.heap.size 5 1 ov i (((s.data.toList.take i).map lowerB).map u8V) ∧ Keeps [] w wr ∧ scanF dot (s.data.toList.drop i) = R)) (fun _ _ iv _ => s.size - (intOf iv).toNat)
  case atStart => exact ⟨0, true, rfl, rfl, by omega, Lib.hid ⟨World.ownsRow_nil _ _ _ _, Keeps.refl _ _, HR.out⟩⟩
  case round =>
    obtain ⟨i, dot, rfl, rfl, hi, HI⟩ := hrel
    by_cases hlt : i < s.size
    · have hlt' : (i : Int) < (s.size : Int) := by omega
      obtain ⟨x, hx⟩ : ∃ x : UInt8, s[i] = x := ⟨_, rfl⟩
      have hxl : s.data.toList[i]? = some x := by rw [← hx]; exact Lib.data_getElem? s i hlt
      have HST := Lib.hid (scan_step hxl dot)
      have hbf := byte_fact x
      obtain ⟨d, hd⟩ : ∃ d, lowerB x = d := ⟨_, rfl⟩
      rw [hd] at hbf HST
      have hxb := x.toNat_lt
      have HXL := Lib.hid (show (s.data.toList.take (i + 1)).map lowerB = (s.data.toList.take i).map lowerB ++ [d] by rw [List.take_add_one, hxl, List.map_append, ← hd]; rfl)
      have hdn := hbf.2.2.2
      have h46 := hbf.1
      clear hbf hxl hd
      by_cases w0 : x.toNat < 45
      · have g0 : ¬ (65 : Int) ≤ (x.toNat : Int) := by omega
        have g1 : ¬ (97 : Int) ≤ (x.toNat : Int) := by omega
        have g2 : ¬ (48 : Int) ≤ (x.toNat : Int) := by omega
        have g3 : ¬ (x.toNat : Int) = 45 := by omega
        have g4 : ¬ (x.toNat : Int) = 95 := by omega
        have g5 : ¬ (x.toNat : Int) = 46 := by omega
        have q3 : (((x.toNat : Int)) == 45) = false := beq_eq_false_iff_ne.2 g3
        have q4 : (((x.toNat : Int)) == 95) = false := beq_eq_false_iff_ne.2 g4
        have q5 : (((x.toNat : Int)) == 46) = false := beq_eq_false_iff_ne.2 g5
        have hdv : d.toNat = x.toNat := by rw [hdn, if_neg (by omega)]
        have hrf : R = false := by
          rw [← HI.out.2.2, HST.out]
          rw [if_neg (by intro e; have e2 := congrArg UInt8.toNat e; simp at e2; omega)]
          have hok : okB d = false := by
            unfold okB
            simp
            omega
          rw [hok]; rfl
        have hres := HRES.out.1 hrf
        obtain ⟨rfl, rfl⟩ := hres
        clear hrf HST h46 hdn hdv
        go_wp2_with fail
        go_ret2
        exact ⟨rfl, HI.out.2.1⟩
      by_cases w1 : x.toNat = 45
      · have g0 : ¬ (65 : Int) ≤ (x.toNat : Int) := by omega
        have g1 : ¬ (97 : Int) ≤ (x.toNat : Int) := by omega
        have g2 : ¬ (48 : Int) ≤ (x.toNat : Int) := by omega
        have g3 : (x.toNat : Int) = 45 := by omega
        have g4 : ¬ (x.toNat : Int) = 46 := by omega
        have q3 : (((x.toNat : Int)) == 45) = true := beq_iff_eq.2 g3
        have q4 : (((x.toNat : Int)) == 46) = false := beq_eq_false_iff_ne.2 g4
        have hdv : d.toNat = x.toNat := by rw [hdn, if_neg (by omega)]
        have hdx : (d.toNat : Int) = 45 := by omega
        have hnx : scanF false (s.data.toList.drop (i + 1)) = R := by
          rw [← HI.out.2.2, HST.out, if_neg (by intro e; have e2 := congrArg UInt8.toNat e; simp at e2; omega)]
          have hok : okB d = true := by
            unfold okB
            simp
            omega
          rw [hok]; rfl
        have HNX := Lib.hid hnx
        have BYTE := Lib.hid (byte_one wr d 5)
        rw [hdx] at BYTE
        clear hnx HST h46 hdn hxb hdv
        go_wp2_with (at_builtin; refine wpList_append_bytes rfl (.tmp 67) (.tmp 69) w.heap.size 22 5 rfl Tryz.underlying22 Tryz.infoU8 _ i ((s.data.toList.take i).map lowerB) rfl (World.ownsRow.alloc HI.out.1 _) _ [d] rfl BYTE.out (by have := HSZ.out; simp; omega) (by rw [World.size_alloc]; have := HI.out.2.1.size; omega) ?_; intro v' w' hown' hgrow' _ _; have HEND := Lib.hid (And.intro hown' (show Keeps [] w w' from (HI.out.2.1.alloc' _).own hgrow' (fun j hj => (World.ownsRow.lt HI.out.1 j hj).1))); clear hown' hgrow')
        exact ⟨⟨i + 1, false, by simp, rfl, by omega, Lib.hid ⟨by rw [HXL.out]; exact HEND.out.1, HEND.out.2, HNX.out⟩⟩, by simp [intOf]; omega⟩
      by_cases w2 : x.toNat = 46
      · have g0 : ¬ (65 : Int) ≤ (x.toNat : Int) := by omega
        have g1 : ¬ (97 : Int) ≤ (x.toNat : Int) := by omega
        have g2 : ¬ (48 : Int) ≤ (x.toNat : Int) := by omega
        have g3 : ¬ (x.toNat : Int) = 45 := by omega
        have g4 : ¬ (x.toNat : Int) = 95 := by omega
        have g5 : (x.toNat : Int) = 46 := by omega
        have q3 : (((x.toNat : Int)) == 45) = false := beq_eq_false_iff_ne.2 g3
        have q4 : (((x.toNat : Int)) == 95) = false := beq_eq_false_iff_ne.2 g4
        have q5 : (((x.toNat : Int)) == 46) = true := beq_iff_eq.2 g5
        have hdv : d.toNat = x.toNat := by rw [hdn, if_neg (by omega)]
        have hd46 : d = 46 := h46.2 (by apply UInt8.toNat_inj.1; simp; omega)
        cases dot with
        | true =>
          have hrf : R = false := by
            rw [← HI.out.2.2, HST.out]
            rw [if_pos hd46]; rfl
          have hres := HRES.out.1 hrf
          obtain ⟨rfl, rfl⟩ := hres
          clear hrf HST h46 hdn hdv
          go_wp2_with fail
          go_ret2
          exact ⟨rfl, HI.out.2.1⟩
        | false =>
          have hnx : scanF true (s.data.toList.drop (i + 1)) = R := by
            rw [← HI.out.2.2, HST.out, if_pos hd46]; rfl
          have HNX := Lib.hid hnx
          have hdx : (d.toNat : Int) = 46 := by omega
          have BYTE := Lib.hid (byte_one wr d 5)
          rw [hdx] at BYTE
          clear hnx HST h46 hdn hxb hd46 hdv
          go_wp2_with (at_builtin; refine wpList_append_bytes rfl (.tmp 67) (.tmp 69) w.heap.size 22 5 rfl Tryz.underlying22 Tryz.infoU8 _ i ((s.data.toList.take i).map lowerB) rfl (World.ownsRow.alloc HI.out.1 _) _ [d] rfl BYTE.out (by have := HSZ.out; simp; omega) (by rw [World.size_alloc]; have := HI.out.2.1.size; omega) ?_; intro v' w' hown' hgrow' _ _; have HEND := Lib.hid (And.intro hown' (show Keeps [] w w' from (HI.out.2.1.alloc' _).own hgrow' (fun j hj => (World.ownsRow.lt HI.out.1 j hj).1))); clear hown' hgrow')
          exact ⟨⟨i + 1, true, by simp, rfl, by omega, Lib.hid ⟨by rw [HXL.out]; exact HEND.out.1, HEND.out.2, HNX.out⟩⟩, by simp [intOf]; omega⟩
      by_cases w3 : x.toNat = 47
      · have g0 : ¬ (65 : Int) ≤ (x.toNat : Int) := by omega
        have g1 : ¬ (97 : Int) ≤ (x.toNat : Int) := by omega
        have g2 : ¬ (48 : Int) ≤ (x.toNat : Int) := by omega
        have g3 : ¬ (x.toNat : Int) = 45 := by omega
        have g4 : ¬ (x.toNat : Int) = 95 := by omega
        have g5 : ¬ (x.toNat : Int) = 46 := by omega
        have q3 : (((x.toNat : Int)) == 45) = false := beq_eq_false_iff_ne.2 g3
        have q4 : (((x.toNat : Int)) == 95) = false := beq_eq_false_iff_ne.2 g4
        have q5 : (((x.toNat : Int)) == 46) = false := beq_eq_false_iff_ne.2 g5
        have hdv : d.toNat = x.toNat := by rw [hdn, if_neg (by omega)]
        have hrf : R = false := by
          rw [← HI.out.2.2, HST.out]
          rw [if_neg (by intro e; have e2 := congrArg UInt8.toNat e; simp at e2; omega)]
          have hok : okB d = false := by
            unfold okB
            simp
            omega
          rw [hok]; rfl
        have hres := HRES.out.1 hrf
        obtain ⟨rfl, rfl⟩ := hres
        clear hrf HST h46 hdn hdv
        go_wp2_with fail
        go_ret2
        exact ⟨rfl, HI.out.2.1⟩
      by_cases w4 : x.toNat < 58
      · have g0 : ¬ (65 : Int) ≤ (x.toNat : Int) := by omega
        have g1 : ¬ (97 : Int) ≤ (x.toNat : Int) := by omega
        have g2 : (48 : Int) ≤ (x.toNat : Int) := by omega
        have g3 : (x.toNat : Int) ≤ 57 := by omega
        have g4 : ¬ (x.toNat : Int) = 46 := by omega
        have q4 : (((x.toNat : Int)) == 46) = false := beq_eq_false_iff_ne.2 g4
        have hdv : d.toNat = x.toNat := by rw [hdn, if_neg (by omega)]
        have hdx : (d.toNat : Int) = (x.toNat : Int) := by omega
        have hnx : scanF false (s.data.toList.drop (i + 1)) = R := by
          rw [← HI.out.2.2, HST.out, if_neg (by intro e; have e2 := congrArg UInt8.toNat e; simp at e2; omega)]
          have hok : okB d = true := by
            unfold okB
            simp
            omega
          rw [hok]; rfl
        have HNX := Lib.hid hnx
        have BYTE := Lib.hid (byte_one wr d 5)
        rw [hdx] at BYTE
        clear hnx HST h46 hdn hxb hdv
        go_wp2_with (at_builtin; refine wpList_append_bytes rfl (.tmp 67) (.tmp 69) w.heap.size 22 5 rfl Tryz.underlying22 Tryz.infoU8 _ i ((s.data.toList.take i).map lowerB) rfl (World.ownsRow.alloc HI.out.1 _) _ [d] rfl BYTE.out (by have := HSZ.out; simp; omega) (by rw [World.size_alloc]; have := HI.out.2.1.size; omega) ?_; intro v' w' hown' hgrow' _ _; have HEND := Lib.hid (And.intro hown' (show Keeps [] w w' from (HI.out.2.1.alloc' _).own hgrow' (fun j hj => (World.ownsRow.lt HI.out.1 j hj).1))); clear hown' hgrow')
        exact ⟨⟨i + 1, false, by simp, rfl, by omega, Lib.hid ⟨by rw [HXL.out]; exact HEND.out.1, HEND.out.2, HNX.out⟩⟩, by simp [intOf]; omega⟩
      by_cases w5 : x.toNat < 65
      · have g0 : ¬ (65 : Int) ≤ (x.toNat : Int) := by omega
        have g1 : ¬ (97 : Int) ≤ (x.toNat : Int) := by omega
        have g2 : (48 : Int) ≤ (x.toNat : Int) := by omega
        have g3 : ¬ (x.toNat : Int) ≤ 57 := by omega
        have g4 : ¬ (x.toNat : Int) = 45 := by omega
        have g5 : ¬ (x.toNat : Int) = 95 := by omega
        have g6 : ¬ (x.toNat : Int) = 46 := by omega
        have q4 : (((x.toNat : Int)) == 45) = false := beq_eq_false_iff_ne.2 g4
        have q5 : (((x.toNat : Int)) == 95) = false := beq_eq_false_iff_ne.2 g5
        have q6 : (((x.toNat : Int)) == 46) = false := beq_eq_false_iff_ne.2 g6
        have hdv : d.toNat = x.toNat := by rw [hdn, if_neg (by omega)]
        have hrf : R = false := by
          rw [← HI.out.2.2, HST.out]
          rw [if_neg (by intro e; have e2 := congrArg UInt8.toNat e; simp at e2; omega)]
          have hok : okB d = false := by
            unfold okB
            simp
            omega
          rw [hok]; rfl
        have hres := HRES.out.1 hrf
        obtain ⟨rfl, rfl⟩ := hres
        clear hrf HST h46 hdn hdv
        go_wp2_with fail
        go_ret2
        exact ⟨rfl, HI.out.2.1⟩
      by_cases w6 : x.toNat < 91
      · have g0 : (65 : Int) ≤ (x.toNat : Int) := by omega
        have g1 : (x.toNat : Int) ≤ 90 := by omega
        have g2 : (97 : Int) ≤ (x.toNat : Int) + 32 := by omega
        have g3 : (x.toNat : Int) + 32 ≤ 122 := by omega
        have g4 : ¬ (x.toNat : Int) + 32 = 46 := by omega
        have q4 : (((x.toNat : Int) + 32) == 46) = false := beq_eq_false_iff_ne.2 g4
        have hdv : d.toNat = x.toNat + 32 := by rw [hdn, if_pos (by omega)]
        have hw1 : IntKind.u8.wrap ((x.toNat : Int) - 65) = (x.toNat : Int) - 65 := by simp [IntKind.wrap, IntKind.bits, IntKind.signed]; omega
        have hw2 : IntKind.u8.wrap ((x.toNat : Int) - 65 + 97) = (x.toNat : Int) + 32 := by simp [IntKind.wrap, IntKind.bits, IntKind.signed]; omega
        have hdx : (d.toNat : Int) = (x.toNat : Int) + 32 := by omega
        have hnx : scanF false (s.data.toList.drop (i + 1)) = R := by
          rw [← HI.out.2.2, HST.out, if_neg (by intro e; have e2 := congrArg UInt8.toNat e; simp at e2; omega)]
          have hok : okB d = true := by
            unfold okB
            simp
            omega
          rw [hok]; rfl
        have HNX := Lib.hid hnx
        have BYTE := Lib.hid (byte_one wr d 5)
        rw [hdx] at BYTE
        clear hnx HST h46 hdn hxb hdv
        go_wp2_with (at_builtin; refine wpList_append_bytes rfl (.tmp 67) (.tmp 69) w.heap.size 22 5 rfl Tryz.underlying22 Tryz.infoU8 _ i ((s.data.toList.take i).map lowerB) rfl (World.ownsRow.alloc HI.out.1 _) _ [d] rfl BYTE.out (by have := HSZ.out; simp; omega) (by rw [World.size_alloc]; have := HI.out.2.1.size; omega) ?_; intro v' w' hown' hgrow' _ _; have HEND := Lib.hid (And.intro hown' (show Keeps [] w w' from (HI.out.2.1.alloc' _).own hgrow' (fun j hj => (World.ownsRow.lt HI.out.1 j hj).1))); clear hown' hgrow')
        exact ⟨⟨i + 1, false, by simp, rfl, by omega, Lib.hid ⟨by rw [HXL.out]; exact HEND.out.1, HEND.out.2, HNX.out⟩⟩, by simp [intOf]; omega⟩
      by_cases w7 : x.toNat = 95
      · have g0 : (65 : Int) ≤ (x.toNat : Int) := by omega
        have g1 : ¬ (x.toNat : Int) ≤ 90 := by omega
        have g2 : ¬ (97 : Int) ≤ (x.toNat : Int) := by omega
        have g3 : (48 : Int) ≤ (x.toNat : Int) := by omega
        have g4 : ¬ (x.toNat : Int) ≤ 57 := by omega
        have g5 : ¬ (x.toNat : Int) = 45 := by omega
        have g6 : (x.toNat : Int) = 95 := by omega
        have g7 : ¬ (x.toNat : Int) = 46 := by omega
        have q5 : (((x.toNat : Int)) == 45) = false := beq_eq_false_iff_ne.2 g5
        have q6 : (((x.toNat : Int)) == 95) = true := beq_iff_eq.2 g6
        have q7 : (((x.toNat : Int)) == 46) = false := beq_eq_false_iff_ne.2 g7
        have hdv : d.toNat = x.toNat := by rw [hdn, if_neg (by omega)]
        have hdx : (d.toNat : Int) = 95 := by omega
        have hnx : scanF false (s.data.toList.drop (i + 1)) = R := by
          rw [← HI.out.2.2, HST.out, if_neg (by intro e; have e2 := congrArg UInt8.toNat e; simp at e2; omega)]
          have hok : okB d = true := by
            unfold okB
            simp
            omega
          rw [hok]; rfl
        have HNX := Lib.hid hnx
        have BYTE := Lib.hid (byte_one wr d 5)
        rw [hdx] at BYTE
        clear hnx HST h46 hdn hxb hdv
        go_wp2_with (at_builtin; refine wpList_append_bytes rfl (.tmp 67) (.tmp 69) w.heap.size 22 5 rfl Tryz.underlying22 Tryz.infoU8 _ i ((s.data.toList.take i).map lowerB) rfl (World.ownsRow.alloc HI.out.1 _) _ [d] rfl BYTE.out (by have := HSZ.out; simp; omega) (by rw [World.size_alloc]; have := HI.out.2.1.size; omega) ?_; intro v' w' hown' hgrow' _ _; have HEND := Lib.hid (And.intro hown' (show Keeps [] w w' from (HI.out.2.1.alloc' _).own hgrow' (fun j hj => (World.ownsRow.lt HI.out.1 j hj).1))); clear hown' hgrow')
        exact ⟨⟨i + 1, false, by simp, rfl, by omega, Lib.hid ⟨by rw [HXL.out]; exact HEND.out.1, HEND.out.2, HNX.out⟩⟩, by simp [intOf]; omega⟩
      by_cases w8 : x.toNat < 97
      · have g0 : (65 : Int) ≤ (x.toNat : Int) := by omega
        have g1 : ¬ (x.toNat : Int) ≤ 90 := by omega
        have g2 : ¬ (97 : Int) ≤ (x.toNat : Int) := by omega
        have g3 : (48 : Int) ≤ (x.toNat : Int) := by omega
        have g4 : ¬ (x.toNat : Int) ≤ 57 := by omega
        have g5 : ¬ (x.toNat : Int) = 45 := by omega
        have g6 : ¬ (x.toNat : Int) = 95 := by omega
        have g7 : ¬ (x.toNat : Int) = 46 := by omega
        have q5 : (((x.toNat : Int)) == 45) = false := beq_eq_false_iff_ne.2 g5
        have q6 : (((x.toNat : Int)) == 95) = false := beq_eq_false_iff_ne.2 g6
        have q7 : (((x.toNat : Int)) == 46) = false := beq_eq_false_iff_ne.2 g7
        have hdv : d.toNat = x.toNat := by rw [hdn, if_neg (by omega)]
        have hrf : R = false := by
          rw [← HI.out.2.2, HST.out]
          rw [if_neg (by intro e; have e2 := congrArg UInt8.toNat e; simp at e2; omega)]
          have hok : okB d = false := by
            unfold okB
            simp
            omega
          rw [hok]; rfl
        have hres := HRES.out.1 hrf
        obtain ⟨rfl, rfl⟩ := hres
        clear hrf HST h46 hdn hdv
        go_wp2_with fail
        go_ret2
        exact ⟨rfl, HI.out.2.1⟩
      by_cases w9 : x.toNat < 123
      · have g0 : (65 : Int) ≤ (x.toNat : Int) := by omega
        have g1 : ¬ (x.toNat : Int) ≤ 90 := by omega
        have g2 : (97 : Int) ≤ (x.toNat : Int) := by omega
        have g3 : (x.toNat : Int) ≤ 122 := by omega
        have g4 : ¬ (x.toNat : Int) = 46 := by omega
        have q4 : (((x.toNat : Int)) == 46) = false := beq_eq_false_iff_ne.2 g4
        have hdv : d.toNat = x.toNat := by rw [hdn, if_neg (by omega)]
        have hdx : (d.toNat : Int) = (x.toNat : Int) := by omega
        have hnx : scanF false (s.data.toList.drop (i + 1)) = R := by
          rw [← HI.out.2.2, HST.out, if_neg (by intro e; have e2 := congrArg UInt8.toNat e; simp at e2; omega)]
          have hok : okB d = true := by
            unfold okB
            simp
            omega
          rw [hok]; rfl
        have HNX := Lib.hid hnx
        have BYTE := Lib.hid (byte_one wr d 5)
        rw [hdx] at BYTE
        clear hnx HST h46 hdn hxb hdv
        go_wp2_with (at_builtin; refine wpList_append_bytes rfl (.tmp 67) (.tmp 69) w.heap.size 22 5 rfl Tryz.underlying22 Tryz.infoU8 _ i ((s.data.toList.take i).map lowerB) rfl (World.ownsRow.alloc HI.out.1 _) _ [d] rfl BYTE.out (by have := HSZ.out; simp; omega) (by rw [World.size_alloc]; have := HI.out.2.1.size; omega) ?_; intro v' w' hown' hgrow' _ _; have HEND := Lib.hid (And.intro hown' (show Keeps [] w w' from (HI.out.2.1.alloc' _).own hgrow' (fun j hj => (World.ownsRow.lt HI.out.1 j hj).1))); clear hown' hgrow')
        exact ⟨⟨i + 1, false, by simp, rfl, by omega, Lib.hid ⟨by rw [HXL.out]; exact HEND.out.1, HEND.out.2, HNX.out⟩⟩, by simp [intOf]; omega⟩
      have g0 : (65 : Int) ≤ (x.toNat : Int) := by omega
      have g1 : ¬ (x.toNat : Int) ≤ 90 := by omega
      have g2 : (97 : Int) ≤ (x.toNat : Int) := by omega
      have g3 : ¬ (x.toNat : Int) ≤ 122 := by omega
      have g4 : (48 : Int) ≤ (x.toNat : Int) := by omega
      have g5 : ¬ (x.toNat : Int) ≤ 57 := by omega
      have g6 : ¬ (x.toNat : Int) = 45 := by omega
      have g7 : ¬ (x.toNat : Int) = 95 := by omega
      have g8 : ¬ (x.toNat : Int) = 46 := by omega
      have q6 : (((x.toNat : Int)) == 45) = false := beq_eq_false_iff_ne.2 g6
      have q7 : (((x.toNat : Int)) == 95) = false := beq_eq_false_iff_ne.2 g7
      have q8 : (((x.toNat : Int)) == 46) = false := beq_eq_false_iff_ne.2 g8
      have hdv : d.toNat = x.toNat := by rw [hdn, if_neg (by omega)]
      have hrf : R = false := by
        rw [← HI.out.2.2, HST.out]
        rw [if_neg (by intro e; have e2 := congrArg UInt8.toNat e; simp at e2; omega)]
        have hok : okB d = false := by
          unfold okB
          simp
          omega
        rw [hok]; rfl
      have hres := HRES.out.1 hrf
      obtain ⟨rfl, rfl⟩ := hres
      clear hrf HST h46 hdn hdv
      go_wp2_with fail
      go_ret2
      exact ⟨rfl, HI.out.2.1⟩
    · obtain rfl : i = s.size := by omega
      have hlt' : ¬ (s.size : Int) < (s.size : Int) := by omega
      have hr : (!dot) = R := by
        rw [← HI.out.2.2, size_eq, List.drop_length]
        rfl
      cases dot with
      | true =>
        have hrf : R = false := hr.symm
        obtain ⟨rfl, rfl⟩ := HRES.out.1 hrf
        clear hr hrf
        go_wp2_with fail
        go_ret2
        exact ⟨rfl, HI.out.2.1⟩
      | false =>
        have hrf : R = true := hr.symm
        obtain ⟨rfl, rfl⟩ := HRES.out.2 hrf
        clear hr hrf
        have hown := HI.out.1
        have htk : s.data.toList.take s.size = s.data.toList := List.take_of_length_le (by rw [size_eq]; exact Nat.le_refl _)
        rw [htk] at hown
        rcases hown.2 with ⟨_, hz⟩ | ⟨g, cap, cur, rfl, hgb, hg, hnc, hm, hsz2, ht⟩
        · rw [hz] at h0
          exact absurd h0 (by simp)
        have hcv := run_convert_bytes_back (P := Tryz.prog) wr 22 9 5 ⟨g, 0, none⟩ cap (s.data.toList.map lowerB) Tryz.underlying22 Tryz.underlying5 Tryz.underlying9 (fun j hj => World.ownsRow.cells hown (g := g) rfl j _ (by
          rw [List.getElem?_map, List.getElem?_eq_getElem hj]
          rfl))
        rw [List.length_map, ← size_eq] at hcv
        clear hown htk hg hsz2 ht hgb hnc hm
        go_wp2_with fail
        go_ret2
        exact ⟨rfl, HI.out.2.1⟩
end Go.Proofs.YtpoheemjdieogaaGreatDoor
